/- CacheKnown holds: the law returns true. Conditions: none. -/
import Derived.Test.YtogedbednfbkmaaJb
import Derived.Test.YtogedbednfbkmaaLr
namespace Go.Proofs.Ytogedbednfbkmaa
open Go.ChangeShapes Go.WideShapes Go.ChangeAt Go.RowKit

set_option maxRecDepth 100000 in
theorem known_holds : Rows.CacheKnownSaid :=
  OpenClaim.holds_of_wide 9 Try.f9 rfl rfl rfl rfl rfl rfl rfl ⟨rfl, rfl, rfl, rfl, rfl⟩ rfl rfl rfl rfl rfl (by kernel_rfl) Try.func9 (by kernel_rfl)
    (of_decide_eq_true (by kernel_rfl)) (by unfold Func.isWrapper; rw [if_neg (of_decide_eq_false (by kernel_rfl))]; exact ⟨rfl, rfl⟩)
    (fun os started H enc _ => law_row started (s := Rows.cacheKnownSpec) (ts := []) (b := 4) (by kernel_rfl) Try.func9 (by rw [Try.params9]) (by kernel_rfl) (by kernel_rfl) (by intro t ht; simp at ht) rfl
      (fun ds hl => by
        match ds, hl with
        | [], _ => rfl)
      (ChangeSpec.witness6 (enc := enc) (C := Try.checked) false ⟨#[], #[], []⟩ 9 (by kernel_rfl) (by kernel_rfl) (by kernel_rfl) (by kernel_rfl))
      (fun W base args ds p h1 h2 h3 => by
        obtain ⟨hv, _, _⟩ := trodAll_nil h2
        have : args = #[] := by simpa using hv
        subst this
        exact known_try W))
end Go.Proofs.Ytogedbednfbkmaa
