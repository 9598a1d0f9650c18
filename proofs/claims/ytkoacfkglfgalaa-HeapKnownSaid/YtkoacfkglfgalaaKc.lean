/- HeapKnown holds: the law returns true. Conditions: none. -/
import Derived.Test.YtkoacfkglfgalaaKb
import Derived.Test.YtkoacfkglfgalaaX
namespace Go.Proofs.Ytkoacfkglfgalaa
open Go.ChangeShapes Go.WideShapes Go.ChangeAt Go.RowKit

set_option maxRecDepth 100000 in
theorem known_holds : Rows.HeapKnownSaid :=
  OpenClaim.holds_of_wide 8 Try.f8 rfl rfl rfl rfl rfl rfl rfl ⟨rfl, rfl, rfl, rfl, rfl⟩ rfl rfl rfl rfl rfl (by kernel_rfl) Try.func8 (by kernel_rfl)
    (of_decide_eq_true (by kernel_rfl)) (by unfold Func.isWrapper; rw [if_neg (of_decide_eq_false (by kernel_rfl))]; exact ⟨rfl, rfl⟩)
    (fun os started H enc _ => law_row started (s := Rows.heapKnownSpec) (ts := []) (b := 4) (by kernel_rfl) Try.func8 (by rw [Try.params8]) (by kernel_rfl) (by kernel_rfl) (by intro t ht; simp at ht) rfl
      (fun ds hl => by
        match ds, hl with
        | [], _ => rfl)
      (ChangeSpec.witness6 (enc := enc) (C := Try.checked) false ⟨#[], #[], []⟩ 8 (by kernel_rfl) (by kernel_rfl) (by kernel_rfl) (by kernel_rfl))
      (fun W base args ds p h1 h2 h3 => by
        obtain ⟨hv, _, _⟩ := trodAll_nil h2
        have : args = #[] := by simpa using hv
        subst this
        exact known_try W))
end Go.Proofs.Ytkoacfkglfgalaa
