/- CacheDear holds: for every input the law returns true and the input reads as it did. Conditions: none. -/
import Derived.Test.YtogedbednfbkmaaDb
import Derived.Test.YtogedbednfbkmaaLr
namespace Go.Proofs.Ytogedbednfbkmaa
open Go.ChangeShapes Go.WideShapes Go.ChangeAt Go.RowKit

set_option maxRecDepth 100000 in
theorem dear_walk (W : World) (base : Nat) (args : Array Value) {H : Type} {enc : TypeId × Value → H} (ds : List (DataW H)) (p : List MemPlace) (hval : ∀ (j : Nat) t v, [3, 3, 3][j]? = some t → args[j]? = some v → Value.okWide Try.prog W .any base t v)
    (hA : DataW.TrodAll enc Try.prog W 0 (fun _ => true) true [3, 3, 3] args.toList ds p) :
    Calls Try.prog 4 args W fun e w' => e = .returned (.bool true) ∧ Below W.heap.size W w' := by
  obtain ⟨v, v1, v2, d, d1, d2, p0, p1, p2, rfl, rfl, rfl, h, h1, h2⟩ := trodAll_three hA
  obtain ⟨k0, rfl, rfl, rfl, _⟩ := open_int (k := .i64) (by kernel_rfl) (hval 0 3 v rfl rfl) h
  obtain ⟨k1, rfl, rfl, rfl, _⟩ := open_int (k := .i64) (by kernel_rfl) (hval 1 3 v1 rfl rfl) h1
  obtain ⟨k2, rfl, rfl, rfl, _⟩ := open_int (k := .i64) (by kernel_rfl) (hval 2 3 v2 rfl rfl) h2
  exact dear_try W k0 k1 k2

set_option maxRecDepth 100000 in
theorem dear_holds : Rows.CacheDearSaid :=
  OpenClaim.holds_of_wide 4 Try.f4 rfl rfl rfl rfl rfl rfl rfl ⟨rfl, rfl, rfl, rfl, rfl⟩ rfl rfl rfl rfl rfl (by kernel_rfl) Try.func4 (by kernel_rfl)
    (of_decide_eq_true (by kernel_rfl)) (by unfold Func.isWrapper; rw [if_neg (of_decide_eq_false (by kernel_rfl))]; exact ⟨rfl, rfl⟩)
    (fun os started H enc _ => law_row started (s := Rows.cacheDearSpec) (ts := [3, 3, 3]) (b := 4) (by kernel_rfl) Try.func4 (by rw [Try.params4]) (by kernel_rfl) (by kernel_rfl) (by
        have h2 : Try.prog.readableRec 3 = true ∧ 3 < Try.prog.types.size := ⟨by kernel_rfl, of_decide_eq_true (by kernel_rfl)⟩
        intro t ht
        simp only [List.mem_cons, List.not_mem_nil, or_false] at ht
        rcases ht with rfl | rfl | rfl
        all_goals exact h2) rfl
      (fun ds hl => by
        match ds, hl with
        | [d, d1, d2], _ => rfl)
      (ChangeSpec.witness6 (enc := enc) (C := Try.checked) false ⟨#[], #[.int .i64 0, .int .i64 0, .int .i64 0], []⟩ 8 (by kernel_rfl) (by kernel_rfl) (by kernel_rfl) (by kernel_rfl))
      (fun W base args ds p h1 h2 _ => dear_walk W base args ds p h1 h2))
end Go.Proofs.Ytogedbednfbkmaa
