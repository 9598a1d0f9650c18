/- CacheOld holds: for every input the law returns true and the input reads as it did. Conditions: none. -/
import Derived.Test.YtogedbednfbkmaaHc
import Derived.Test.YtogedbednfbkmaaLr
namespace Go.Proofs.Ytogedbednfbkmaa
open Go.ChangeShapes Go.WideShapes Go.ChangeAt Go.RowKit

set_option maxRecDepth 100000 in
theorem old_walk (W : World) (base : Nat) (args : Array Value) {H : Type} {enc : TypeId × Value → H} (ds : List (DataW H)) (p : List MemPlace) (hval : ∀ (j : Nat) t v, [3, 22][j]? = some t → args[j]? = some v → Value.okWide Try.prog W .any base t v)
    (hA : DataW.TrodAll enc Try.prog W 0 (fun _ => true) true [3, 22] args.toList ds p) (hsz : (DataW.weightsEach Try.prog [3, 22] ds).all (· ≤ reachBytes) = true) :
    Calls Try.prog 3 args W fun e w' => e = .returned (.bool true) ∧ Below W.heap.size W w' := by
  obtain ⟨v, v1, d, d1, p0, p1, rfl, rfl, rfl, h, h1⟩ := trodAll_two hA
  obtain ⟨k0, rfl, rfl, rfl, _⟩ := open_int (k := .i64) (by kernel_rfl) (hval 0 3 v rfl rfl) h
  obtain ⟨a0, len, cap, rfl⟩ := okWide_slice (e := 31) (by kernel_rfl) (hval 1 22 v1 rfl rfl)
  obtain ⟨fuel, hf⟩ := h1
  obtain ⟨A, n, c, f, hv, hn, hcell, hwf⟩ := open_structs (e := 31) (i := 3) (k := 4) (by kernel_rfl) Try.underlying31 (by kernel_rfl) (by kernel_rfl) (by
      intro l f hf
      match l, hf with
      | 0, hf => simp at hf; subst hf; rfl
      | 1, hf => simp at hf; subst hf; rfl
      | 2, hf => simp at hf; subst hf; rfl
      | 3, hf => simp at hf; subst hf; rfl
      | n + 4, hf => simp at hf) rfl (by kernel_rfl) (by kernel_rfl) (by decide) hf (fun es sp hx => sized_slice hsz (j := 1) (t := 22) (e := 31) rfl (by rw [show d1 = _ from hx]; rfl) (by kernel_rfl))
  obtain ⟨rfl, rfl, rfl⟩ : a0 = A ∧ len = n ∧ cap = c := by injection hv with h1 h2 h3; exact ⟨h1, h2, h3⟩
  exact old_try k0 ⟨hn, hcell⟩

set_option maxRecDepth 100000 in
theorem old_holds : Rows.CacheOldSaid :=
  OpenClaim.holds_of_wide 3 Try.f3 rfl rfl rfl rfl rfl rfl rfl ⟨rfl, rfl, rfl, rfl, rfl⟩ rfl rfl rfl rfl rfl (by kernel_rfl) Try.func3 (by kernel_rfl)
    (of_decide_eq_true (by kernel_rfl)) (by unfold Func.isWrapper; rw [if_neg (of_decide_eq_false (by kernel_rfl))]; exact ⟨rfl, rfl⟩)
    (fun os started H enc _ => law_row started (s := Rows.cacheOldSpec) (ts := [3, 22]) (b := 4) (by kernel_rfl) Try.func3 (by rw [Try.params3]) (by kernel_rfl) (by kernel_rfl) (by
        have h1 : Try.prog.readableRec 3 = true ∧ 3 < Try.prog.types.size := ⟨by kernel_rfl, of_decide_eq_true (by kernel_rfl)⟩
        have h2 : Try.prog.readableRec 22 = true ∧ 22 < Try.prog.types.size := ⟨by kernel_rfl, of_decide_eq_true (by kernel_rfl)⟩
        intro t ht
        simp only [List.mem_cons, List.not_mem_nil, or_false] at ht
        rcases ht with rfl | rfl
        · exact h1
        · exact h2) rfl
      (fun ds hl => by
        match ds, hl with
        | [d, d1], _ => rfl)
      (ChangeSpec.witness6 (enc := enc) (C := Try.checked) false ⟨#[], #[.int .i64 0, .slice none 0 0], []⟩ 8 (by kernel_rfl) (by kernel_rfl) (by kernel_rfl) (by kernel_rfl))
      (fun W base args ds p h1 h2 h3 => old_walk W base args ds p h1 h2 h3))
end Go.Proofs.Ytogedbednfbkmaa
