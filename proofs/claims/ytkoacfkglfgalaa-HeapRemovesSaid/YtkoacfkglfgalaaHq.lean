/- HeapRemoves holds: for every input the law returns true and the input reads as it did. Conditions: none. -/
import Derived.Test.YtkoacfkglfgalaaHr
import Derived.Test.YtkoacfkglfgalaaZ
namespace Go.Proofs.Ytkoacfkglfgalaa
open Go.ChangeShapes Go.WideShapes Go.ChangeAt Go.RowKit

set_option maxRecDepth 100000 in
theorem removes_walk (W : World) (base : Nat) (args : Array Value) {H : Type} {enc : TypeId × Value → H} (ds : List (DataW H)) (p : List MemPlace) (hval : ∀ (j : Nat) t v, [22, 37][j]? = some t → args[j]? = some v → Value.okWide Try.prog W .any base t v)
    (hA : DataW.TrodAll enc Try.prog W 0 (fun _ => true) true [22, 37] args.toList ds p) (hsz : (DataW.weightsEach Try.prog [22, 37] ds).all (· ≤ reachBytes) = true) :
    Calls Try.prog 6 args W fun e w' => e = .returned (.bool true) ∧ Below W.heap.size W w' := by
  obtain ⟨v, v1, d, d1, p0, p1, rfl, rfl, rfl, h, h1⟩ := trodAll_two hA
  obtain ⟨a0, len, cap, rfl⟩ := okWide_slice (e := 30) (by kernel_rfl) (hval 0 22 v rfl rfl)
  obtain ⟨a1, len1, cap1, rfl⟩ := okWide_slice (e := 3) (by kernel_rfl) (hval 1 37 v1 rfl rfl)
  obtain ⟨fuel, hf⟩ := h
  obtain ⟨fuel1, hf1⟩ := h1
  obtain ⟨A, n, c, f, hv, hn, hcell, _⟩ := open_arrays (e := 30) (i := 3) (k := 2) (by kernel_rfl) (by kernel_rfl) (by kernel_rfl) (by kernel_rfl) (by kernel_rfl) (by kernel_rfl) (by decide) hf (fun es sp hx => sized_slice hsz (j := 0) (t := 22) (e := 30) rfl (by rw [show d = _ from hx]; rfl) (by kernel_rfl))
  obtain ⟨rfl, rfl, rfl⟩ : a0 = A ∧ len = n ∧ cap = c := by injection hv with h1 h2 h3; exact ⟨h1, h2, h3⟩
  obtain ⟨A1, n1, c1, f1, hv1, hn1, hrd1, hz1, _⟩ := open_whole (i := 3) (by kernel_rfl) (by kernel_rfl) (by kernel_rfl) (by kernel_rfl) hf1 (fun es sp hx => sized_slice hsz (j := 1) (t := 37) (e := 3) rfl (by rw [show d1 = _ from hx]; rfl) (by kernel_rfl))
  obtain ⟨rfl, rfl, rfl⟩ : a1 = A1 ∧ len1 = n1 ∧ cap1 = c1 := by injection hv1 with h1 h2 h3; exact ⟨h1, h2, h3⟩
  exact removes_try (xs := (List.range len).map fun j => (f j 0, f j 1)) ⟨by simp, hn, fun h0 => by
    obtain ⟨b, off, e, hc⟩ := hcell h0
    refine ⟨b, off, e, fun j hj => ?_⟩
    rw [show ((List.range len).map fun j => (f j 0, f j 1)).getD j (0, 0) = (f j 0, f j 1) by simp [List.getD, hj]]
    exact ⟨by have := hc j hj 0 (by omega); simpa using this, hc j hj 1 (by omega)⟩⟩ hrd1 hn1 hz1

set_option maxRecDepth 100000 in
theorem removes_holds : Rows.HeapRemovesSaid :=
  OpenClaim.holds_of_wide 6 Try.f6 rfl rfl rfl rfl rfl rfl rfl ⟨rfl, rfl, rfl, rfl, rfl⟩ rfl rfl rfl rfl rfl (by kernel_rfl) Try.func6 (by kernel_rfl)
    (of_decide_eq_true (by kernel_rfl)) (by unfold Func.isWrapper; rw [if_neg (of_decide_eq_false (by kernel_rfl))]; exact ⟨rfl, rfl⟩)
    (fun os started H enc _ => law_row started (s := Rows.heapRemovesSpec) (ts := [22, 37]) (b := 4) (by kernel_rfl) Try.func6 (by rw [Try.params6]) (by kernel_rfl) (by kernel_rfl) (by
        have h1 : Try.prog.readableRec 22 = true ∧ 22 < Try.prog.types.size := ⟨by kernel_rfl, of_decide_eq_true (by kernel_rfl)⟩
        have h2 : Try.prog.readableRec 37 = true ∧ 37 < Try.prog.types.size := ⟨by kernel_rfl, of_decide_eq_true (by kernel_rfl)⟩
        intro t ht
        simp only [List.mem_cons, List.not_mem_nil, or_false] at ht
        rcases ht with rfl | rfl
        · exact h1
        · exact h2) rfl
      (fun ds hl => by
        match ds, hl with
        | [d, d1], _ => rfl)
      (ChangeSpec.witness6 (enc := enc) (C := Try.checked) false ⟨#[], #[.slice none 0 0, .slice none 0 0], []⟩ 8 (by kernel_rfl) (by kernel_rfl) (by kernel_rfl) (by kernel_rfl))
      (fun W base args ds p h1 h2 h3 => removes_walk W base args ds p h1 h2 h3))
end Go.Proofs.Ytkoacfkglfgalaa
