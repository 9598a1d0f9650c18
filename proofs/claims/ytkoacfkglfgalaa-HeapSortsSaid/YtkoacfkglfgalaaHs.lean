/- HeapSorts holds: for every input the law returns true and the input reads as it did. Conditions: none. -/
import Derived.Test.YtkoacfkglfgalaaW
import Derived.Test.YtkoacfkglfgalaaX
namespace Go.Proofs.Ytkoacfkglfgalaa
open Go.ChangeShapes Go.WideShapes Go.ChangeAt Go.RowKit

set_option maxRecDepth 100000 in
theorem sorts_walk (W : World) (base : Nat) (args : Array Value) {H : Type} {enc : TypeId × Value → H} (ds : List (DataW H)) (p : List MemPlace) (hval : ∀ (j : Nat) t v, [22][j]? = some t → args[j]? = some v → Value.okWide Try.prog W .any base t v)
    (hA : DataW.TrodAll enc Try.prog W 0 (fun _ => true) true [22] args.toList ds p) (hsz : (DataW.weightsEach Try.prog [22] ds).all (· ≤ reachBytes) = true) :
    Calls Try.prog 3 args W fun e w' => e = .returned (.bool true) ∧ Below W.heap.size W w' := by
  obtain ⟨v, d, rfl, rfl, h⟩ := trodAll_one hA
  obtain ⟨a0, len, cap, rfl⟩ := okWide_slice (e := 30) (by kernel_rfl) (hval 0 22 v rfl rfl)
  obtain ⟨fuel, hf⟩ := h
  obtain ⟨A, n, c, f, hv, hn, hcell, _⟩ := open_arrays (e := 30) (i := 3) (k := 2) (by kernel_rfl) (by kernel_rfl) (by kernel_rfl) (by kernel_rfl) (by kernel_rfl) (by kernel_rfl) (by decide) hf (fun es sp hx => sized_slice hsz (j := 0) (t := 22) (e := 30) rfl (by rw [show d = _ from hx]; rfl) (by kernel_rfl))
  obtain ⟨rfl, rfl, rfl⟩ : a0 = A ∧ len = n ∧ cap = c := by injection hv with h1 h2 h3; exact ⟨h1, h2, h3⟩
  exact sorts_try (xs := (List.range len).map fun j => (f j 0, f j 1)) ⟨by simp, hn, fun h0 => by
    obtain ⟨b, off, e, hc⟩ := hcell h0
    refine ⟨b, off, e, fun j hj => ?_⟩
    rw [show ((List.range len).map fun j => (f j 0, f j 1)).getD j (0, 0) = (f j 0, f j 1) by simp [List.getD, hj]]
    exact ⟨by have := hc j hj 0 (by omega); simpa using this, hc j hj 1 (by omega)⟩⟩

set_option maxRecDepth 100000 in
theorem sorts_holds : Rows.HeapSortsSaid :=
  OpenClaim.holds_of_wide 3 Try.f3 rfl rfl rfl rfl rfl rfl rfl ⟨rfl, rfl, rfl, rfl, rfl⟩ rfl rfl rfl rfl rfl (by kernel_rfl) Try.func3 (by kernel_rfl)
    (of_decide_eq_true (by kernel_rfl)) (by unfold Func.isWrapper; rw [if_neg (of_decide_eq_false (by kernel_rfl))]; exact ⟨rfl, rfl⟩)
    (fun os started H enc _ => law_row started (s := Rows.heapSortsSpec) (ts := [22]) (b := 4) (by kernel_rfl) Try.func3 (by rw [Try.params3]) (by kernel_rfl) (by kernel_rfl) (by intro t ht; simp at ht; subst ht; exact ⟨by kernel_rfl, of_decide_eq_true (by kernel_rfl)⟩) rfl
      (fun ds hl => by
        match ds, hl with
        | [d], _ => rfl)
      (ChangeSpec.witness6 (enc := enc) (C := Try.checked) false ⟨#[], #[.slice none 0 0], []⟩ 8 (by kernel_rfl) (by kernel_rfl) (by kernel_rfl) (by kernel_rfl))
      (fun W base args ds p h1 h2 h3 => sorts_walk W base args ds p h1 h2 h3))
end Go.Proofs.Ytkoacfkglfgalaa
