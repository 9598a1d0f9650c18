/- HeapFirst holds: for every input the law returns true and the input reads as it did. Conditions: none. -/
import Derived.Test.YtkoacfkglfgalaaHf
import Derived.Test.YtkoacfkglfgalaaX
namespace Go.Proofs.Ytkoacfkglfgalaa
open Go.ChangeShapes Go.WideShapes Go.ChangeAt Go.RowKit

set_option maxRecDepth 100000 in
theorem first_walk (W : World) (base : Nat) (args : Array Value) {H : Type} {enc : TypeId × Value → H} (ds : List (DataW H)) (p : List MemPlace) (hval : ∀ (j : Nat) t v, [40][j]? = some t → args[j]? = some v → Value.okWide Try.prog W .any base t v)
    (hA : DataW.TrodAll enc Try.prog W 0 (fun _ => true) true [40] args.toList ds p) (hsz : (DataW.weightsEach Try.prog [40] ds).all (· ≤ reachBytes) = true) :
    Calls Try.prog 5 args W fun e w' => e = .returned (.bool true) ∧ Below W.heap.size W w' := by
  obtain ⟨v, d, rfl, rfl, h⟩ := trodAll_one hA
  obtain ⟨a0, len, cap, rfl⟩ := okWide_slice (e := 41) (by kernel_rfl) (hval 0 40 v rfl rfl)
  obtain ⟨fuel, hf⟩ := h
  obtain ⟨A, n, c, f, hv, hn, hcell, _⟩ := open_arrays (e := 41) (i := 3) (k := 3) (by kernel_rfl) (by kernel_rfl) (by kernel_rfl) (by kernel_rfl) (by kernel_rfl) (by kernel_rfl) (by decide) hf (fun es sp hx => sized_slice hsz (j := 0) (t := 40) (e := 41) rfl (by rw [show d = _ from hx]; rfl) (by kernel_rfl))
  obtain ⟨rfl, rfl, rfl⟩ : a0 = A ∧ len = n ∧ cap = c := by injection hv with h1 h2 h3; exact ⟨h1, h2, h3⟩
  exact first_try ⟨hn, hcell⟩

set_option maxRecDepth 100000 in
theorem first_holds : Rows.HeapFirstSaid :=
  OpenClaim.holds_of_wide 5 Try.f5 rfl rfl rfl rfl rfl rfl rfl ⟨rfl, rfl, rfl, rfl, rfl⟩ rfl rfl rfl rfl rfl (by kernel_rfl) Try.func5 (by kernel_rfl)
    (of_decide_eq_true (by kernel_rfl)) (by unfold Func.isWrapper; rw [if_neg (of_decide_eq_false (by kernel_rfl))]; exact ⟨rfl, rfl⟩)
    (fun os started H enc _ => law_row started (s := Rows.heapFirstSpec) (ts := [40]) (b := 4) (by kernel_rfl) Try.func5 (by rw [Try.params5]) (by kernel_rfl) (by kernel_rfl) (by intro t ht; simp at ht; subst ht; exact ⟨by kernel_rfl, of_decide_eq_true (by kernel_rfl)⟩) rfl
      (fun ds hl => by
        match ds, hl with
        | [d], _ => rfl)
      (ChangeSpec.witness6 (enc := enc) (C := Try.checked) false ⟨#[], #[.slice none 0 0], []⟩ 8 (by kernel_rfl) (by kernel_rfl) (by kernel_rfl) (by kernel_rfl))
      (fun W base args ds p h1 h2 h3 => first_walk W base args ds p h1 h2 h3))
end Go.Proofs.Ytkoacfkglfgalaa
