/- HeapTurned holds: for every input the law returns true and the input reads as it did. Conditions: none. -/
import Derived.Test.YtkoacfkglfgalaaHt
import Derived.Test.YtkoacfkglfgalaaX
namespace Go.Proofs.Ytkoacfkglfgalaa
open Go.ChangeShapes Go.WideShapes Go.ChangeAt Go.RowKit

/-- A slice of whole numbers, opened. -/
theorem open_whole {H : Type} {enc : TypeId × Value → H} {P : Program} {w : World} {t i : TypeId} {fuel : Nat} {v : Value} {x : DataW H × List MemPlace} (ht : P.underlying t = some (.slice i)) (hi : P.underlying i = some (.int .i64))
    (hc : P.cellsOf i = 1) (hb : P.bytesOf i = 8) (h : DataW.trod enc P w 0 (fun _ => true) true fuel t [v] = some x) (hw : ∀ elems spare, x.1 = .slice elems spare → (elems.length + spare.length) * P.bytesOf i ≤ reachBytes) :
    ∃ (A : Option Addr) (n c : Nat) (f : Nat → Int), v = .slice A n c ∧ n ≤ c ∧ RdO w A n f ∧ (A = none → c = 0) ∧ (∀ j, j < n → (Lit.int .i64 (f j)).wf = true) := by
  rcases open_ints ht hi hc h with ⟨hcs, hx⟩ | ⟨a, len', cap', zs, hcs, _, hl, hm, hz, hx, hcell, hwz⟩
  · simp only [List.cons.injEq, and_true] at hcs
    subst hcs
    exact ⟨none, 0, 0, fun _ => 0, rfl, Nat.le_refl _, ⟨by omega, fun h => by omega⟩, fun _ => rfl, fun _ h => by omega⟩
  · simp only [List.cons.injEq, and_true] at hcs
    subst hcs
    simp only [if_true] at hz
    have hreach := hw _ _ (by rw [hx])
    rw [hb] at hreach
    simp only [lits, List.length_map, List.length_take, List.length_drop, reachBytes] at hreach
    refine ⟨some a, len', cap', fun j => zs.getD j 0, rfl, hl, ⟨by omega, fun h0 => ?_⟩, fun h => (by cases h), fun j hj => ?_⟩
    · obtain ⟨b, off, spot⟩ := a
      have hspot : spot = none := by simpa [Addr.add] using World.cell?_spot (hcell 0 (by omega))
      subst hspot
      refine ⟨b, off, rfl, fun j hj => ?_⟩
      rw [← add_plain]
      exact hcell j (by omega)
    · refine hwz _ ?_
      show zs.getD j 0 ∈ zs
      rw [List.getD_eq_getElem?_getD, List.getElem?_eq_getElem (by omega)]
      exact List.getElem_mem _

set_option maxRecDepth 100000 in
theorem turned_walk (W : World) (base : Nat) (args : Array Value) {H : Type} {enc : TypeId × Value → H} (ds : List (DataW H)) (p : List MemPlace) (hval : ∀ (j : Nat) t v, [37, 3, 3][j]? = some t → args[j]? = some v → Value.okWide Try.prog W .any base t v)
    (hA : DataW.TrodAll enc Try.prog W 0 (fun _ => true) true [37, 3, 3] args.toList ds p) (hsz : (DataW.weightsEach Try.prog [37, 3, 3] ds).all (· ≤ reachBytes) = true) :
    Calls Try.prog 4 args W fun e w' => e = .returned (.bool true) ∧ Below W.heap.size W w' := by
  obtain ⟨v, v1, v2, d, d1, d2, p0, p1, p2, rfl, rfl, rfl, h, h1, h2⟩ := trodAll_three hA
  obtain ⟨a0, len, cap, rfl⟩ := okWide_slice (e := 3) (by kernel_rfl) (hval 0 37 v rfl rfl)
  obtain ⟨k1, rfl, rfl, rfl, _⟩ := open_int (k := .i64) (by kernel_rfl) (hval 1 3 v1 rfl rfl) h1
  obtain ⟨k2, rfl, rfl, rfl, _⟩ := open_int (k := .i64) (by kernel_rfl) (hval 2 3 v2 rfl rfl) h2
  obtain ⟨fuel, hf⟩ := h
  obtain ⟨A, n, c, f, hv, hn, hrd, _, _⟩ := open_whole (i := 3) (by kernel_rfl) (by kernel_rfl) (by kernel_rfl) (by kernel_rfl) hf (fun es sp hx => sized_slice hsz (j := 0) (t := 37) (e := 3) rfl (by rw [show d = _ from hx]; rfl) (by kernel_rfl))
  obtain ⟨rfl, rfl, rfl⟩ : a0 = A ∧ len = n ∧ cap = c := by injection hv with h1 h2 h3; exact ⟨h1, h2, h3⟩
  exact turned_try hrd k1 k2

set_option maxRecDepth 100000 in
theorem turned_holds : Rows.HeapTurnedSaid :=
  OpenClaim.holds_of_wide 4 Try.f4 rfl rfl rfl rfl rfl rfl rfl ⟨rfl, rfl, rfl, rfl, rfl⟩ rfl rfl rfl rfl rfl (by kernel_rfl) Try.func4 (by kernel_rfl)
    (of_decide_eq_true (by kernel_rfl)) (by unfold Func.isWrapper; rw [if_neg (of_decide_eq_false (by kernel_rfl))]; exact ⟨rfl, rfl⟩)
    (fun os started H enc _ => law_row started (s := Rows.heapTurnedSpec) (ts := [37, 3, 3]) (b := 4) (by kernel_rfl) Try.func4 (by rw [Try.params4]) (by kernel_rfl) (by kernel_rfl) (by
        have h1 : Try.prog.readableRec 37 = true ∧ 37 < Try.prog.types.size := ⟨by kernel_rfl, of_decide_eq_true (by kernel_rfl)⟩
        have h2 : Try.prog.readableRec 3 = true ∧ 3 < Try.prog.types.size := ⟨by kernel_rfl, of_decide_eq_true (by kernel_rfl)⟩
        intro t ht
        simp only [List.mem_cons, List.not_mem_nil, or_false] at ht
        rcases ht with rfl | rfl | rfl
        · exact h1
        · exact h2
        · exact h2) rfl
      (fun ds hl => by
        match ds, hl with
        | [d, d1, d2], _ => rfl)
      (ChangeSpec.witness6 (enc := enc) (C := Try.checked) false ⟨#[], #[.slice none 0 0, .int .i64 0, .int .i64 0], []⟩ 8 (by kernel_rfl) (by kernel_rfl) (by kernel_rfl) (by kernel_rfl))
      (fun W base args ds p h1 h2 h3 => turned_walk W base args ds p h1 h2 h3))
end Go.Proofs.Ytkoacfkglfgalaa
