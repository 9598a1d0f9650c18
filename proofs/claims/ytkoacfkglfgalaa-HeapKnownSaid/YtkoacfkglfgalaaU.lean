/- The chapter's heap: works answers true, wherever it is called. Conditions: none. -/
import Derived.Test.YtkoacfkglfgalaaT
namespace Go.Proofs.Ytkoacfkglfgalaa
open Go.RowKit Go.Maps

/-- A heap of the call's own: its blocks from B on; below B nothing has turned since w0. -/
structure Own (B : Nat) (w0 w : World) (hb : Nat) (S : List Item) : Prop where
  isH : IsH (fun q => B ≤ q) w hb S
  below : Below B w0 w
  le : B ≤ w.heap.size
section
variable {B : Nat} {w0 w w' : World} {hb : Nat} {S S' : List Item}
theorem Own.left (h : Own B w0 w hb S) (l : Left (fun q => B ≤ q) w hb S' w') : Own B w0 w' hb S' :=
  ⟨l.isH.mono (fun q hq => hq.elim id (fun x => Nat.le_trans h.le x)), h.below.trans (l.kp.toBelow h.le (fun k hk x => by omega)), Nat.le_trans h.le l.kp.size⟩
theorem Own.after (h : Own B w0 w hb S) (b : Below w.heap.size w w') : Own B w0 w' hb S :=
  ⟨h.isH.below b, h.below.trans (b.mono h.le), Nat.le_trans h.le b.size⟩
theorem Own.start (h : IsH (fun q => w.heap.size ≤ q) w' hb S) (b : Below w.heap.size w w') : Own w.heap.size w w' hb S := ⟨h, b, b.size⟩
end

set_option maxHeartbeats 1000000 in
/-- Does a heap pop that? -/
theorem pops_c {B : Nat} {w0 w : World} {hb : Nat} {S : List Item} (h : Own B w0 w hb S) (id r : Int) :
    Calls Try.prog 29 #[.pointer (some ⟨hb, 0, none⟩), .int .i64 id, .int .i64 r] w fun e w' => e = .returned (.bool (popI S == id && popK S == r && popE S == 0)) ∧ Own B w0 w' hb S.tail := by
  have H0 := hid_ h
  clear h
  generalize h1 : (popI S == id) = b1
  generalize h2 : (popK S == r) = b2
  generalize h3 : (popE S == 0) = b3
  cases b1 <;> cases b2 <;> cases b3 <;>
  · go_enter Try.func29, Try.ntmps29
    go_wp2_with fail
    refine (pop_any H0.out.isH).mono ?_
    rintro e w1 ⟨rfl, hl⟩
    have HL := hid_ (H0.out.left hl)
    clear hl
    go_wp2
    go_ret
    exact ⟨rfl, HL.out⟩

theorem below_base {w w' : World} {B : Nat} (h : B ≤ w.heap.size) (b : Below w.heap.size w w') : Below B w w' := b.mono h

theorem idsS_eq {S : List Item} {xs : List Int} (h : (S.map (·.1)).Perm xs) (hs : xs.Pairwise (fun x y => leI x y = true)) : idsS S = xs := by
  unfold idsS
  rw [mergeSort_of_perm_i h]
  exact List.mergeSort_of_pairwise hs
theorem RdI.lit (w : World) (xs : List Int) (h : xs.length ≤ 1000) : RdI (w.alloc (.cells (xs.map (Value.int .i64)).toArray 3)) (some ⟨w.heap.size, 0, none⟩) xs.length xs := by
  refine ⟨rfl, by omega, fun h0 => ⟨_, rfl, fun j hj => ?_⟩⟩
  rw [World.cell?_alloc_at _ _ _ _ rfl]
  simp [List.getD_eq_getElem?_getD, hj]

set_option maxHeartbeats 4000000 in
theorem works_c (w : World) : Calls Try.prog 9 #[] w fun e w' => e = .returned (.bool true) ∧ Below w.heap.size w w' := by
  go_enter Try.func9, Try.ntmps9
  go_wp2_with fail
  refine (hnew_c w).mono ?_
  rintro e w1 ⟨hb, rfl, hN, hB⟩
  have O1 := hid_ (Own.start hN hB)
  clear hN hB
  go_wp2_with fail
  refine (put_any O1.out.isH 5 2).mono ?_
  rintro e w2 ⟨rfl, hl⟩
  have O2 := hid_ (O1.out.left hl)
  clear hl
  rw [show putE 5 2 = 0 by decide]
  rw [show putR 5 2 [] = [(5, 2)] by decide] at O2
  go_wp2_with fail
  refine (put_any O2.out.isH 3 2).mono ?_
  rintro e w3 ⟨rfl, hl⟩
  have O3 := hid_ (O2.out.left hl)
  clear hl
  rw [show putE 3 2 = 0 by decide]
  rw [show putR 3 2 [(5, 2)] = [(3, 2), (5, 2)] by decide] at O3
  go_wp2_with fail
  refine (put_any O3.out.isH 9 1).mono ?_
  rintro e w4 ⟨rfl, hl⟩
  have O4 := hid_ (O3.out.left hl)
  clear hl
  rw [show putE 9 1 = 0 by decide]
  rw [show putR 9 1 [(3, 2), (5, 2)] = [(9, 1), (3, 2), (5, 2)] by decide] at O4
  go_wp2_with fail
  refine (first_any O4.out.isH).mono ?_
  rintro e w5 ⟨rfl, hl⟩
  have O5 := hid_ (O4.out.after hl)
  clear hl
  rw [show popI [(9, 1), (3, 2), (5, 2)] = 9 by decide, show popK [(9, 1), (3, 2), (5, 2)] = 1 by decide, show popE [(9, 1), (3, 2), (5, 2)] = 0 by decide]
  go_wp2_with fail
  refine (ids_c O5.out.isH).mono ?_
  rintro e w6 ⟨A, c, rfl, hown, hl⟩
  have O6 := hid_ (O5.out.after hl)
  have HR := hid_ (RdI.of_own hown (by simp))
  clear hl hown
  go_wp2_with fail
  refine (eqints_c (ys := [3, 5, 9]) (HR.out.below ((Below.refl _ _).alloc (Nat.le_refl _) _)) (RdI.lit w6 [3, 5, 9] (by decide))).mono ?_
  rintro e w7 ⟨rfl, hl⟩
  have O7 := hid_ (O6.out.after (((Below.refl _ _).alloc (Nat.le_refl _) _).trans (hl.mono (by simp))))
  clear hl
  rw [idsS_eq (xs := [3, 5, 9]) (by decide) (by decide), show decide (([3, 5, 9] : List Int) = [3, 5, 9]) = true by decide]
  go_wp2_with fail
  refine (pops_c O7.out 9 1).mono ?_
  rintro e w8 ⟨rfl, hl⟩
  have O8 := hid_ hl
  clear hl
  rw [show (popI [(9, 1), (3, 2), (5, 2)] == 9 && popK [(9, 1), (3, 2), (5, 2)] == 1 && popE [(9, 1), (3, 2), (5, 2)] == 0) = true by decide]
  go_wp2_with fail
  refine (pops_c O8.out 3 2).mono ?_
  rintro e w9 ⟨rfl, hl⟩
  have O9 := hid_ hl
  clear hl
  rw [show (popI (List.tail [(9, 1), (3, 2), (5, 2)]) == 3 && popK (List.tail [(9, 1), (3, 2), (5, 2)]) == 2 && popE (List.tail [(9, 1), (3, 2), (5, 2)]) == 0) = true by decide]
  go_wp2_with fail
  refine (put_any O9.out.isH 5 0).mono ?_
  rintro e w10 ⟨rfl, hl⟩
  have O10 := hid_ (O9.out.left hl)
  clear hl
  rw [show putE 5 0 = 0 by decide]
  rw [show putR 5 0 (List.tail (List.tail [(9, 1), (3, 2), (5, 2)])) = [(5, 0)] by decide] at O10
  go_wp2_with fail
  refine (pops_c O10.out 5 0).mono ?_
  rintro e w11 ⟨rfl, hl⟩
  have O11 := hid_ hl
  clear hl
  rw [show (popI [(5, 0)] == 5 && popK [(5, 0)] == 0 && popE [(5, 0)] == 0) = true by decide]
  go_wp2_with fail
  refine (pop_any O11.out.isH).mono ?_
  rintro e w12 ⟨rfl, hl⟩
  have O12 := hid_ (O11.out.left hl)
  clear hl
  rw [show popI (List.tail [(5, 0)]) = 0 by decide, show popK (List.tail [(5, 0)]) = 0 by decide, show popE (List.tail [(5, 0)]) = 9 by decide]
  go_wp2_with fail
  refine (put_any O12.out.isH (-1) 0).mono ?_
  rintro e w13 ⟨rfl, hl⟩
  have O13 := hid_ (O12.out.left hl)
  clear hl
  rw [show putE (-1) 0 = 9 by decide]
  go_wp2_with fail
  refine (put_any O13.out.isH 10000 0).mono ?_
  rintro e w14 ⟨rfl, hl⟩
  have O14 := hid_ (O13.out.left hl)
  clear hl
  rw [show putE 10000 0 = 9 by decide]
  go_wp2_with fail
  refine (put_any O14.out.isH 0 (-1)).mono ?_
  rintro e w15 ⟨rfl, hl⟩
  have O15 := hid_ (O14.out.left hl)
  clear hl
  rw [show putE 0 (-1) = 9 by decide]
  rw [show putR 0 (-1) (putR 10000 0 (putR (-1) 0 (List.tail (List.tail [(5, 0)])))) = [] by decide] at O15
  go_wp2_with fail
  refine (remove_any O15.out.isH 7 (by decide)).mono ?_
  rintro e w16 ⟨rfl, hl⟩
  have O16 := hid_ (O15.out.left hl)
  clear hl
  rw [show remE 7 [] = 50 by decide]
  go_wp2
  go_ret
  exact ⟨rfl, O16.out.below⟩
end Go.Proofs.Ytkoacfkglfgalaa
