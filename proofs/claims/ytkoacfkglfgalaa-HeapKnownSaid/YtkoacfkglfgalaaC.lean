/- The row of items: its methods Len, Less. Conditions: those that each theorem names. -/
import Derived.Test.YtkoacfkglfgalaaB
namespace Go.Proofs.Ytkoacfkglfgalaa
open Go.RowKit Go.Maps

def cmpI (a b : Int) : Int := if a < b then -1 else if b < a then 1 else 0
def orI (a b : Int) : Int := if a = 0 then b else a
/-- Is an item (its id, its rank) ahead of another one? -/
def ltI (x y : Int × Int) : Bool := decide (x.2 < y.2 ∨ x.2 = y.2 ∧ x.1 < y.1)
theorem ltI_is (x y : Int × Int) : decide (orI (cmpI x.2 y.2) (cmpI x.1 y.1) < 0) = ltI x y := by
  unfold ltI orI cmpI
  apply decide_eq_decide.2
  by_cases h1 : x.2 < y.2 <;> by_cases h2 : y.2 < x.2 <;> by_cases h3 : x.1 < y.1 <;> by_cases h4 : y.1 < x.1 <;> simp [h1, h2, h3, h4] <;> omega

theorem compare_c (a b : Int) (w : World) : Calls Try.prog 49 #[.int .i64 a, .int .i64 b] w fun e w' => e = .returned (.int .i64 (cmpI a b)) ∧ w = w' := by
  unfold cmpI
  by_cases h1 : a < b
  · go_enter Try.func49, Try.ntmps49
    go_wp2
    go_ret
    simp [h1]
  · by_cases h2 : b < a
    · go_enter Try.func49, Try.ntmps49
      go_wp2
      go_ret
      simp [h1, h2]
    · go_enter Try.func49, Try.ntmps49
      go_wp2
      go_ret
      simp [h1, h2]

theorem or_c (g : Nat) (a b : Int) (w : World) (h0 : w.cell? ⟨g, 0, none⟩ = some (.int .i64 a)) (h1 : w.cell? ⟨g, 1, none⟩ = some (.int .i64 b)) :
    Calls Try.prog 48 #[.slice (some ⟨g, 0, none⟩) 2 2] w fun e w' => e = .returned (.int .i64 (orI a b)) ∧ w = w' := by
  unfold orI
  by_cases ha : a = 0
  · by_cases hb : b = 0
    · have e1 : (a != 0) = false := by simp [ha]
      have e2 : (b != 0) = false := by simp [hb]
      have HA := hid_ ha
      have HB := hid_ hb
      clear ha hb
      go_enter Try.func48, Try.ntmps48
      go_wp2
      go_rounds 3
      go_ret
      simp [HA.out, HB.out]
    · have e1 : (a != 0) = false := by simp [ha]
      have e2 : (b != 0) = true := by simp [hb]
      have HA := hid_ ha
      clear ha hb
      go_enter Try.func48, Try.ntmps48
      go_wp2
      go_rounds 3
      go_ret
      simp [HA.out]
  · have e1 : (a != 0) = true := by simp [ha]
    have HA := hid_ ha
    clear ha
    go_enter Try.func48, Try.ntmps48
    go_wp2
    go_rounds 3
    go_ret
    simp [HA.out]

set_option maxHeartbeats 400000 in
theorem ahead_c (x1 r1 x2 r2 : Int) (w : World) :
    Calls Try.prog 30 #[.agg #[.int .i64 x1, .int .i64 r1], .agg #[.int .i64 x2, .int .i64 r2]] w fun e w' => e = .returned (.bool (ltI (x1, r1) (x2, r2))) ∧ Below w.heap.size w w' := by
  have hlt := hid_ (ltI_is (x1, r1) (x2, r2))
  go_enter Try.func30, Try.ntmps30
  go_wp2
  go_region_held3 (fun W => W.cell? ⟨w.heap.size, 0, none⟩ = some (.int .i64 x1) ∧ W.cell? ⟨w.heap.size, 1, none⟩ = some (.int .i64 r1) ∧ W.cell? ⟨w.heap.size + 1, 0, none⟩ = some (.int .i64 x2) ∧ W.cell? ⟨w.heap.size + 1, 1, none⟩ = some (.int .i64 r2))
    (first | go_keep | (refine ⟨?_, ?_, ?_, ?_⟩ <;> go_simp))
    (first | (go_at_call 49; refine (compare_c _ _ _).mono ?_; rintro e w' ⟨rfl, rfl⟩) | (go_at_call 48; refine (or_c _ (cmpI r1 r2) (cmpI x1 x2) _ (by go_simp) (by go_simp)).mono ?_; (rintro e w' ⟨rfl, rfl⟩)))
  go_wp2
  go_ret
  refine ⟨congrArg (fun b => Ending.returned (.bool b)) hlt.out, ?_⟩
  go_grown

/-- The cells of items. -/
def flat (L : List (Int × Int)) : List Value := L.flatMap fun p => [.int .i64 p.1, .int .i64 p.2]
theorem flat_length (L : List (Int × Int)) : (flat L).length = L.length * 2 := by
  induction L with
  | nil => rfl
  | cons a L ih => simp [flat] at ih ⊢; omega
theorem flat_cons (a : Int × Int) (L : List (Int × Int)) : flat (a :: L) = .int .i64 a.1 :: .int .i64 a.2 :: flat L := by simp [flat]
theorem flat_append (L M : List (Int × Int)) : flat (L ++ M) = flat L ++ flat M := by simp [flat]
theorem flat_at0 : ∀ (L : List (Int × Int)) (i : Nat) (h : i < L.length), (flat L)[i * 2]? = some (.int .i64 (L[i]'h).1)
  | a :: L, 0, _ => by simp [flat_cons]
  | a :: L, i + 1, h => by
    rw [flat_cons, show (i + 1) * 2 = i * 2 + 1 + 1 by omega]
    simpa using flat_at0 L i (by simpa using h)
theorem flat_at1 : ∀ (L : List (Int × Int)) (i : Nat) (h : i < L.length), (flat L)[i * 2 + 1]? = some (.int .i64 (L[i]'h).2)
  | a :: L, 0, _ => by simp [flat_cons]
  | a :: L, i + 1, h => by
    rw [flat_cons, show (i + 1) * 2 + 1 = i * 2 + 1 + 1 + 1 by omega]
    simpa using flat_at1 L i (by simpa using h)

def aheadV : Value := .func (.func 30) #[] #[]
def movedV (hb : Nat) : Value := .func (.func 31) #[.pointer (some ⟨hb, 0, none⟩)] #[]

/-- A heap's memory: the heap hb, its row rb with the items L (the slice sv), its map mb, which reads as D. -/
structure RowIs (w : World) (hb rb mb n : Nat) (sv : Value) (D : DataW Unit) (L : List (Int × Int)) : Prop where
  head : Blk w hb 61 #[.pointer (some ⟨rb, 0, none⟩), .map (some mb)]
  row : Blk w rb 69 #[sv, aheadV, movedV hb]
  own : w.ownsRow 0 65 2 sv L.length (flat L)
  map : MapIs w mb n D

section
variable {w w' : World} {hb rb mb n : Nat} {sv : Value} {D : DataW Unit} {L : List (Int × Int)}
theorem RowIs.item (h : RowIs w hb rb mb n sv D L) {i : Nat} (hi : i < L.length) :
    ∃ g cap, sv = .slice (some ⟨g, 0, none⟩) L.length cap ∧ g < w.heap.size ∧ (∀ j (hj : j < L.length), w.cell? ⟨g, j * 2, none⟩ = some (.int .i64 (L[j]'hj).1) ∧ w.cell? ⟨g, j * 2 + 1, none⟩ = some (.int .i64 (L[j]'hj).2)) := by
  obtain ⟨g, cap, hv, _, hlt⟩ := World.ownsRow.form h.own (by omega)
  exact ⟨g, cap, hv, hlt, fun j hj => ⟨own_cell (hv ▸ h.own) _ _ (flat_at0 L j hj), own_cell (hv ▸ h.own) _ _ (flat_at1 L j hj)⟩⟩
theorem RowIs.kp {S : Nat → Prop} (h : RowIs w hb rb mb n sv D L) (hk : Kp S w w') (h1 : ¬ S hb) (h2 : ¬ S rb) (h3 : ¬ S mb) (h4 : ∀ k, sv.ownBlock = some k → ¬ S k) : RowIs w' hb rb mb n sv D L :=
  ⟨h.head.kp hk h1, h.row.kp hk h2, own_kp h.own hk h4, map_kp h.map hk h3⟩
theorem RowIs.below (h : RowIs w hb rb mb n sv D L) (hk : Below w.heap.size w w') : RowIs w' hb rb mb n sv D L :=
  h.kp (Kp.of_below hk fun _ => False) id id id (fun _ _ => id)
theorem RowIs.len_le (h : RowIs w hb rb mb n sv D L) : L.length ≤ maxLen := by
  rcases h.own.2 with ⟨_, h0⟩ | ⟨_, cap, _, _, _, _, h1, h2, _⟩
  · omega
  · omega
end

theorem len_c {hb rb mb n : Nat} {sv : Value} {D : DataW Unit} {L : List (Int × Int)} {w : World} (h : RowIs w hb rb mb n sv D L) :
    Calls Try.prog 35 #[.pointer (some ⟨rb, 0, none⟩)] w fun e w' => e = .returned (.int .i64 L.length) ∧ w = w' := by
  have c0 := h.row.cell 0
  obtain ⟨A, c, hv⟩ : ∃ A c, sv = .slice A L.length c := by
    rcases h.own.2 with ⟨hv, h0⟩ | ⟨g, cap, _, hv, _⟩
    · exact ⟨none, 0, by rw [hv, h0]⟩
    · exact ⟨_, _, hv⟩
  rw [hv] at c0
  clear h hv
  go_enter Try.func35, Try.ntmps35
  go_wp2
  go_ret
  exact ⟨rfl, rfl⟩

set_option maxHeartbeats 400000 in
theorem less_c {hb rb mb n : Nat} {sv : Value} {D : DataW Unit} {L : List (Int × Int)} {w : World} (h : RowIs w hb rb mb n sv D L) (i k : Nat) (hi : i < L.length) (hk : k < L.length) :
    Calls Try.prog 93 #[.pointer (some ⟨rb, 0, none⟩), .int .i64 i, .int .i64 k] w fun e w' => e = .returned (.bool (ltI (L[i]'hi) (L[k]'hk))) ∧ Below w.heap.size w w' := by
  have c0 := h.row.cell 0
  have c1 := h.row.cell 1
  obtain ⟨g, cap, hv, hg, hc⟩ := h.item hi
  obtain ⟨i0, i1⟩ := hc i hi
  obtain ⟨k0, k1⟩ := hc k hk
  have lr := h.row.lt
  rw [hv] at c0
  unfold aheadV at c1
  have b1 : (0 : Int) ≤ (i : Int) := by omega
  have b2 : (i : Int) < (L.length : Int) := by omega
  have b3 : (0 : Int) ≤ (k : Int) := by omega
  have b4 : (k : Int) < (L.length : Int) := by omega
  clear h hv hc
  generalize L[i] = x at *
  generalize L[k] = y at *
  clear hi hk
  generalize L.length = len at *
  obtain ⟨x1, x2⟩ := x
  obtain ⟨y1, y2⟩ := y
  go_enter Try.func93, Try.ntmps93
  go_wp2
  go_region_held3 (fun W => W.cell? ⟨rb, 0, none⟩ = some (.slice (some ⟨g, 0, none⟩) len cap) ∧ W.cell? ⟨rb, 1, none⟩ = some (.func (.func 30) #[] #[]) ∧ W.cell? ⟨g, i * 2, none⟩ = some (.int .i64 x1) ∧ W.cell? ⟨g, i * 2 + 1, none⟩ = some (.int .i64 x2) ∧ W.cell? ⟨g, k * 2, none⟩ = some (.int .i64 y1) ∧ W.cell? ⟨g, k * 2 + 1, none⟩ = some (.int .i64 y2))
    ((repeat' apply And.intro) <;> first | (go_keep; done) | (exact below_cell hbl (by go_simp)))
    (first | (go_at_call 30; refine (ahead_c _ _ _ _ _).mono ?_; (rintro e w' ⟨rfl, hbl⟩)))
  go_wp2
  go_ret
  exact ⟨rfl, (Below.refl _ w).drew.trans hbl⟩
end Go.Proofs.Ytkoacfkglfgalaa
