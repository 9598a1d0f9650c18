/- A cache's row of entries in memory; its methods Len, Less. Conditions: those that each theorem names. -/
import Derived.Test.YtogedbednfbkmaaB
import Derived.Test.YtogedbednfbkmaaQ
import Derived.Deep.RegionHeld3
namespace Go.Proofs.Ytogedbednfbkmaa
open Go.RowKit Go.Maps

def cmpI (a b : Int) : Int := if a < b then -1 else if b < a then 1 else 0
def orI (a b : Int) : Int := if a = 0 then b else a
/-- A rank against a rank, as numbers. -/
def cmpR (x1 r1 x2 r2 : Int) : Int := orI (cmpI x1 x2) (cmpI r1 r2)
theorem ltE_is (x y : En) : decide (cmpR x.worth x.used y.worth y.used < 0) = ltE x y := by
  unfold ltE cmpR orI cmpI
  apply decide_eq_decide.2
  by_cases h1 : x.worth < y.worth <;> by_cases h2 : y.worth < x.worth <;> by_cases h3 : x.used < y.used <;> by_cases h4 : y.used < x.used <;> simp [h1, h2, h3, h4] <;> omega

theorem compare_c (a b : Int) (w : World) : Calls Try.prog 43 #[.int .i64 a, .int .i64 b] w fun e w' => e = .returned (.int .i64 (cmpI a b)) ∧ w = w' := by
  unfold cmpI
  by_cases h1 : a < b
  · go_enter Try.func43, Try.ntmps43
    go_wp2
    go_ret
    simp
  · by_cases h2 : b < a
    · go_enter Try.func43, Try.ntmps43
      go_wp2
      go_ret
      simp
    · go_enter Try.func43, Try.ntmps43
      go_wp2
      go_ret
      simp

theorem or_c (g : Nat) (a b : Int) (w : World) (h0 : w.cell? ⟨g, 0, none⟩ = some (.int .i64 a)) (h1 : w.cell? ⟨g, 1, none⟩ = some (.int .i64 b)) :
    Calls Try.prog 42 #[.slice (some ⟨g, 0, none⟩) 2 2] w fun e w' => e = .returned (.int .i64 (orI a b)) ∧ w = w' := by
  unfold orI
  by_cases ha : a = 0
  · by_cases hb : b = 0
    · have e1 : (a != 0) = false := by simp [ha]
      have e2 : (b != 0) = false := by simp [hb]
      have HA := hid_ ha
      have HB := hid_ hb
      clear ha hb
      go_enter Try.func42, Try.ntmps42
      go_wp2
      go_rounds 3
      go_ret
      simp [HB.out]
    · have e1 : (a != 0) = false := by simp [ha]
      have e2 : (b != 0) = true := by simp [hb]
      have HA := hid_ ha
      clear ha hb
      go_enter Try.func42, Try.ntmps42
      go_wp2
      go_rounds 3
      go_ret
      simp
  · have e1 : (a != 0) = true := by simp [ha]
    have HA := hid_ ha
    clear ha
    go_enter Try.func42, Try.ntmps42
    go_wp2
    go_rounds 3
    go_ret
    simp

set_option maxHeartbeats 400000 in
theorem ahead_c (x1 r1 x2 r2 : Int) (w : World) :
    Calls Try.prog 93 #[.agg #[.int .i64 x1, .int .i64 r1], .agg #[.int .i64 x2, .int .i64 r2]] w fun e w' => e = .returned (.bool (decide (cmpR x1 r1 x2 r2 < 0))) ∧ Below w.heap.size w w' := by
  unfold cmpR
  go_enter Try.func93, Try.ntmps93
  go_wp2
  go_region_held3 (fun W => W.cell? ⟨w.heap.size, 0, none⟩ = some (.int .i64 x1) ∧ W.cell? ⟨w.heap.size, 1, none⟩ = some (.int .i64 r1) ∧ W.cell? ⟨w.heap.size + 1, 0, none⟩ = some (.int .i64 x2) ∧ W.cell? ⟨w.heap.size + 1, 1, none⟩ = some (.int .i64 r2))
    (first | go_keep | (refine ⟨?_, ?_, ?_, ?_⟩ <;> go_simp))
    (first | (go_at_call 43; refine (compare_c _ _ _).mono ?_; rintro e w' ⟨rfl, rfl⟩) | (go_at_call 42; refine (or_c _ (cmpI x1 x2) (cmpI r1 r2) _ (by go_simp) (by go_simp)).mono ?_; (rintro e w' ⟨rfl, rfl⟩)))
  go_wp2
  go_ret
  refine ⟨rfl, ?_⟩
  go_grown

def ptr (g : Nat) : Value := .pointer (some ⟨g, 0, none⟩)
/-- What a cache's block holds, but for its row. -/
structure Hd where
  room : Int
  level : Int
  uses : Int
  size : Int
  found : Int
  missed : Int
  thrown : Int
  mb : Nat
def Hd.cells (h : Hd) (sv : Value) : Array Value := #[.int .i64 h.room, .int .i64 h.level, .int .i64 h.uses, .int .i64 h.size, .int .i64 h.found, .int .i64 h.missed, .int .i64 h.thrown, .map (some h.mb), sv]
/-- An entry in memory; at_: where it says that it lies. -/
abbrev Ent (w : World) (m : Me) (k : Int) : Prop := Blk w m.g 74 #[.int .i64 m.e.worth, .int .i64 m.e.used, .string m.e.key, m.v, .int .i64 m.e.cost, .int .i64 k]
/-- A cache's memory, but for its map: its block cb, its row sv with the entries L. -/
structure RowIs (w : World) (cb : Nat) (h : Hd) (sv : Value) (L : List Me) : Prop where
  head : Blk w cb 66 (h.cells sv)
  own : w.ownsRow 0 67 1 sv L.length (L.map fun m => ptr m.g)
  ents : ∀ (i : Nat) (hi : i < L.length), Ent w (L[i]'hi) i
  nd : (L.map Me.g).Nodup
section
variable {w w' : World} {cb : Nat} {h : Hd} {sv : Value} {L : List Me}
theorem RowIs.shape (r : RowIs w cb h sv L) : ∃ A c, sv = .slice A L.length c := by
  rcases r.own.2 with ⟨hv, h0⟩ | ⟨g, cap, _, hv, _⟩
  · exact ⟨none, 0, by rw [hv, h0]⟩
  · exact ⟨_, _, hv⟩
theorem RowIs.item (r : RowIs w cb h sv L) {i : Nat} (hi : i < L.length) :
    ∃ g cap, sv = .slice (some ⟨g, 0, none⟩) L.length cap ∧ g < w.heap.size ∧ (∀ j (hj : j < L.length), w.cell? ⟨g, j, none⟩ = some (.pointer (some ⟨(L[j]'hj).g, 0, none⟩))) := by
  obtain ⟨g, cap, hv, _, hlt⟩ := World.ownsRow.form r.own (by omega)
  exact ⟨g, cap, hv, hlt, fun j hj => own_cell (hv ▸ r.own) _ _ (by simp [hj, ptr])⟩
theorem RowIs.kp {S : Nat → Prop} (r : RowIs w cb h sv L) (hk : Kp S w w') (h1 : ¬ S cb) (h2 : ∀ m ∈ L, ¬ S m.g) (h4 : ∀ k, sv.ownBlock = some k → ¬ S k) : RowIs w' cb h sv L :=
  ⟨r.head.kp hk h1, own_kp r.own hk h4, fun i hi => (r.ents i hi).kp hk (h2 _ (List.getElem_mem hi)), r.nd⟩
theorem RowIs.below (r : RowIs w cb h sv L) (hk : Below w.heap.size w w') : RowIs w' cb h sv L :=
  r.kp (Kp.of_below hk fun _ => False) id (fun _ _ => id) (fun _ _ => id)
theorem RowIs.len_le (r : RowIs w cb h sv L) : L.length ≤ maxLen := by
  rcases r.own.2 with ⟨_, h0⟩ | ⟨_, cap, _, _, _, _, h1, h2, _⟩
  · omega
  · omega
theorem RowIs.own_ne (r : RowIs w cb h sv L) {k : Nat} (hk : sv.ownBlock = some k) : k ≠ cb ∧ ∀ m ∈ L, k ≠ m.g := by
  refine ⟨fun e => own_blk_ne r.own r.head (by decide) (e ▸ hk), fun m hm e => ?_⟩
  obtain ⟨i, hi, e2⟩ := List.mem_iff_getElem.1 hm
  have := r.ents i hi
  rw [e2] at this
  exact own_blk_ne r.own this (by decide) (e ▸ hk)
theorem RowIs.head_ne (r : RowIs w cb h sv L) {m : Me} (hm : m ∈ L) : cb ≠ m.g := by
  obtain ⟨i, hi, e2⟩ := List.mem_iff_getElem.1 hm
  have := r.ents i hi
  rw [e2] at this
  exact Blk.ne_ r.head this (by decide)
theorem RowIs.g_ne (r : RowIs w cb h sv L) {i k : Nat} (hi : i < L.length) (hk : k < L.length) (hne : i ≠ k) : (L[i]'hi).g ≠ (L[k]'hk).g := by
  intro e
  have := List.pairwise_iff_getElem.1 r.nd
  rcases Nat.lt_or_gt_of_ne hne with h1 | h1
  · exact this i k (by simpa using hi) (by simpa using hk) h1 (by simpa using e)
  · exact this k i (by simpa using hk) (by simpa using hi) h1 (by simpa using e.symm)

theorem len_c (r : RowIs w cb h sv L) : Calls Try.prog 90 #[sv] w fun e w' => e = .returned (.int .i64 L.length) ∧ w = w' := by
  obtain ⟨A, c, hv⟩ := r.shape
  subst hv
  clear r
  go_enter Try.func90, Try.ntmps90
  go_wp2
  go_ret
  exact ⟨rfl, rfl⟩

set_option maxHeartbeats 1000000 in
theorem less_c (r : RowIs w cb h sv L) (i k : Nat) (hi : i < L.length) (hk : k < L.length) :
    Calls Try.prog 91 #[sv, .int .i64 i, .int .i64 k] w fun e w' => e = .returned (.bool (ltM (L[i]'hi) (L[k]'hk))) ∧ Below w.heap.size w w' := by
  obtain ⟨g, cap, hv, hg, hc⟩ := r.item hi
  have ri := hc i hi
  have rk := hc k hk
  have i0 := (r.ents i hi).cell 0
  have i1 := (r.ents i hi).cell 1
  have k0 := (r.ents k hk).cell 0
  have k1 := (r.ents k hk).cell 1
  subst hv
  have b1 : (0 : Int) ≤ (i : Int) := by omega
  have b2 : (i : Int) < (L.length : Int) := by omega
  have b3 : (0 : Int) ≤ (k : Int) := by omega
  have b4 : (k : Int) < (L.length : Int) := by omega
  clear r hc
  have hlt := hid_ (ltE_is (L[i]'hi).e (L[k]'hk).e)
  unfold ltM
  generalize L[i] = x at *
  generalize L[k] = y at *
  clear hi hk
  generalize L.length = len at *
  obtain ⟨gx, vx, ⟨kx, ax, cx, wx, ux⟩⟩ := x
  obtain ⟨gy, vy, ⟨ky, ay, cy, wy, uy⟩⟩ := y
  go_enter Try.func91, Try.ntmps91
  go_wp2
  go_region_held3 (fun W => W.cell? ⟨g, i, none⟩ = some (.pointer (some ⟨gx, 0, none⟩)) ∧ W.cell? ⟨g, k, none⟩ = some (.pointer (some ⟨gy, 0, none⟩)) ∧ W.cell? ⟨gx, 0, none⟩ = some (.int .i64 wx) ∧ W.cell? ⟨gx, 1, none⟩ = some (.int .i64 ux) ∧ W.cell? ⟨gy, 0, none⟩ = some (.int .i64 wy) ∧ W.cell? ⟨gy, 1, none⟩ = some (.int .i64 uy))
    ((repeat' apply And.intro) <;> first | (go_keep; done) | (exact below_cell hbl (by go_simp)))
    (first | (go_at_call 93; refine (ahead_c _ _ _ _ _).mono ?_; (rintro e w' ⟨rfl, hbl⟩)))
  go_wp2
  go_ret
  exact ⟨by rw [hlt.out]; rfl, (Below.refl _ w).drew.trans hbl⟩
end
end Go.Proofs.Ytogedbednfbkmaa
