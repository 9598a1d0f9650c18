/- Small functions of the laws: Bring, EqInts, row; a heap's Put, Pop, First, Remove, Rank at whatever arguments. Conditions: those that each theorem names. -/
import Derived.Test.YtkoacfkglfgalaaP
import Derived.Test.YtkoacfkglfgalaaR
import Derived.Test.YtkoacfkglfgalaaS
namespace Go.Proofs.Ytkoacfkglfgalaa
open Go.RowKit Go.Maps

theorem tmod_neg (i n : Int) (h0 : 0 < n) (hi : i < 0) : -n < i.tmod n ∧ i.tmod n ≤ 0 ∧ (i.tmod n < 0 → i.tmod n + n = i % n) ∧ (i.tmod n = 0 → i % n = 0) := by
  have e1 : (-i).tmod n = -(i.tmod n) := Int.neg_tmod i n
  have e2 : (-i).tmod n = (-i) % n := Int.tmod_eq_emod_of_nonneg (by omega)
  have b1 : 0 ≤ (-i) % n := Int.emod_nonneg _ (by omega)
  have b2 : (-i) % n < n := Int.emod_lt_of_pos _ h0
  have hd := Int.tmod_add_mul_tdiv i n
  generalize hq : i.tmod n = q at *
  generalize i.tdiv n = k at *
  have hm : i % n = q % n := by rw [← hd]; exact Int.add_mul_emod_self_left q n k
  refine ⟨by omega, by omega, fun hlt => ?_, fun h => by rw [hm, h]; simp⟩
  rw [hm]
  have : q % n = (q + n) % n := (Int.add_emod_right q n).symm
  rw [this, Int.emod_eq_of_lt (by omega) (by omega)]

set_option maxRecDepth 100000 in
theorem bring_c (i n : Int) (w : World) (h0 : 0 < n) (h1 : n ≤ 1000000) : Calls Try.prog 15 #[.int .i64 i, .int .i64 n] w fun e w' => e = .returned (.int .i64 (i % n)) ∧ w = w' := by
  by_cases hi : 0 ≤ i
  · have b3 : i % n < n := Int.emod_lt_of_pos i h0
    have b4 : ¬ i % n < 0 := by have := Int.emod_nonneg i (show n ≠ 0 by omega); omega
    go_enter Try.func15, Try.ntmps15
    go_wp2
    go_ret
    exact ⟨rfl, rfl⟩
  · obtain ⟨c1, c2, c3, c4⟩ := tmod_neg i n h0 (by omega)
    by_cases hq : i.tmod n < 0
    · have HQ := hid_ (c3 hq)
      have c5 : -1000000 < i.tmod n := by omega
      have c6 : IntKind.i64.wrap (i.tmod n + n) = i.tmod n + n := IntWalk.i64_in _ (by omega)
      have c7 : IntKind.i64.wrap (i.tmod n) = i.tmod n := IntWalk.i64_in _ (by omega)
      clear c3 c4
      go_enter Try.func15, Try.ntmps15
      go_wp2
      go_ret
      exact ⟨by rw [← HQ.out]; rfl, rfl⟩
    · have HQ := hid_ (c4 (by omega))
      have HZ := hid_ (show i.tmod n = 0 by omega)
      have c7 : IntKind.i64.wrap (i.tmod n) = i.tmod n := IntWalk.i64_in _ (by omega)
      clear c3 c4
      go_enter Try.func15, Try.ntmps15
      go_wp2
      go_ret
      exact ⟨by rw [HQ.out, ← HZ.out]; rfl, rfl⟩

def okP (id r : Int) : Bool := decide (0 ≤ id ∧ id ≤ 9999 ∧ 0 ≤ r ∧ r ≤ 9007199254740991)
def putE (id r : Int) : Int := if okP id r = true then 0 else 9
def putR (id r : Int) (S : List Item) : List Item := if okP id r = true then putS id r S else S
def popI (S : List Item) : Int := (S.headD (0, 0)).1
def popK (S : List Item) : Int := (S.headD (0, 0)).2
def popE (S : List Item) : Int := if S.isEmpty then 9 else 0
def remE (id : Int) (S : List Item) : Int := if hasS id S = true then 0 else 50

section
variable {F : Nat → Prop} {w w' : World} {hb : Nat} {S : List Item}
/-- What a call on a heap leaves: the heap, and all else as it was. -/
structure Left (F : Nat → Prop) (w : World) (hb : Nat) (S : List Item) (w' : World) : Prop where
  isH : IsH (fun q => F q ∨ w.heap.size ≤ q) w' hb S
  kp : Kp F w w'

theorem put_any (h : IsH F w hb S) (id r : Int) : Calls Try.prog 12 #[.pointer (some ⟨hb, 0, none⟩), .int .i64 id, .int .i64 r] w fun e w' => e = .returned (.int .i64 (putE id r)) ∧ Left F w hb (putR id r S) w' := by
  by_cases hok : 0 ≤ id ∧ id ≤ 9999 ∧ 0 ≤ r ∧ r ≤ 9007199254740991
  · have e : okP id r = true := decide_eq_true hok
    by_cases hm : id ∈ S.map (·.1)
    · exact (put_old h id r hok hm).mono fun e' w' ⟨h1, h2, h3⟩ => ⟨by rw [h1]; simp [putE, e], by simpa [putR, e] using h2, h3⟩
    · exact (put_new h id r hok hm).mono fun e' w' ⟨h1, h2, h3⟩ => ⟨by rw [h1]; simp [putE, e], by simpa [putR, e] using h2, h3⟩
  · have e : okP id r = false := decide_eq_false hok
    exact (put_bad h id r hok).mono fun e' w' ⟨h1, h2⟩ => ⟨by rw [h1]; simp [putE, e], by subst h2; simpa [putR, e] using h.mono (fun q hq => .inl hq), h2 ▸ Kp.refl _ _⟩

theorem pop_any (h : IsH F w hb S) : Calls Try.prog 14 #[.pointer (some ⟨hb, 0, none⟩)] w fun e w' => e = .returned (.tuple #[.int .i64 (popI S), .int .i64 (popK S), .int .i64 (popE S)]) ∧ Left F w hb S.tail w' := by
  cases S with
  | nil => exact (pop_none h).mono fun e' w' ⟨h1, h2⟩ => ⟨h1, (h.below h2).mono (fun q hq => .inl hq), Kp.of_below h2 F⟩
  | cons x S => exact (pop_c h).mono fun e' w' ⟨h1, h2, h3⟩ => ⟨h1, h2, h3⟩

theorem first_any (h : IsH F w hb S) : Calls Try.prog 16 #[.pointer (some ⟨hb, 0, none⟩)] w fun e w' => e = .returned (.tuple #[.int .i64 (popI S), .int .i64 (popK S), .int .i64 (popE S)]) ∧ Below w.heap.size w w' := by
  cases S with
  | nil => exact (first_none h).mono fun e' w' ⟨h1, h2⟩ => ⟨h1, h2⟩
  | cons x S => exact (first_c h).mono fun e' w' ⟨h1, h2⟩ => ⟨h1, h2⟩

theorem remove_any (h : IsH F w hb S) (id : Int) (hw : Wf id) : Calls Try.prog 19 #[.pointer (some ⟨hb, 0, none⟩), .int .i64 id] w fun e w' => e = .returned (.int .i64 (remE id S)) ∧ Left F w hb (outS id S) w' := by
  by_cases hm : id ∈ S.map (·.1)
  · have e : hasS id S = true := by rw [hasS_iff]; exact decide_eq_true hm
    exact (remove_c h hm).mono fun e' w' ⟨h1, h2, h3⟩ => ⟨by rw [h1]; simp [remE, e], h2, h3⟩
  · have e : hasS id S = false := by rw [hasS_iff]; exact decide_eq_false hm
    exact (remove_none h hw hm).mono fun e' w' ⟨h1, h2⟩ => ⟨by rw [h1]; simp [remE, e], by subst h2; rw [outS_none hm]; exact h.mono (fun q hq => .inl hq), h2 ▸ Kp.refl _ _⟩

theorem rankS_of {id r : Int} (g : Good S) (h : (id, r) ∈ S) : rankS id S = r := by
  unfold rankS
  cases hf : S.find? (fun p => p.1 == id) with
  | none =>
    have := List.find?_eq_none.1 hf _ h
    simp at this
  | some p =>
    have h1 := List.mem_of_find?_eq_some hf
    have h2 := List.find?_some hf
    have h3 : p.1 = id := by simpa using h2
    obtain ⟨i, hi, e1⟩ := List.mem_iff_getElem.1 h1
    obtain ⟨k, hk, e2⟩ := List.mem_iff_getElem.1 h
    have : i = k := g.inj hi hk (by rw [e1, e2]; exact h3)
    subst this
    rw [e1] at e2
    simp [e2]
theorem rankS_none {id : Int} (h : id ∉ S.map (·.1)) : rankS id S = 0 := by
  unfold rankS
  have : S.find? (fun p => p.1 == id) = none := List.find?_eq_none.2 (fun p hp => by
    have : p.1 ≠ id := fun e => h (by rw [← e]; exact List.mem_map.2 ⟨p, hp, rfl⟩)
    simpa using this)
  rw [this]; rfl

theorem rank_any (h : IsH F w hb S) (id : Int) (hw : Wf id) : Calls Try.prog 18 #[.pointer (some ⟨hb, 0, none⟩), .int .i64 id] w fun e w' => e = .returned (.tuple #[.int .i64 (rankS id S), .bool (hasS id S)]) ∧ w = w' := by
  by_cases hm : id ∈ S.map (·.1)
  · have e : hasS id S = true := by rw [hasS_iff]; exact decide_eq_true hm
    obtain ⟨p, hp, rfl⟩ := List.mem_map.1 hm
    exact (rank_c (r := p.2) h hp).mono fun e' w' ⟨h1, h2⟩ => ⟨by rw [h1, e, rankS_of h.good (r := p.2) hp], h2⟩
  · have e : hasS id S = false := by rw [hasS_iff]; exact decide_eq_false hm
    exact (rank_none h hw hm).mono fun e' w' ⟨h1, h2⟩ => ⟨by rw [h1, e, rankS_none hm], h2⟩
end

/-- A slice of whole numbers that reads as xs. -/
structure RdI (w : World) (A : Option Addr) (n : Nat) (xs : List Int) : Prop where
  len : xs.length = n
  low : n ≤ 1000000000000
  cells : 0 < n → ∃ g, A = some ⟨g, 0, none⟩ ∧ ∀ j, j < n → w.cell? ⟨g, j, none⟩ = some (.int .i64 (xs.getD j 0))
theorem RdI.of_own {w : World} {base n c : Nat} {A : Option Addr} {xs : List Int} (h : w.ownsRow base 3 1 (.slice A n c) n (xs.map (.int .i64))) (hn : n ≤ 1000000000000) : RdI w A n xs := by
  have hl : xs.length = n := by have := h.1; simpa using this
  refine ⟨hl, hn, fun h0 => ?_⟩
  obtain ⟨g, cap, hv, _, _⟩ := World.ownsRow.form h h0
  injection hv with hv _ _
  subst hv
  refine ⟨g, rfl, fun j hj => own_cell (cap := c) h j _ ?_⟩
  simp [List.getD_eq_getElem?_getD, show j < xs.length by omega]
theorem RdI.below {w w' : World} {A : Option Addr} {n : Nat} {xs : List Int} (h : RdI w A n xs) (hb : Below w.heap.size w w') : RdI w' A n xs :=
  ⟨h.len, h.low, fun h0 => by
    obtain ⟨g, e, hc⟩ := h.cells h0
    exact ⟨g, e, fun j hj => below_cell hb (hc j hj)⟩⟩

set_option maxHeartbeats 1000000 in
theorem eqints_c {w : World} {A B : Option Addr} {n m c d : Nat} {xs ys : List Int} (hx : RdI w A n xs) (hy : RdI w B m ys) :
    Calls Try.prog 20 #[.slice A n c, .slice B m d] w fun e w' => e = .returned (.bool (decide (xs = ys))) ∧ Below w.heap.size w w' := by
  have lx := hx.low
  have ly := hy.low
  by_cases hnm : n = m
  · subst hnm
    have HX := hid_ hx
    have HY := hid_ hy
    clear hx hy
    go_enter Try.func20, Try.ntmps20
    go_wp2
    go_loopw [5] (fun v wr => ∃ k : Nat, v = .int .i64 k ∧ k ≤ n ∧ (∀ j, j < k → xs.getD j 0 = ys.getD j 0) ∧ ∃ q, wr = w.drewN q) (fun v _ => n - (intOf v).toNat)
    case atStart => exact ⟨0, rfl, Nat.zero_le _, fun _ h => absurd h (by omega), 0, rfl⟩
    case round =>
      obtain ⟨k, rfl, hk, hall, q, rfl⟩ := hrel
      have HA := hid_ hall
      clear hall
      by_cases hlt : k < n
      · obtain ⟨g, hA, hcx⟩ := HX.out.cells (by omega)
        obtain ⟨g2, hB, hcy⟩ := HY.out.cells (by omega)
        have kx := hcx k hlt
        have ky := hcy k hlt
        subst hA hB
        clear hcx hcy
        have b0 : (0 : Int) ≤ (k : Int) := by omega
        have b1 : (k : Int) < (n : Int) := by omega
        generalize hx1 : xs.getD k 0 = x at *
        generalize hy1 : ys.getD k 0 = y at *
        have HX1 := hid_ hx1
        have HY1 := hid_ hy1
        clear hx1 hy1
        by_cases hxy : x = y
        · have e1 : (x != y) = false := by simp [hxy]
          have HXY := hid_ hxy
          clear hxy
          go_wp2
          go_quiet (fail)
          go_wp2
          go_roundw
          case rel => exact ⟨k + 1, by go_num, by omega, fun j hj => by
            by_cases e : j = k
            · subst e; rw [HX1.out, HY1.out]; exact HXY.out
            · exact HA.out j (by omega), _, rfl⟩
          case measure => simp [intOf]; omega
        · have e1 : (x != y) = true := by simp [hxy]
          have HXY := hid_ hxy
          clear hxy
          go_wp2
          go_quiet (fail)
          go_wp2
          go_ret
          refine ⟨congrArg (fun b => Ending.returned (.bool b)) (decide_eq_false (fun e => HXY.out (by rw [← HX1.out, ← HY1.out, e]))).symm, ?_⟩
          exact bdrewN (bdrewN (Below.refl _ _) _) _
      · have hkn : ¬ (k : Int) < (n : Int) := by omega
        go_wp2
        go_ret
        refine ⟨congrArg (fun b => Ending.returned (.bool b)) (decide_eq_true ?_).symm, bdrewN (Below.refl _ _) _⟩
        apply List.ext_getElem (by rw [HX.out.len, HY.out.len])
        intro j h1 h2
        have := HA.out j (by have := HX.out.len; omega)
        simpa [List.getD_eq_getElem?_getD, h1, h2] using this
  · have hne : ((n : Int) != (m : Int)) = true := by rw [bne_iff_ne]; omega
    have hxy : decide (xs = ys) = false := decide_eq_false (fun e => hnm (by rw [← hx.len, ← hy.len, e]))
    have HXY := hid_ hxy
    clear hx hy hxy hnm
    go_enter Try.func20, Try.ntmps20
    go_wp2
    go_ret
    exact ⟨congrArg (fun b => Ending.returned (.bool b)) HXY.out.symm, Below.refl _ _⟩

/-- An id and a rank, brought into their bounds. -/
theorem row_c (a b : Int) (w : World) : Calls Try.prog 11 #[.agg #[.int .i64 a, .int .i64 b]] w fun e w' => e = .returned (.tuple #[.int .i64 (a % 60), .int .i64 (b % 12)]) ∧ Below w.heap.size w w' := by
  go_enter Try.func11, Try.ntmps11
  go_wp2
  go_region_held3 (fun W => W.cell? ⟨w.heap.size, 0, none⟩ = some (.int .i64 a) ∧ W.cell? ⟨w.heap.size, 1, none⟩ = some (.int .i64 b))
    ((repeat' apply And.intro) <;> first | (go_keep; done) | (go_simp; done))
    (first | (go_at_call 15; refine (bring_c _ _ _ (by omega) (by omega)).mono ?_; rintro e w' ⟨rfl, rfl⟩))
  go_wp2
  go_ret2
  exact ⟨rfl, by go_grown⟩
end Go.Proofs.Ytkoacfkglfgalaa
