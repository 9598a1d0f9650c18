/- HeapTurned: the walk. Conditions: what its arguments read as. -/
import Derived.Test.YtkoacfkglfgalaaY
namespace Go.Proofs.Ytkoacfkglfgalaa
open Go.RowKit Go.Maps

/-- A slice of whole numbers, at whatever place, that reads as f. -/
structure RdO (w : World) (A : Option Addr) (n : Nat) (f : Nat → Int) : Prop where
  low : n ≤ 100000000000000
  cells : 0 < n → ∃ b off, A = some ⟨b, off, none⟩ ∧ ∀ j, j < n → w.cell? ⟨b, off + j, none⟩ = some (.int .i64 (f j))
theorem RdO.below {w w' : World} {A : Option Addr} {n : Nat} {f : Nat → Int} (h : RdO w A n f) (hb : Below w.heap.size w w') : RdO w' A n f :=
  ⟨h.low, fun h0 => by
    obtain ⟨b, off, e, hc⟩ := h.cells h0
    exact ⟨b, off, e, fun j hj => below_cell hb (hc j hj)⟩⟩

/-- The place that the walk meets at its round j. -/
def kk (k by_ j : Nat) : Nat := (k + j * by_) % 53
theorem kk_succ (k by_ j : Nat) : (kk k by_ j + by_) % 53 = kk k by_ (j + 1) := by
  unfold kk
  rw [Nat.mod_add_mod, Nat.succ_mul, Nat.add_assoc]
theorem kk_inv : ∀ by_, by_ < 53 → by_ ≠ 0 → (by_ * (by_ ^ 51 % 53)) % 53 = 1 := by decide +kernel
theorem kk_all {k by_ : Nat} (hk : k < 53) (hb : by_ < 53) (h0 : by_ ≠ 0) (v : Nat) (hv : v < 53) : ∃ j, j < 53 ∧ kk k by_ j = v := by
  have hi := kk_inv by_ hb h0
  generalize by_ ^ 51 % 53 = u at hi
  refine ⟨((v + 53 - k) * u) % 53, Nat.mod_lt _ (by omega), ?_⟩
  unfold kk
  have h1 : (((v + 53 - k) * u) % 53 * by_) % 53 = (v + 53 - k) % 53 := by
    rw [Nat.mod_mul_mod, Nat.mul_assoc, Nat.mul_comm u by_, Nat.mul_mod, hi]
    simp
  rw [Nat.add_mod, h1]
  omega

def TurnA (rk : Nat → Int) (i : Nat) (S : List Item) : Prop := (∀ p, p ∈ S ↔ ∃ j, j < i ∧ p = (((j : Nat) : Int), rk j)) ∧ S.length ≤ i
theorem TurnA.step {rk : Nat → Int} {i : Nat} {S : List Item} (h : TurnA rk i S) (g : Good S) (hi : i ≤ 50) (hr : 0 ≤ rk i ∧ rk i ≤ 9) : TurnA rk (i + 1) (putR i (rk i) S) := by
  rw [putR_ok (by omega)]
  refine ⟨fun p => ?_, Nat.le_trans (len_put_le g) (Nat.succ_le_succ h.2)⟩
  rw [mem_putS, h.1 p]
  constructor
  · rintro (rfl | ⟨⟨j, hj, rfl⟩, _⟩)
    · exact ⟨i, by omega, rfl⟩
    · exact ⟨j, by omega, rfl⟩
  · rintro ⟨j, hj, rfl⟩
    by_cases e : j = i
    · subst e; exact .inl rfl
    · exact .inr ⟨⟨j, by omega, rfl⟩, by show ¬ ((j : Int) = (i : Int)); omega⟩
def TurnB (rk : Nat → Int) (n k by_ i : Nat) (T : List Item) : Prop := ∀ p, p ∈ T ↔ ∃ j, j < i ∧ kk k by_ j < n ∧ p = (((kk k by_ j : Nat) : Int), rk (kk k by_ j))
theorem TurnB.step {rk : Nat → Int} {n k by_ i : Nat} {T : List Item} (h : TurnB rk n k by_ i T) (hi : kk k by_ i < n) (hn : n ≤ 50) (hr : 0 ≤ rk (kk k by_ i) ∧ rk (kk k by_ i) ≤ 9) : TurnB rk n k by_ (i + 1) (putR (kk k by_ i : Nat) (rk (kk k by_ i)) T) := by
  rw [putR_ok (by omega)]
  intro p
  rw [mem_putS, h p]
  constructor
  · rintro (rfl | ⟨⟨j, hj, hj2, rfl⟩, _⟩)
    · exact ⟨i, by omega, hi, rfl⟩
    · exact ⟨j, by omega, hj2, rfl⟩
  · rintro ⟨j, hj, hj2, rfl⟩
    by_cases e : kk k by_ j = kk k by_ i
    · rw [e]; exact .inl rfl
    · refine .inr ⟨⟨j, ?_, hj2, rfl⟩, by show ¬ ((kk k by_ j : Int) = (kk k by_ i : Int)); omega⟩
      by_cases e2 : j = i
      · subst e2; exact absurd rfl e
      · omega
theorem TurnB.skip {rk : Nat → Int} {n k by_ i : Nat} {T : List Item} (h : TurnB rk n k by_ i T) (hi : ¬ kk k by_ i < n) : TurnB rk n k by_ (i + 1) T := by
  intro p
  rw [h p]
  constructor
  · rintro ⟨j, hj, hj2, rfl⟩
    exact ⟨j, by omega, hj2, rfl⟩
  · rintro ⟨j, hj, hj2, rfl⟩
    refine ⟨j, ?_, hj2, rfl⟩
    by_cases e : j = i
    · subst e; exact absurd hj2 hi
    · omega
theorem turn_same {rk : Nat → Int} {n k by_ : Nat} {S T : List Item} (hS : Srt S) (hT : Srt T) (h1 : TurnA rk n S) (h2 : TurnB rk n k by_ 53 T) (hn : n ≤ 50) (hk : k < 53) (hb : by_ < 53) (h0 : by_ ≠ 0) : T = S := by
  refine srt_ext hT hS (fun p => ?_)
  rw [h1.1 p, h2 p]
  constructor
  · rintro ⟨j, _, hj2, rfl⟩
    exact ⟨_, hj2, rfl⟩
  · rintro ⟨v, hv, rfl⟩
    obtain ⟨j, hj, e⟩ := kk_all hk hb h0 v (by omega)
    exact ⟨j, hj, by omega, by rw [e]⟩

set_option maxHeartbeats 4000000 in
set_option maxRecDepth 100000 in
theorem turned_try {w : World} {A : Option Addr} {n c : Nat} {f : Nat → Int} (h : RdO w A n f) (from_ step : Int) :
    Calls Try.prog 4 #[.slice A n c, .int .i64 from_, .int .i64 step] w fun e w' => e = .returned (.bool true) ∧ Below w.heap.size w w' := by
  have HX := hid_ h
  have hlow := h.low
  clear h
  obtain ⟨m, hm⟩ : ∃ m : Nat, m = min n 50 := ⟨_, rfl⟩
  have hm1 : m ≤ n := by omega
  have hm2 : m ≤ 50 := by omega
  have hmin : min (n : Int) 50 = (m : Int) := by omega
  clear hm
  go_enter Try.func4, Try.ntmps4
  go_wp2_with fail
  refine (hnew_c w).mono ?_
  rintro e w1 ⟨ha, rfl, hN1, hB1⟩
  go_wp2_with fail
  refine (hnew_c w1).mono ?_
  rintro e w2 ⟨hb, rfl, hN2, hB2⟩
  have P0 := hid_ (Tp.start (Nat.le_refl _) (Below.refl _ _) hN1 hB1 hN2 hB2)
  clear hN1 hB1 hN2 hB2
  go_wp2
  go_loopw [10] (fun v wr => ∃ (i : Nat) (S : List Item), v = .int .i64 i ∧ i ≤ m ∧ Tp (fun _ => False) w.heap.size w wr ha hb S [] ∧ TurnA (fun j => f j % 9) i S) (fun v _ => m - (intOf v).toNat)
  case atStart => exact ⟨0, [], rfl, by omega, P0.out, fun p => by simp, by simp⟩
  case round =>
    obtain ⟨i, S, rfl, him, hP, hS⟩ := hrel
    have HP := hid_ hP
    have HS := hid_ hS
    clear hP hS
    by_cases hlt : i < m
    · obtain ⟨b, off, hA, hc⟩ := (HX.out.below (HP.out.below.mono (Nat.le_refl _))).cells (by omega)
      have c0 := hc i (by omega)
      subst hA
      clear hc
      have b0 : (0 : Int) ≤ (i : Int) := by omega
      have b1 : (i : Int) < (m : Int) := by omega
      have b2 : (i : Int) < (n : Int) := by omega
      go_wp2_with fail
      refine (bring_c (f i) 9 _ (by omega) (by omega)).mono ?_
      rintro e wa ⟨rfl, rfl⟩
      go_wp2_with fail
      refine (HP.out.put i (f i % 9)).mono ?_
      rintro e wb ⟨rfl, hl⟩
      have HL := hid_ hl
      clear hl
      go_wp2
      go_roundw
      case rel => exact ⟨i + 1, _, by go_num, by omega, HL.out.tp, HS.out.step HP.out.good (by omega) ⟨Int.emod_nonneg _ (by omega), by have := Int.emod_lt_of_pos (f i) (show (0 : Int) < 9 by omega); omega⟩⟩
      case measure => simp [intOf]; omega
    · have b1 : ¬ (i : Int) < (m : Int) := by omega
      have him2 : i = m := by omega
      subst him2
      have hk0 : 0 ≤ from_ % 53 := Int.emod_nonneg _ (by omega)
      have hk1 : from_ % 53 < 53 := Int.emod_lt_of_pos _ (by omega)
      have hb0 : 0 ≤ step % 52 := Int.emod_nonneg _ (by omega)
      have hb1 : step % 52 < 52 := Int.emod_lt_of_pos _ (by omega)
      have CB := hid_ (fun w => bring_c from_ 53 w (by omega) (by omega))
      have CS := hid_ (fun w => bring_c step 52 w (by omega) (by omega))
      generalize from_ % 53 = k0 at *
      generalize step % 52 = s0 at *
      obtain ⟨k, rfl⟩ := Int.eq_ofNat_of_zero_le hk0
      obtain ⟨b0, rfl⟩ := Int.eq_ofNat_of_zero_le hb0
      go_wp2_with fail
      refine (CB.out _).mono ?_
      rintro e wa ⟨rfl, rfl⟩
      go_wp2_with fail
      refine (CS.out _).mono ?_
      rintro e wa ⟨rfl, rfl⟩
      have e1 : IntKind.i64.wrap (1 + (b0 : Int)) = ((b0 + 1 : Nat) : Int) := by rw [IntWalk.i64_in _ (by omega)]; omega
      clear CB CS
      go_wp2
      go_loopw [11, 13] (fun v11 v13 wr => ∃ (j : Nat) (T : List Item), v11 = .int .i64 (kk k (b0 + 1) j : Nat) ∧ v13 = .int .i64 j ∧ j ≤ 53 ∧ Tp (fun _ => False) w.heap.size w wr ha hb S T ∧ TurnB (fun j => f j % 9) i k (b0 + 1) j T) (fun _ v _ => 53 - (intOf v).toNat)
      case atStart => exact ⟨0, [], by unfold kk; rw [Nat.zero_mul, Nat.add_zero, Nat.mod_eq_of_lt (by omega)], rfl, by omega, HP.out, fun p => by simp⟩
      case round =>
        obtain ⟨j, T, rfl, rfl, hj, hP2, hT⟩ := hrel
        have HP2 := hid_ hP2
        have HT := hid_ hT
        clear hP2 hT
        have hkk := kk_succ k (b0 + 1) j
        have hkl : kk k (b0 + 1) j < 53 := Nat.mod_lt _ (by omega)
        by_cases hlt : j < 53
        · have b1 : (j : Int) < 53 := by omega
          have HKK := hid_ hkk
          generalize hq : kk k (b0 + 1) j = q at *
          have HQ := hid_ hq
          clear hq hkk
          have d0 : (0 : Int) ≤ (q : Int) + ((b0 + 1 : Nat) : Int) := by omega
          by_cases hqi : q < i
          · obtain ⟨b, off, hA, hc⟩ := (HX.out.below HP2.out.below).cells (by omega)
            have c0 := hc q (by omega)
            subst hA
            clear hc
            have g0 : (0 : Int) ≤ (q : Int) := by omega
            have g1 : (q : Int) < (i : Int) := by omega
            have g2 : (q : Int) < (n : Int) := by omega
            go_wp2_with fail
            refine (bring_c (f q) 9 _ (by omega) (by omega)).mono ?_
            rintro e wa ⟨rfl, rfl⟩
            go_wp2_with fail
            refine (HP2.out.swap.put q (f q % 9)).mono ?_
            rintro e wb ⟨rfl, hl⟩
            have HL := hid_ hl.swap
            clear hl
            go_wp2
            go_roundw
            case rel =>
              have HQ2 := HQ.out
              subst HQ2
              refine ⟨j + 1, _, ?_, by go_num, by omega, HL.out.tp, HT.out.step hqi (by omega) ⟨Int.emod_nonneg _ (by omega), by have := Int.emod_lt_of_pos (f (kk k (b0 + 1) j)) (show (0 : Int) < 9 by omega); omega⟩⟩
              rw [← HKK.out]; go_num
            case measure => simp [intOf]; omega
          · have g1 : ¬ (q : Int) < (i : Int) := by omega
            go_wp2
            go_roundw
            case rel =>
              refine ⟨j + 1, _, ?_, by go_num, by omega, HP2.out, HT.out.skip (by rw [HQ.out]; exact hqi)⟩
              rw [← HKK.out]; go_num
            case measure => simp [intOf]; omega
        · have b1 : ¬ (j : Int) < 53 := by omega
          have hj53 : j = 53 := by omega
          subst hj53
          have hTS := turn_same HP2.out.srt HP2.out.swap.srt HS.out HT.out (by omega) (by omega) (by omega) (by omega)
          subst hTS
          go_wp2
          go_loopw [14] (fun v wr => ∃ (z : Nat) (S' : List Item), v = .int .i64 z ∧ z ≤ i + 1 ∧ Tp (fun _ => False) w.heap.size w wr ha hb S' S' ∧ S'.length ≤ i - z) (fun v _ => i + 1 - (intOf v).toNat)
          case atStart => exact ⟨0, _, rfl, by omega, HP2.out, by have := HS.out.2; omega⟩
          case round =>
            obtain ⟨z, S', rfl, hz, hP3, hlen⟩ := hrel
            have HP3 := hid_ hP3
            clear hP3
            by_cases hlt : z ≤ i
            · have z1 : (z : Int) ≤ (i : Int) := by omega
              go_wp2_with fail
              refine HP3.out.pop.mono ?_
              rintro e wa ⟨rfl, hl⟩
              have HL := hid_ hl.tp
              clear hl
              go_wp2_with fail
              refine HL.out.swap.pop.mono ?_
              rintro e wb ⟨rfl, hl⟩
              have HL2 := hid_ hl.swap.tp
              clear hl
              have q1 : (popI S' != popI S') = false := by simp
              have q2 : (popK S' != popK S') = false := by simp
              have q3 : (popE S' != popE S') = false := by simp
              go_wp2
              go_roundw
              case rel => exact ⟨z + 1, _, by go_num, by omega, HL2.out, by rw [List.length_tail]; omega⟩
              case measure => simp [intOf]; omega
            · have z1 : ¬ (z : Int) ≤ (i : Int) := by omega
              have hl0 : S' = [] := List.eq_nil_of_length_eq_zero (by omega)
              subst hl0
              go_wp2_with fail
              refine HP3.out.len.mono ?_
              rintro e wa ⟨rfl, rfl⟩
              go_wp2_with fail
              refine HP3.out.swap.len.mono ?_
              rintro e wa ⟨rfl, rfl⟩
              go_wp2_with fail
              refine (works_c _).mono ?_
              rintro e wa ⟨rfl, hb⟩
              have HBB := hid_ (HP3.out.below.trans (hb.mono HP3.out.le))
              clear hb
              go_wp2
              go_ret
              exact ⟨rfl, HBB.out⟩
end Go.Proofs.Ytkoacfkglfgalaa
