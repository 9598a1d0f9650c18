/- CacheDear: the walk. Conditions: none. -/
import Derived.Test.YtogedbednfbkmaaDa
import Derived.Test.YtogedbednfbkmaaCb
namespace Go.Proofs.Ytogedbednfbkmaa
open Go.RowKit Go.Maps

theorem rd_own {w : World} {base n : Nat} {A : Option Addr} {c : Nat} {xs : List Int} (h : w.ownsRow base 5 1 (.slice A n c) n (xs.map (.int .u8))) (hn : n = xs.length) : n ≤ c ∧ RdB w A n c xs := by
  subst hn
  obtain ⟨A2, c2, h1, h3, h2⟩ := (Vl.of_own h rfl).rd
  injection h1 with h4 h5 h6
  subst h4 h6
  exact ⟨h3, h2⟩
theorem key_ne (j : Nat) : keyB j ≠ kX ∧ keyB j ≠ kY := by
  have h : ∀ j, digitAt j ≠ 120 ∧ digitAt j ≠ 121 := by
    intro j
    unfold digitAt
    split <;> decide
  have hk : ∀ (d : UInt8) (j : Nat), digitAt j ≠ d → keyB j ≠ (⟨#[107, d]⟩ : ByteArray) := fun d j hd e => by
    unfold keyB at e
    have h1 := congrArg ByteArray.data e
    have h2 := congrArg Array.toList h1
    simp at h2
    exact hd h2
  exact ⟨hk 120 j (h j).1, hk 121 j (h j).2⟩

set_option maxHeartbeats 8000000 in
set_option maxRecDepth 100000 in
theorem dear_try (w : World) (a0 b0 many : Int) : Calls Try.prog 4 #[.int .i64 a0, .int .i64 b0, .int .i64 many] w fun e w' => e = .returned (.bool true) ∧ Below w.heap.size w w' := by
  have a1 : 0 ≤ a0 % 1000 ∧ a0 % 1000 < 1000 := ⟨Int.emod_nonneg _ (by omega), Int.emod_lt_of_pos _ (by omega)⟩
  have b1 : 0 ≤ b0 % 1000 ∧ b0 % 1000 < 1000 := ⟨Int.emod_nonneg _ (by omega), Int.emod_lt_of_pos _ (by omega)⟩
  have m1 : 0 ≤ many % 21 ∧ many % 21 < 21 := ⟨Int.emod_nonneg _ (by omega), Int.emod_lt_of_pos _ (by omega)⟩
  have hbm := fun W => hid_ (bring_c many 21 W (by omega) (by omega))
  have HBm := hid_ hbm
  clear hbm
  go_enter Try.func4, Try.ntmps4
  go_wp2_with fail
  refine (bring_c a0 1000 _ (by omega) (by omega)).mono ?_
  rintro e w1 ⟨rfl, rfl⟩
  go_wp2_with fail
  refine (bring_c b0 1000 _ (by omega) (by omega)).mono ?_
  rintro e w1 ⟨rfl, rfl⟩
  generalize a0 % 1000 = a at *
  generalize b0 % 1000 = b at *
  generalize many % 21 = m at *
  go_wp2_with fail
  refine (new_ok 40 w (by omega)).mono ?_
  rintro e w1 ⟨cb, rfl, hN, hb1⟩
  have O0 := hid_ (Own.start hN hb1)
  clear hN hb1
  obtain ⟨D1, D2, D3⟩ := dear_start a b (valB 8 1) (valB 8 2) (valB_len _ _) (valB_len _ _) a1 b1
  have H1 := hid_ D1
  have H2 := hid_ D2
  have H3 := hid_ D3
  clear D1 D2 D3
  go_wp2_with fail
  refine (value_c 8 1 w1 (by omega) (by omega) (by omega)).mono ?_
  rintro e w2 ⟨A, c1, rfl, hown, hb2⟩
  obtain ⟨hc1, hrd1⟩ := rd_own hown rfl
  have C1 := hid_ ((O0.out.after hb2).put (k := kX) (by decide) ⟨by decide, by decide⟩ hrd1 hc1 (by decide) a)
  rw [show (8 : Int).toNat = 8 from rfl, H1.out] at C1
  clear hown hb2 hc1 hrd1
  go_wp2_with fail
  refine C1.out.mono ?_
  rintro e w3 ⟨rfl, hO⟩
  have O1 := hid_ hO
  clear hO C1
  go_wp2_with fail
  refine (value_c 8 2 w3 (by omega) (by omega) (by omega)).mono ?_
  rintro e w4 ⟨A2, c2, rfl, hown, hb2⟩
  obtain ⟨hc1, hrd1⟩ := rd_own hown rfl
  have C1 := hid_ ((O1.out.after hb2).put (k := kY) (by decide) ⟨by show (1 : Int) ≤ 99000; omega, by show (0 : Int) ≤ 1000000; omega⟩ hrd1 hc1 (by decide) b)
  rw [show (8 : Int).toNat = 8 from rfl, H2.out] at C1
  clear hown hb2 hc1 hrd1
  go_wp2_with fail
  refine C1.out.mono ?_
  rintro e w5 ⟨rfl, hO⟩
  have O2 := hid_ hO
  clear hO C1 O0 O1
  go_wp2
  go_loopw [9] (fun v9 wr => ∃ (i : Nat) (c : Cs), v9 = .int .i64 i ∧ (i : Int) ≤ m ∧ Own w.heap.size w wr cb c ∧ Dear ⟨kX, valB 8 1, a, 0 + a, 0 + 1⟩ ⟨kY, valB 8 2, b, 0 + b, 1 + 1⟩ c.S ∧ c.room = 40 ∧ c.uses = i + 2 ∧ c.missed = 0) (fun v _ => (m - intOf v).toNat)
  case atStart => exact ⟨0, _, rfl, by omega, O2.out, H3.out, rfl, rfl, rfl⟩
  case round =>
    obtain ⟨i, c, rfl, him, hO, hD, hroom, huses, hmis⟩ := hrel
    have HO := hid_ hO
    have HD := hid_ hD
    have HR := hid_ (And.intro hroom (And.intro huses hmis))
    clear hO hD hroom huses hmis O2 H1 H2 H3
    by_cases hlt : (i : Int) < m
    · go_wp2_with fail
      refine (HBm.out wr).out.mono ?_
      rintro e w6 ⟨rfl, rfl⟩
      go_wp2_with fail
      refine (key_c i wr).mono ?_
      rintro e w6 ⟨rfl, rfl⟩
      generalize (((i : Int) % 12).toNat) = j
      go_wp2_with fail
      refine (value_c 8 i wr (by omega) (by omega) (by omega)).mono ?_
      rintro e w6 ⟨A3, c3, rfl, hown, hb3⟩
      obtain ⟨hc3, hrd3⟩ := rd_own hown (by rw [valB_len])
      have hs : Small c := ⟨by rw [HR.out.2.1]; omega, by rw [HR.out.2.2]; omega⟩
      have hok := HO.out.isC.ok
      obtain ⟨p1, p2, p3, p4, p5⟩ := HD.out.put (k := keyB j) (v := valB 8 i) (cost := 0) hok (key_ne j).1 (key_ne j).2 (decide_eq_false (by show ¬ ((2 : Nat) = 0 ∨ 200 < 2 ∨ (0 : Int) < 0 ∨ 1000000 < (0 : Int)); omega)) (by rw [HR.out.1, valB_len]; show ¬ (((2 : Nat) : Int) + ((8 : Nat) : Int) > 40); omega)
      have C1 := hid_ ((HO.out.after hb3).put (k := keyB j) (by show 2 ≤ 1000000; omega) hs hrd3 hc3 (by decide) 0)
      rw [show (8 : Int).toNat = 8 from rfl] at C1
      rw [p1] at C1
      have HP := hid_ (And.intro p2 (And.intro p3 (And.intro p4 p5)))
      clear hown hb3 hc3 hrd3 hs hok p1 p2 p3 p4 p5
      generalize (putC c (keyB j) (valB 8 i) 0).2 = c' at *
      rw [show (8 : Int).toNat = 8 from rfl]
      go_wp2_with fail
      refine C1.out.mono ?_
      rintro e w7 ⟨rfl, hO7⟩
      have O7 := hid_ hO7
      have HX := hid_ (has_c hO7.isC kX (by decide))
      have HY := hid_ (has_c hO7.isC kY (by decide))
      have hrel2 := hid_ (show ∃ (i_1 : Nat) (c : Cs), Value.int .i64 ((i : Int) + 1) = .int .i64 i_1 ∧ (i_1 : Int) ≤ m ∧ Own w.heap.size w w7 cb c ∧ Dear ⟨kX, valB 8 1, a, 0 + a, 0 + 1⟩ ⟨kY, valB 8 2, b, 0 + b, 1 + 1⟩ c.S ∧ c.room = 40 ∧ c.uses = i_1 + 2 ∧ c.missed = 0 from
        ⟨i + 1, c', by go_num, by omega, hO7, HP.out.1, HP.out.2.2.1.trans HR.out.1, by rw [HP.out.2.1, HR.out.2.1]; omega, HP.out.2.2.2.trans HR.out.2.2⟩)
      have hXY : ltE ⟨kX, valB 8 1, a, 0 + a, 0 + 1⟩ ⟨kY, valB 8 2, b, 0 + b, 1 + 1⟩ = true → hasE kX c'.S = true → hasE kY c'.S = true := HP.out.1.has
      have hYX : ltE ⟨kY, valB 8 2, b, 0 + b, 1 + 1⟩ ⟨kX, valB 8 1, a, 0 + a, 0 + 1⟩ = true → hasE kY c'.S = true → hasE kX c'.S = true := HP.out.1.swap.has
      have hl1 : a ≤ b → ltE ⟨kX, valB 8 1, a, 0 + a, 0 + 1⟩ ⟨kY, valB 8 2, b, 0 + b, 1 + 1⟩ = true := fun h => decide_eq_true (by show (0 + a < 0 + b ∨ 0 + a = 0 + b ∧ (0 : Int) + 1 < 1 + 1); omega)
      have hl2 : b < a → ltE ⟨kY, valB 8 2, b, 0 + b, 1 + 1⟩ ⟨kX, valB 8 1, a, 0 + a, 0 + 1⟩ = true := fun h => decide_eq_true (by show (0 + b < 0 + a ∨ 0 + b = 0 + a ∧ (1 : Int) + 1 < 0 + 1); omega)
      clear hO7 C1
      generalize hasE kX c'.S = x at *
      generalize hasE kY c'.S = y at *
      rcases Int.lt_trichotomy a b with h | h | h
      · have hy : x = true → y = true := hXY (hl1 (by omega))
        have g1 : (a == b) = false := by rw [beq_eq_false_iff_ne]; omega
        have g2 : ¬ b < a := by omega
        clear hXY hYX hl1 hl2
        cases x with
        | false =>
          go_wp2_with fail
          refine HX.out.mono ?_
          rintro e w8 ⟨rfl, rfl⟩
          go_wp2
          go_roundw
          case rel => exact hrel2.out
          case measure => simp [intOf]; omega
        | true =>
          obtain rfl := hy rfl
          go_wp2_with fail
          refine HX.out.mono ?_
          rintro e w8 ⟨rfl, rfl⟩
          go_wp2_with fail
          refine HY.out.mono ?_
          rintro e w8 ⟨rfl, rfl⟩
          go_wp2
          go_roundw
          case rel => exact hrel2.out
          case measure => simp [intOf]; omega
      · have hy : x = true → y = true := hXY (hl1 (by omega))
        have g1 : (a == b) = true := by rw [beq_iff_eq]; exact h
        have g2 : ¬ b < a := by omega
        have g3 : ¬ a < b := by omega
        clear hXY hYX hl1 hl2 h
        cases x with
        | false =>
          go_wp2_with fail
          refine HX.out.mono ?_
          rintro e w8 ⟨rfl, rfl⟩
          go_wp2
          go_roundw
          case rel => exact hrel2.out
          case measure => simp [intOf]; omega
        | true =>
          obtain rfl := hy rfl
          go_wp2_with fail
          refine HX.out.mono ?_
          rintro e w8 ⟨rfl, rfl⟩
          go_wp2_with fail
          refine HY.out.mono ?_
          rintro e w8 ⟨rfl, rfl⟩
          go_wp2
          go_roundw
          case rel => exact hrel2.out
          case measure => simp [intOf]; omega
      · have hy : y = true → x = true := hYX (hl2 (by omega))
        have g1 : (a == b) = false := by rw [beq_eq_false_iff_ne]; omega
        have g2 : ¬ a < b := by omega
        clear hXY hYX hl1 hl2
        cases y with
        | false =>
          go_wp2_with fail
          refine HY.out.mono ?_
          rintro e w8 ⟨rfl, rfl⟩
          go_wp2
          go_roundw
          case rel => exact hrel2.out
          case measure => simp [intOf]; omega
        | true =>
          obtain rfl := hy rfl
          go_wp2_with fail
          refine HY.out.mono ?_
          rintro e w8 ⟨rfl, rfl⟩
          go_wp2_with fail
          refine HX.out.mono ?_
          rintro e w8 ⟨rfl, rfl⟩
          go_wp2
          go_roundw
          case rel => exact hrel2.out
          case measure => simp [intOf]; omega
    · go_wp2_with fail
      refine (HBm.out wr).out.mono ?_
      rintro e w6 ⟨rfl, rfl⟩
      go_wp2_with fail
      refine (works_c wr).mono ?_
      rintro e w6 ⟨rfl, hb6⟩
      have HB := hid_ ((HO.out.after hb6).below)
      clear hb6
      go_wp2
      go_ret
      exact ⟨rfl, HB.out⟩
end Go.Proofs.Ytogedbednfbkmaa
