/- LexPlaces: blank; the walk. Conditions: those that each theorem names. -/
import Derived.Test.YtmpdobpnnejmmaaDoorWa
import Derived.Test.YtmpdobpnnejmmaaDoorPl
namespace Go.Proofs.YtmpdobpnnejmmaaDoor
open Go.RowKit Go.Maps

theorem byte_is_ (a : UInt8) (n : Nat) : (((a.toNat : Nat) : Int) == (n : Int)) = decide (a.toNat = n) := by
  by_cases h : a.toNat = n
  · rw [h]; simp
  · rw [decide_eq_false h, beq_eq_false_iff_ne]; omega
theorem blank_next {s : ByteArray} {k : Nat} {r : Bool} (hk : k < s.size) (h : Lx.blankB r ((bl s).drop k) = true) :
    (s[k].toNat = 35 → Lx.blankB true ((bl s).drop (k + 1)) = true) ∧ (s[k].toNat = 10 → Lx.blankB false ((bl s).drop (k + 1)) = true) ∧ (s[k].toNat ≠ 10 → r = true → Lx.blankB true ((bl s).drop (k + 1)) = true) ∧
    (s[k].toNat ≠ 35 → s[k].toNat ≠ 10 → r = false → s[k].toNat = 32 ∧ Lx.blankB false ((bl s).drop (k + 1)) = true) := by
  rw [bl_drop s hk] at h
  unfold Lx.blankB at h
  have c : ∀ n : UInt8, (s[k] = n) ↔ s[k].toNat = n.toNat := fun n => UInt8.toNat_inj.symm
  have c35 := c 35
  have c10 := c 10
  have c32 := c 32
  have n35 : (35 : UInt8).toNat = 35 := rfl
  have n10 : (10 : UInt8).toNat = 10 := rfl
  have n32 : (32 : UInt8).toNat = 32 := rfl
  rw [n35] at c35
  rw [n10] at c10
  rw [n32] at c32
  simp only [c35, c10, c32, Bool.and_eq_true] at h
  obtain ⟨h1, h2⟩ := h
  refine ⟨fun e => ?_, fun e => ?_, fun e er => ?_, fun e1 e2 er => ?_⟩
  · simpa [e] using h2
  · simpa [e] using h2
  · simpa [e, er] using h2
  · subst er
    simp only [e1, e2, decide_false, Bool.false_and, Bool.or_false, Bool.false_or, decide_eq_true_eq] at h1 h2
    exact ⟨h1, h2⟩

set_option maxHeartbeats 4000000 in
set_option maxRecDepth 100000 in
theorem law_blank (w : World) (s : ByteArray) (hs : s.size ≤ 1000000000) (h : Lx.blankB false (bl s) = true) : Calls Tryd.prog 20 #[.string s] w fun e w' => e = .returned (.bool true) ∧ w' = w := by
  have HS := hid_ h
  clear h
  go_enter Tryd.func20, Tryd.ntmps20
  go_wp2_with fail
  go_loop [3, 4] (fun v3 v4 => ∃ (r : Bool) (k : Nat), v3 = .bool r ∧ v4 = .int .i64 k ∧ k ≤ s.size ∧ Lx.blankB r ((bl s).drop k) = true) (fun _ v4 => s.size - (intOf v4).toNat)
  case atStart => exact ⟨false, 0, rfl, rfl, by omega, HS.out⟩
  case round =>
    obtain ⟨r, k, rfl, rfl, hk, hb⟩ := hrel
    have HR := hid_ hb
    clear hb HS
    by_cases hlt : k < s.size
    · have b0 : (0 : Int) ≤ (k : Int) := by omega
      have b1 : (k : Int) < (s.size : Int) := by omega
      have HN := hid_ (blank_next hlt HR.out)
      have q32 : (((s[k].toNat : Nat) : Int) == (32 : Int)) = decide (s[k].toNat = 32) := byte_is_ s[k] 32
      have q10 : (((s[k].toNat : Nat) : Int) == (10 : Int)) = decide (s[k].toNat = 10) := byte_is_ s[k] 10
      have q35 : (((s[k].toNat : Nat) : Int) == (35 : Int)) = decide (s[k].toNat = 35) := byte_is_ s[k] 35
      by_cases h35 : s[k].toNat = 35
      · have h10 : s[k].toNat ≠ 10 := by omega
        have h32 : s[k].toNat ≠ 32 := by omega
        rw [decide_eq_false h10] at q10
        rw [decide_eq_false h32] at q32
        rw [decide_eq_true h35] at q35
        go_wp2_with fail
        go_round
        case rel => exact ⟨true, k + 1, rfl, by go_num, by omega, HN.out.1 h35⟩
        case measure => simp [intOf]; omega
      · rw [decide_eq_false h35] at q35
        by_cases h10 : s[k].toNat = 10
        · have h32 : s[k].toNat ≠ 32 := by omega
          rw [decide_eq_true h10] at q10
          rw [decide_eq_false h32] at q32
          go_wp2_with fail
          go_round
          case rel => exact ⟨false, k + 1, rfl, by go_num, by omega, HN.out.2.1 h10⟩
          case measure => simp [intOf]; omega
        · rw [decide_eq_false h10] at q10
          cases r with
          | true =>
            go_wp2_with fail
            go_round
            case rel => exact ⟨true, k + 1, rfl, by go_num, by omega, HN.out.2.2.1 h10 rfl⟩
            case measure => simp [intOf]; omega
          | false =>
            have h32 := (HN.out.2.2.2 h35 h10 rfl).1
            rw [decide_eq_true h32] at q32
            go_wp2_with fail
            go_round
            case rel => exact ⟨false, k + 1, rfl, by go_num, by omega, (HN.out.2.2.2 h35 h10 rfl).2⟩
            case measure => simp [intOf]; omega
    · have b1 : ¬ (k : Int) < (s.size : Int) := by omega
      go_wp2_with fail
      go_ret
      exact ⟨rfl, rfl⟩

/-- What holds ahead of word k, at the place a. -/
def PlR (T : ByteArray) (ws : List Lx.Wd) (a k : Nat) : Prop := (k ≤ ws.length ∧ a ≤ T.size ∧ Lx.Places (bl T) a (ws.drop k)) ∨ (k = ws.length + 1 ∧ a = T.size)
theorem shown_st (k : Int) (t : List UInt8) : (k = 4 ∧ st (Lx.shown k t) = ⟨#[39]⟩ ++ st t) ∨ (k ≠ 4 ∧ st (Lx.shown k t) = st t) := by
  unfold Lx.shown
  by_cases h : k = 4
  · rw [if_pos h]; exact .inl ⟨h, (quote_st t).symm⟩
  · rw [if_neg h]; exact .inr ⟨h, rfl⟩
theorem shown_some (k : Int) {t : List UInt8} (h : t ≠ []) : (st (Lx.shown k t)).toList.isEmpty = false := by
  refine str_some ?_
  unfold Lx.shown
  split
  · simp
  · exact h
theorem place_step {T : ByteArray} {ws : List Lx.Wd} {a k : Nat} (h : PlR T ws a k) (hk : k < (ws ++ [endW T]).length) : ∃ (p : Nat) (tt : ByteArray), (ws ++ [endW T])[k].pos = p ∧ (((ws ++ [endW T])[k].kind = 4 ∧ tt = ⟨#[39]⟩ ++ st (ws ++ [endW T])[k].text) ∨ ((ws ++ [endW T])[k].kind ≠ 4 ∧ tt = st (ws ++ [endW T])[k].text)) ∧
    a ≤ p ∧ p + tt.size ≤ T.size ∧ T.extract p (p + tt.size) = tt ∧ Lx.blankB false (bl (T.extract a p)) = true ∧ ((k < ws.length ∧ tt.toList.isEmpty = false) ∨ (k = ws.length ∧ tt.toList.isEmpty = true)) ∧ PlR T ws (p + tt.size) (k + 1) := by
  have hk2 : k < ws.length + 1 := by simpa using hk
  rcases h with ⟨h1, h2, h3⟩ | ⟨h1, _⟩
  · by_cases hlt : k < ws.length
    · rw [List.getElem_append_left hlt]
      rw [List.drop_eq_getElem_cons hlt] at h3
      obtain ⟨p, p1, p2, p3, p4, p5, p6, p7⟩ := h3
      rw [bl_len] at p4
      refine ⟨p, st (Lx.shown ws[k].kind ws[k].text), p1, ?_, p2, by rw [st_size]; exact p4, ?_, ?_, .inl ⟨hlt, shown_some _ p3⟩, .inl ⟨hlt, by rw [st_size]; exact p4, by rw [st_size]; exact p7⟩⟩
      · rcases shown_st ws[k].kind ws[k].text with h | h
        · exact .inl h
        · exact .inr h
      · rw [st_size, extract_st, Nat.add_sub_cancel_left, p5]
      · rw [extract_st, bl_st]
        exact p6
    · have he : k = ws.length := by omega
      subst he
      have e : (ws ++ [endW T])[ws.length] = endW T := by simp
      rw [e]
      rw [List.drop_eq_nil_of_le (Nat.le_refl _)] at h3
      refine ⟨T.size, st [], rfl, .inr ⟨by show (7 : Int) ≠ 4; decide, rfl⟩, h2, ?_, ?_, ?_, .inr ⟨rfl, str_none rfl⟩, .inr ⟨rfl, ?_⟩⟩
      · rw [st_size]; exact Nat.le_refl _
      · rw [st_size, extract_st]
        simp
      · rw [extract_st, bl_st, List.take_of_length_le (by rw [List.length_drop, bl_len]; exact Nat.le_refl _)]
        exact h3
      · rw [st_size]; rfl
  · omega

set_option maxHeartbeats 4000000 in
set_option maxRecDepth 100000 in
theorem lexPlaces_walk {w : World} (hv : Env w) (s : ByteArray) : Calls Tryd.prog 4 #[.string s] w fun e w' => e = .returned (.bool true) ∧ Below w.heap.size w w' := by
  have HV := hid_ hv
  clear hv
  obtain ⟨n, hn, hn1, hn2⟩ : ∃ n : Nat, n = min s.size 2000 ∧ n ≤ s.size ∧ n ≤ 2000 := ⟨_, rfl, Nat.min_le_left _ _, Nat.min_le_right _ _⟩
  have e0 : min (s.size : Int) 2000 = (n : Int) := by omega
  go_enter Tryd.func4, Tryd.ntmps4
  go_wp2_with fail
  obtain ⟨T, eT⟩ : ∃ T, T = s.extract 0 (min s.size 2000) := ⟨_, rfl⟩
  have hT : T.size ≤ 2000 := by rw [eT, ByteArray.size_extract]; omega
  rw [← eT]
  clear eT e0 hn hn1 hn2
  have hT2 : T.size ≤ 1000000000 := by omega
  refine (lex_WordsU HV.out T hT2).mono ?_
  rintro e w2 ⟨v, hws, rfl, hb2⟩
  have HB2 := hid_ hb2
  clear hb2
  cases hc : Lx.cut (bl T) with
  | error a =>
    have e9 : wordsR T = ([], (a : Int), 20) := by unfold wordsR; rw [if_neg (by omega), hc]
    rw [e9] at hws ⊢
    obtain ⟨A, c, rfl, _, _⟩ := hws
    have hlt : (a : Int) < (T.size : Int) := by have := Lx.cut_err_lt hc; rw [bl_len] at this; omega
    have hge : (0 : Int) ≤ (a : Int) := by omega
    clear hc e9
    go_wp2_with fail
    refine (law_works (HV.out.below HB2.out)).mono ?_
    rintro e w3 ⟨rfl, hb3⟩
    have HB3 := hid_ (HB2.out.trans (hb3.mono HB2.out.size))
    clear hb3
    go_wp2_with fail
    go_ret
    exact ⟨rfl, HB3.out⟩
  | ok ws =>
    have e9 : wordsR T = (ws ++ [endW T], 0, 0) := by unfold wordsR; rw [if_neg (by omega), hc]
    have HP := hid_ (Lx.cut_places hc)
    rw [e9] at hws ⊢
    obtain ⟨A, c, rfl, hn, hA⟩ := hws
    clear hc
    have hall : (ws ++ [endW T]).length = ws.length + 1 := by simp
    have hfew : ws.length ≤ 2002 := by
      have := wordsR_few T
      rw [e9, hall] at this
      omega
    clear e9
    dsimp only at hn hA ⊢
    rw [hall]
    go_wp2_with fail
    go_loopw [6, 7, 8] (fun v6 v7 _ wr => Below w2.heap.size w2 wr ∧ ∃ (a k : Nat), v6 = .int .i64 a ∧ v7 = .int .i64 k ∧ k ≤ ws.length + 1 ∧ PlR T ws a k) (fun _ v7 _ _ => ws.length + 1 - (intOf v7).toNat)
    case atStart => exact ⟨Below.refl _ _, 0, 0, rfl, rfl, by omega, .inl ⟨by omega, by omega, HP.out⟩⟩
    case round =>
      obtain ⟨hbw, a, k, rfl, rfl, hk, hR⟩ := hrel
      have HBw := hid_ hbw
      have HR := hid_ hR
      clear hR
      have b0 : (0 : Int) ≤ (k : Int) := by omega
      by_cases hlt : k < ws.length + 1
      · have b1 : (k : Int) < ((ws.length : Int) + 1) := by omega
        have b1' : (k : Int) < ((ws.length + 1 : Nat) : Int) := by omega
        cases A with
        | none => have := hn rfl; simp at this
        | some ad =>
          obtain ⟨b, off, n⟩ := ad
          obtain ⟨rfl, hcx⟩ := hA b off n rfl
          have hka : k < (ws ++ [endW T]).length := by rw [hall]; exact hlt
          have x0 : wr.cell? ⟨b, off + k * 4, none⟩ = some (.int .i64 (ws ++ [endW T])[k].kind) := below_cell hbw (hcx k hka 0 (by omega))
          have x1 : wr.cell? ⟨b, off + k * 4 + 1, none⟩ = some (.string (st (ws ++ [endW T])[k].text)) := below_cell hbw (hcx k hka 1 (by omega))
          have x3 : wr.cell? ⟨b, off + k * 4 + 3, none⟩ = some (.int .i64 (ws ++ [endW T])[k].pos) := below_cell hbw (hcx k hka 3 (by omega))
          obtain ⟨p, tt, p1, p2, p3, p4, p5, p6, p7, p8⟩ := place_step HR.out hka
          rw [p1] at x3
          generalize (ws ++ [endW T])[k].kind = kd at *
          generalize st (ws ++ [endW T])[k].text = tx at *
          have HN := hid_ p8
          have HBl := hid_ (fun W => law_blank W (T.extract a p) (by rw [ByteArray.size_extract]; omega) p6)
          have w1 : IntKind.i64.wrap ((p : Int) + (tt.size : Int)) = (p : Int) + (tt.size : Int) := IntWalk.i64_in _ (by omega)
          have t1 : ((p : Int) + (tt.size : Int)).toNat = p + tt.size := by omega
          have c1 : ¬ (p : Int) < (a : Int) := by omega
          have c2 : ¬ (T.size : Int) < (p : Int) + (tt.size : Int) := by omega
          have c3 : (p : Int) ≤ (p : Int) + (tt.size : Int) := by omega
          have c4 : (0 : Int) ≤ (p : Int) := by omega
          have c5 : (a : Int) ≤ (p : Int) := by omega
          have c6 : (p : Int) ≤ (T.size : Int) := by omega
          have c7 : (0 : Int) ≤ (a : Int) := by omega
          have c8 : (p : Int) + (tt.size : Int) ≤ (T.size : Int) := by omega
          have q0 : ((T.extract p ((p : Int) + (tt.size : Int)).toNat).toList == tt.toList) = true := by rw [t1]; exact str_eq p5
          have hsz : tt.size ≤ 2000 := by omega
          have g1 : decide ((p : Int) < (a : Int)) = false := decide_eq_false c1
          have g1' : decide (p < a) = false := decide_eq_false (by omega)
          have g2 : decide ((T.size : Int) < (p : Int) + (tt.size : Int)) = false := decide_eq_false c2
          have w2' : IntKind.i64.wrap ((ws.length : Nat) : Int) = (ws.length : Int) := IntWalk.i64_in _ (by omega)
          have g3 : (((ws.length : Nat) : Int) == ((ws.length : Nat) : Int)) = true := by simp
          clear hbw hn hA hcx p1 p6 p8 HR
          have HP2 := hid_ p2
          have HP7 := hid_ p7
          clear p2 p7
          rcases HP2.out with ⟨rfl, htt⟩ | ⟨hk4, htt⟩
          case' inl =>
            have q8 : ¬ (9223372036854775807 < 1 + tx.size) := by
              have h9 : tt.size = 1 + tx.size := by rw [htt, ByteArray.size_append]; rfl
              omega
            have q9 := htt.symm
            clear htt HP2
          case' inr =>
            subst htt
            clear HP2
          all_goals
            rcases HP7.out with ⟨k1, e1⟩ | ⟨k1, e1⟩
            case' inl => have k2 : (((k : Nat) : Int) == ((ws.length : Nat) : Int)) = false := by rw [beq_eq_false_iff_ne]; omega
            case' inr => subst k1
            all_goals
              clear HP7
              go_wp2_with fail
              go_quiet (first | (go_at_call 20; go_loud (exact Calls.quiet_of_same (HBl.out _))))
              go_wp2_with fail
              go_roundw
              case rel => exact ⟨bdrewN HBw.out _, _, _ + 1, by go_num, by go_num, by omega, HN.out⟩
              case measure => (simp [intOf] <;> omega)
      · have b1 : ¬ (k : Int) < ((ws.length : Int) + 1) := by omega
        have b1' : ¬ (k : Int) < ((ws.length + 1 : Nat) : Int) := by omega
        have ea : a = T.size := by
          rcases HR.out with ⟨h1, _⟩ | ⟨_, h2⟩
          · omega
          · exact h2
        subst ea
        clear hbw hn hA
        go_wp2_with fail
        refine (law_works (HV.out.below (HB2.out.trans (HBw.out.mono HB2.out.size)))).mono ?_
        rintro e w3 ⟨rfl, hb3⟩
        have HB3 := hid_ ((HB2.out.trans (HBw.out.mono HB2.out.size)).trans (hb3.mono (HB2.out.trans (HBw.out.mono HB2.out.size)).size))
        clear hb3
        go_wp2_with fail
        go_ret
        exact ⟨rfl, HB3.out⟩
end Go.Proofs.YtmpdobpnnejmmaaDoor
