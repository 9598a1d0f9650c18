/- The document's lex: numbers, ends, signs. Conditions: those that each theorem names. -/
import Derived.Test.YtmpdobpnnejmmaaDoorRa
import Derived.Test.YtmpdobpnnejmmaaDoorLg
import Derived.Test.YtmpdobpnnejmmaaDoorLd
import Derived.Test.YtmpdobpnnejmmaaDoorLk
import Derived.Deep.DeepCutAuto
import Derived.Deep.CutBlock
namespace Go.Proofs.YtmpdobpnnejmmaaDoor
open Go.RowKit Go.Maps

theorem take_snoc (s : ByteArray) {k : Nat} (h : k < s.size) : (bl s).take (k + 1) = (bl s).take k ++ [s[k]] := by
  have e := bl_drop s h
  have e2 : (bl s)[k]? = some s[k] := by
    have e3 : ((bl s).drop k)[0]? = some s[k] := by rw [e]; rfl
    rw [List.getElem?_drop] at e3
    simpa using e3
  rw [List.take_add_one, e2]
  rfl
theorem Lx.vals_split' (t u : List UInt8) : Lx.vals 0 (t ++ u) = Lx.vals (Lx.vals 0 t) u := by unfold Lx.vals; rw [List.foldl_append]
/-- What number's loop knows ahead of k. -/
def NumR (s : ByteArray) (k n : Nat) : Prop := n = Lx.vals 0 ((bl s).take k) ∧ ((bl s).take k).all Lx.digit = true ∧ n ≤ 2147483647 ∧ (2 ≤ k → ∀ h : 0 < s.size, s[0].toNat ≠ 48)
open Lx in
theorem num_bad {s : ByteArray} {k : Nat} (hk : k < s.size) (h : Lx.digit s[k] = false) : Lx.number (bl s) = -1 := by
  unfold Lx.number
  rw [if_neg]
  rintro ⟨_, h2, _⟩
  rw [← List.take_append_drop (k + 1) (bl s), take_snoc s hk, List.all_append, List.all_append] at h2
  simp [h] at h2
theorem num_lead {s : ByteArray} (hk : 1 < s.size) (h : s[0].toNat = 48) : Lx.number (bl s) = -1 := by
  unfold Lx.number
  rw [if_neg]
  rintro ⟨_, _, h2, _⟩
  have e := bl_drop s (show 0 < s.size by omega)
  rw [List.drop_zero] at e
  have hh : (bl s).head? = some 48 := by
    rw [e, List.head?_cons]
    congr 1
    exact UInt8.toNat_inj.1 h
  have := h2 hh
  rw [bl_len] at this
  omega
theorem num_big {s : ByteArray} {k n : Nat} (h : NumR s k n) (hk : k < s.size) (hb : 2147483647 < 10 * n + (s[k].toNat - 48)) : Lx.number (bl s) = -1 := by
  unfold Lx.number
  rw [if_neg]
  rintro ⟨_, h2, _, h4⟩
  rw [Lx.val_eq h2] at h4
  have e : Lx.vals 0 (bl s) = Lx.vals (Lx.vals 0 ((bl s).take (k + 1))) ((bl s).drop (k + 1)) := by
    rw [← Lx.vals_split', List.take_append_drop]
  have h5 := Lx.vals_ge ((bl s).drop (k + 1)) (Lx.vals 0 ((bl s).take (k + 1)))
  rw [take_snoc s hk, Lx.vals_snoc, ← h.1] at h5 e
  rw [e] at h4
  omega
theorem num_next {s : ByteArray} {k n : Nat} (h : NumR s k n) (hk : k < s.size) (hd : Lx.digit s[k] = true) (hb : 10 * n + (s[k].toNat - 48) ≤ 2147483647) (hl : k = 1 → ∀ h : 0 < s.size, s[0].toNat ≠ 48) : NumR s (k + 1) (10 * n + (s[k].toNat - 48)) := by
  refine ⟨?_, ?_, hb, fun h2 h0 => ?_⟩
  · rw [take_snoc s hk, Lx.vals_snoc, ← h.1]
  · rw [take_snoc s hk, List.all_append, h.2.1]; simp [hd]
  · by_cases e : k = 1
    · exact hl e h0
    · exact h.2.2.2 (by omega) h0
theorem num_end {s : ByteArray} {k n : Nat} (h : NumR s k n) (hk : s.size ≤ k) (h0 : 0 < s.size) : Lx.number (bl s) = n := by
  obtain ⟨h1, h2, h3, h4⟩ := h
  rw [List.take_of_length_le (by rw [bl_len]; exact hk)] at h1 h2
  unfold Lx.number
  rw [if_pos, Lx.val_eq h2, ← h1]
  have e := bl_drop s h0
  rw [List.drop_zero] at e
  refine ⟨by rw [e]; simp, h2, fun hh => ?_, by rw [Lx.val_eq h2, ← h1]; omega⟩
  rw [e, List.head?_cons] at hh
  have hz : s[0].toNat = 48 := by
    injection hh with hh
    rw [hh]
    rfl
  rw [bl_len]
  by_cases hs : 2 ≤ s.size
  · exact absurd hz (h4 (by omega) h0)
  · omega
theorem num_none {s : ByteArray} (h : s.size = 0) : Lx.number (bl s) = -1 := by
  have e : bl s = [] := List.eq_nil_of_length_eq_zero (by rw [bl_len]; omega)
  rw [e]
  rfl

set_option maxHeartbeats 1000000 in
set_option maxRecDepth 100000 in
theorem ref_number (w : World) (s : ByteArray) (hs : s.size ≤ 1000000000) : Calls Tryd.prog 51 #[.string s] w fun e w' => e = .returned (.int .i64 (Lx.number (bl s))) ∧ w = w' := by
  go_enter Tryd.func51, Tryd.ntmps51
  go_wp2_with fail
  go_loop [3, 4] (fun v3 v4 => ∃ n k : Nat, v3 = .int .i64 n ∧ v4 = .int .i64 k ∧ k ≤ s.size ∧ NumR s k n) (fun _ v4 => s.size - (intOf v4).toNat)
  case atStart => exact ⟨0, 0, rfl, rfl, by omega, by simp [Lx.vals], by simp, by omega, by omega⟩
  case round =>
    obtain ⟨n, k, rfl, rfl, hk, hn⟩ := hrel
    have hmax := hn.2.2.1
    have HN := hid_ hn
    clear hn
    by_cases hlt : k < s.size
    · have b0 : (0 : Int) ≤ (k : Int) := by omega
      have b1 : (k : Int) < (s.size : Int) := by omega
      have HD := hid_ (ref_digit s[k] w)
      have HE := hid_ (rfl : Lx.digit s[k] = Lx.digit s[k])
      generalize hg : Lx.digit s[k] = g at HD
      cases g with
      | false =>
        have HR := hid_ (num_bad hlt hg)
        clear hg HE
        go_wp2_with fail
        refine HD.out.mono ?_
        rintro e w' ⟨rfl, rfl⟩
        go_wp2_with fail
        go_ret
        exact ⟨by rw [HR.out]; rfl, rfl⟩
      | true =>
        have HG := hid_ hg
        obtain ⟨hd1, hd2⟩ := Lx.digit_iff.1 hg
        clear hg HE
        have hx : Hid (∀ (hl : k = 1 → ∀ h : 0 < s.size, s[0].toNat ≠ 48), 10 * n + (s[k].toNat - 48) ≤ 2147483647 → NumR s (k + 1) (10 * n + (s[k].toNat - 48))) := hid_ fun hl hb => num_next HN.out hlt HG.out hb hl
        have hy : Hid (2147483647 < 10 * n + (s[k].toNat - 48) → Lx.number (bl s) = -1) := hid_ fun hb => num_big HN.out hlt hb
        have z0 : (48 : Int) ≤ (s[k].toNat : Int) := by omega
        have z1 : (s[k].toNat : Int) ≤ 57 := by omega
        have hz : Hid (((10 * n + (s[k].toNat - 48) : Nat) : Int) = 10 * (n : Int) + ((s[k].toNat : Int) - 48)) := hid_ (by omega)
        by_cases h1 : k = 1
        · subst h1
          by_cases h48 : s[0].toNat = 48
          · have HR := hid_ (num_lead (by omega) h48)
            have q0 : (((s[0].toNat : Nat) : Int) == (48 : Int)) = true := by rw [h48]; rfl
            clear h48
            go_wp2_with fail
            refine HD.out.mono ?_
            rintro e w' ⟨rfl, rfl⟩
            go_wp2_with fail
            go_ret
            exact ⟨by rw [HR.out]; rfl, rfl⟩
          · have q0 : (((s[0].toNat : Nat) : Int) == (48 : Int)) = false := by simp only [beq_eq_false_iff_ne, ne_eq]; omega
            by_cases hb : 2147483647 < 10 * (n : Int) + ((s[1].toNat : Int) - 48)
            · have HR := hid_ (hy.out (by omega))
              go_wp2_with fail
              refine HD.out.mono ?_
              rintro e w' ⟨rfl, rfl⟩
              go_wp2_with fail
              go_ret
              exact ⟨by rw [HR.out]; rfl, rfl⟩
            · have HR := hid_ (hx.out (fun _ _ => h48) (by omega))
              clear h48
              go_wp2_with fail
              refine HD.out.mono ?_
              rintro e w' ⟨rfl, rfl⟩
              go_wp2_with fail
              go_round
              case rel => exact ⟨_, 1 + 1, by rw [hz.out], by go_num, by omega, HR.out⟩
              case measure => simp [intOf]; omega
        · have q1 : ((k : Int) == (1 : Int)) = false := by simp only [beq_eq_false_iff_ne, ne_eq]; omega
          by_cases hb : 2147483647 < 10 * (n : Int) + ((s[k].toNat : Int) - 48)
          · have HR := hid_ (hy.out (by omega))
            go_wp2_with fail
            refine HD.out.mono ?_
            rintro e w' ⟨rfl, rfl⟩
            go_wp2_with fail
            go_ret
            exact ⟨by rw [HR.out]; rfl, rfl⟩
          · have HR := hid_ (hx.out (fun h => absurd h h1) (by omega))
            go_wp2_with fail
            refine HD.out.mono ?_
            rintro e w' ⟨rfl, rfl⟩
            go_wp2_with fail
            go_round
            case rel => exact ⟨_, k + 1, by rw [hz.out], by go_num, by omega, HR.out⟩
            case measure => simp [intOf]; omega
    · have b1 : ¬ (k : Int) < (s.size : Int) := by omega
      by_cases h0 : s.size = 0
      · have HR := hid_ (num_none h0)
        go_wp2_with fail
        go_ret
        exact ⟨by rw [HR.out]; rfl, rfl⟩
      · have HR := hid_ (num_end HN.out (by omega) (by omega))
        have b2 : ¬ (s.size : Int) = 0 := by omega
        go_wp2_with fail
        go_ret
        exact ⟨by rw [HR.out]; rfl, rfl⟩
set_option maxHeartbeats 1000000 in
set_option maxRecDepth 100000 in
theorem ref_end (w : World) (s : ByteArray) (a : Nat) (hs : s.size ≤ 1000000000) (ha : a ≤ s.size) : Calls Tryd.prog 50 #[.string s, .int .i64 a] w fun e w' => e = .returned (.int .i64 ((a : Int) + ((((bl s).drop a).takeWhile Lx.goes).length : Int))) ∧ w = w' := by
  go_enter Tryd.func50, Tryd.ntmps50
  go_wp2_with fail
  go_loop [1] (fun v => ∃ k : Nat, v = .int .i64 k ∧ a ≤ k ∧ k ≤ s.size ∧ RunR Lx.goes s a k) (fun v => s.size - (intOf v).toNat)
  case atStart => exact ⟨a, rfl, Nat.le_refl _, ha, run_start _ _ _⟩
  case round =>
    obtain ⟨k, rfl, hak, hk, hw⟩ := hrel
    have HW := hid_ hw
    clear hw
    have hlen := hid_ (fun (h : ((bl s).drop a).takeWhile Lx.goes = ((bl s).drop a).take (k - a)) => (show (a : Int) + ((((bl s).drop a).takeWhile Lx.goes).length : Int) = (k : Int) by
      rw [h, List.length_take, List.length_drop, bl_len]; omega))
    by_cases hlt : k < s.size
    · have b0 : (0 : Int) ≤ (k : Int) := by omega
      have b1 : (k : Int) < (s.size : Int) := by omega
      have HS := hid_ (fun hg : (Lx.small s[k] || Lx.great s[k] || Lx.digit s[k] || Lx.score s[k]) = true => run_step HW.out hak hlt hg)
      have HT := hid_ (fun hg : (Lx.small s[k] || Lx.great s[k] || Lx.digit s[k] || Lx.score s[k]) = false => hlen.out (run_stop HW.out (fun _ => hg)))
      have H0 := hid_ (ref_small s[k] w)
      have H1 := hid_ (ref_great s[k] w)
      have H2 := hid_ (ref_digit s[k] w)
      have q0 : (((s[k].toNat : Nat) : Int) == (95 : Int)) = Lx.score s[k] := by
        show _ = decide (s[k].toNat = 95)
        by_cases h : s[k].toNat = 95
        · rw [decide_eq_true h, h]; rfl
        · rw [decide_eq_false h]; simp only [beq_eq_false_iff_ne, ne_eq]; omega
      generalize Lx.small s[k] = g0 at *
      generalize Lx.great s[k] = g1 at *
      generalize Lx.digit s[k] = g2 at *
      generalize Lx.score s[k] = g3 at *
      cases g0 with
      | true =>
        go_wp2_with fail
        refine H0.out.mono ?_
        rintro e w' ⟨rfl, rfl⟩
        go_wp2_with fail
        go_round
        case rel => exact ⟨k + 1, by go_num, by omega, by omega, HS.out (by simp)⟩
        case measure => simp [intOf]; omega
      | false =>
        cases g1 with
        | true =>
          go_wp2_with fail
          refine H0.out.mono ?_
          rintro e w' ⟨rfl, rfl⟩
          go_wp2_with fail
          refine H1.out.mono ?_
          rintro e w' ⟨rfl, rfl⟩
          go_wp2_with fail
          go_round
          case rel => exact ⟨k + 1, by go_num, by omega, by omega, HS.out (by simp)⟩
          case measure => simp [intOf]; omega
        | false =>
          cases g2 with
          | true =>
            go_wp2_with fail
            refine H0.out.mono ?_
            rintro e w' ⟨rfl, rfl⟩
            go_wp2_with fail
            refine H1.out.mono ?_
            rintro e w' ⟨rfl, rfl⟩
            go_wp2_with fail
            refine H2.out.mono ?_
            rintro e w' ⟨rfl, rfl⟩
            go_wp2_with fail
            go_round
            case rel => exact ⟨k + 1, by go_num, by omega, by omega, HS.out (by simp)⟩
            case measure => simp [intOf]; omega
          | false =>
            cases g3 with
            | true =>
              go_wp2_with fail
              refine H0.out.mono ?_
              rintro e w' ⟨rfl, rfl⟩
              go_wp2_with fail
              refine H1.out.mono ?_
              rintro e w' ⟨rfl, rfl⟩
              go_wp2_with fail
              refine H2.out.mono ?_
              rintro e w' ⟨rfl, rfl⟩
              go_wp2_with fail
              go_round
              case rel => exact ⟨k + 1, by go_num, by omega, by omega, HS.out (by simp)⟩
              case measure => simp [intOf]; omega
            | false =>
              go_wp2_with fail
              refine H0.out.mono ?_
              rintro e w' ⟨rfl, rfl⟩
              go_wp2_with fail
              refine H1.out.mono ?_
              rintro e w' ⟨rfl, rfl⟩
              go_wp2_with fail
              refine H2.out.mono ?_
              rintro e w' ⟨rfl, rfl⟩
              go_wp2_with fail
              go_ret
              exact ⟨by rw [HT.out (by simp)]; rfl, rfl⟩
    · have b1 : ¬ (k : Int) < (s.size : Int) := by omega
      have HT := hid_ (hlen.out (run_stop HW.out (fun h => absurd h hlt)))
      go_wp2
      go_ret
      exact ⟨by rw [HT.out]; rfl, rfl⟩
theorem pref_is (s : ByteArray) (g : List UInt8) {a : Nat} (_ : a ≤ s.size) : a + (st g).size ≤ s.size → (g.isPrefixOf ((bl s).drop a) = true ↔ s.extract a (a + (st g).size) = st g) := by
  intro h
  rw [extract_st, List.isPrefixOf_iff_prefix, List.prefix_iff_eq_take, st_size, Nat.add_sub_cancel_left]
  constructor
  · intro e; rw [← e]
  · intro e
    have := congrArg bl e
    rw [bl_st, bl_st] at this
    exact this.symm
theorem pref_long (s : ByteArray) (g : List UInt8) {a : Nat} (ha : a ≤ s.size) (h : s.size < a + g.length) : g.isPrefixOf ((bl s).drop a) = false := by
  cases hg : g.isPrefixOf ((bl s).drop a) with
  | false => rfl
  | true =>
    have := (List.isPrefixOf_iff_prefix.1 hg).length_le
    rw [List.length_drop, bl_len] at this
    omega
set_option maxHeartbeats 2000000 in
set_option maxRecDepth 100000 in
theorem ref_sign (w : World) (s : ByteArray) (a : Nat) (hs : s.size ≤ 1000000000) (ha : a ≤ s.size) : Calls Tryd.prog 49 #[.string s, .int .i64 a] w fun e w' => e = .returned (.string (st ((Lx.sign? ((bl s).drop a)).getD []))) ∧ Below w.heap.size w w' := by
  go_enter Tryd.func49, Tryd.ntmps49
  go_wp2_with fail
  have hB := Blk.new w 9 (strV Lx.signsL)
  have HB0 := hid_ ((Below.refl w.heap.size w).alloc (Nat.le_refl _) (.cells (strV Lx.signsL) 9))
  generalize hw1 : w.alloc (.cells (strV Lx.signsL) 9) = w1 at hB HB0
  have e1 : (w.alloc (.cells #[.string ⟨#[58, 58]⟩, .string ⟨#[61, 61]⟩, .string ⟨#[60, 58]⟩, .string ⟨#[124]⟩, .string ⟨#[123]⟩, .string ⟨#[125]⟩, .string ⟨#[40]⟩, .string ⟨#[41]⟩, .string ⟨#[91]⟩, .string ⟨#[93]⟩, .string ⟨#[44]⟩, .string ⟨#[58]⟩, .string ⟨#[46]⟩, .string ⟨#[61]⟩, .string ⟨#[43]⟩, .string ⟨#[60]⟩] 9)) = w1 := hw1
  rw [e1]
  clear e1 hw1
  have HK := hid_ hB
  clear hB
  go_loopw [6] (fun v wr => Below w1.heap.size w1 wr ∧ ∃ k : Nat, v = .int .i64 k ∧ k ≤ 16 ∧ ∀ j, j < k → (Lx.signsL.getD j []).isPrefixOf ((bl s).drop a) = false) (fun v _ => 16 - (intOf v).toNat)
  case atStart => exact ⟨Below.refl _ _, 0, rfl, by omega, fun _ h => by omega⟩
  case round =>
    obtain ⟨hb, k, rfl, hk, hall⟩ := hrel
    have HA := hid_ hall
    have HBr := hid_ hb
    clear hall
    by_cases hlt : k < 16
    · have x0 : wr.cell? ⟨w.heap.size, k, none⟩ = some (.string (st (Lx.signsL.getD k []))) := below_cell hb ((HK.out.cell k).trans (strV_at hlt))
      clear hb
      have b0 : (0 : Int) ≤ (k : Int) := by omega
      have b1 : (k : Int) < 16 := by omega
      have a0 : (0 : Int) ≤ (a : Int) := by omega
      have HF := hid_ (fun h => find_at (l := (bl s).drop a) hlt HA.out h)
      have HA2 := hid_ (show (Lx.signsL.getD k []).isPrefixOf ((bl s).drop a) = false → ∀ j, j < k + 1 → (Lx.signsL.getD j []).isPrefixOf ((bl s).drop a) = false from fun h j hj => by
        by_cases e : j = k
        · subst e; exact h
        · exact HA.out j (by omega))
      have hsz : (st (Lx.signsL.getD k [])).size = (Lx.signsL.getD k []).length := st_size _
      generalize Lx.signsL.getD k [] = g at *
      have hpx := pref_is s g ha
      generalize hst : st g = tx at *
      have HSt := hid_ hst
      have HSz := hid_ hsz
      have hs' : (s.size : Int) ≤ 1000000000 := by omega
      have ha' : (a : Int) ≤ (s.size : Int) := by omega
      have q5 : IntKind.i64.wrap ((s.size : Int) - (a : Int)) = (s.size : Int) - (a : Int) := IntWalk.i64_in _ (by omega)
      clear hst hsz
      by_cases hfit : (tx.size : Int) ≤ (s.size : Int) - (a : Int)
      · have hf2 : (a : Int) + (tx.size : Int) ≤ (s.size : Int) := by omega
        have hq := hpx (by omega)
        have e9 : ((a : Int) + (tx.size : Int)).toNat = a + tx.size := by omega
        have hf3 : (a : Int) ≤ (a : Int) + (tx.size : Int) := by omega
        have a0' : (0 : Int) ≤ (a : Int) + (tx.size : Int) := by omega
        have q7 : decide ((tx.size : Int) ≤ (s.size : Int) - (a : Int)) = true := decide_eq_true hfit
        have q6 : IntKind.i64.wrap ((a : Int) + (tx.size : Int)) = (a : Int) + (tx.size : Int) := IntWalk.i64_in _ (by omega)
        clear hpx
        by_cases he : s.extract a (a + tx.size) = tx
        · have q0 : ((s.extract a ((a : Int) + (tx.size : Int)).toNat).toList == tx.toList) = true := by rw [e9]; exact str_eq he
          have HT := hid_ (HF.out (hq.2 he))
          clear he hq e9
          go_wp2_with fail
          go_region_held3 (fun W => W.cell? ⟨w.heap.size, k, none⟩ = some (.string tx)) (first | exact x0 | assumption) (fail)
          go_wp2
          go_ret
          exact ⟨by rw [HT.out, ← HSt.out]; rfl, HB0.out.trans ((HBr.out.drew).mono HB0.out.size)⟩
        · have q0 : ((s.extract a ((a : Int) + (tx.size : Int)).toNat).toList == tx.toList) = false := by rw [e9]; exact str_ne he
          have HT := hid_ (HA2.out (by
            cases hg : g.isPrefixOf ((bl s).drop a) with
            | false => rfl
            | true => exact absurd (hq.1 hg) he))
          clear he hq e9
          go_wp2_with fail
          go_region_held3 (fun W => W.cell? ⟨w.heap.size, k, none⟩ = some (.string tx)) (first | exact x0 | assumption) (fail)
          go_wp2
          go_roundw
          case rel => exact ⟨HBr.out.drew, k + 1, by go_num, by omega, HT.out⟩
          case measure => simp [intOf]; omega
      · have HT := hid_ (HA2.out (pref_long s g ha (by have := HSz.out; omega)))
        have q7 : decide ((tx.size : Int) ≤ (s.size : Int) - (a : Int)) = false := decide_eq_false hfit
        clear hpx hfit
        go_wp2_with fail
        go_region
        go_wp2
        go_roundw
        case rel => exact ⟨HBr.out.drew, k + 1, by go_num, by omega, HT.out⟩
        case measure => simp [intOf]; omega
    · have b1 : ¬ (k : Int) < 16 := by omega
      have hk : k = 16 := by omega
      subst hk
      have HR := hid_ (find_no HA.out)
      clear hb
      go_wp2
      go_ret
      exact ⟨by rw [HR.out]; rfl, HB0.out.trans (HBr.out.mono HB0.out.size)⟩
end Go.Proofs.YtmpdobpnnejmmaaDoor
