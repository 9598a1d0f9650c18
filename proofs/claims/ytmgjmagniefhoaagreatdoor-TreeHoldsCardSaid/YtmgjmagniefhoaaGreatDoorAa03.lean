/- What stands in these texts of the proof: Lc Mq Ld Le Lf Lh. Conditions: those that each theorem names. -/
import Derived.Test.YtmgjmagniefhoaaGreatDoorAa01
import Derived.Test.YtmgjmagniefhoaaGreatDoorAa02
import Derived.Deep.QuietTactic
import Derived.Below
import Derived.Lib.LaidTab
import Derived.FnData
import Derived.Lib.SmallJoins
/- Lex: blanks. Conditions: those that each theorem names. -/
namespace Go.Proofs.YtmgjmagniefhoaaGreatDoor
open Go.RowKit Go.Maps

theorem skip_remark : ∀ l : List UInt8, Lx.skip true l = Lx.skip false (l.drop (if Lib.indexByte l 10 < 0 then l.length else (Lib.indexByte l 10).toNat))
  | [] => by simp [Lx.skip]
  | c :: l => by
    have ih := skip_remark l
    have hge := Lib.indexByte_ge l 10
    by_cases hc : c = 10
    · subst hc
      have e : Lib.indexByte ((10 : UInt8) :: l) 10 = 0 := rfl
      rw [e]
      simp [Lx.skip]
    · have hb : (c == (10 : UInt8)) = false := by simp [hc]
      have e1 : Lx.skip true (c :: l) = Lx.skip true l := by simp [Lx.skip, hc]
      rw [e1, ih]
      by_cases h1 : Lib.indexByte l 10 = -1
      · have e : Lib.indexByte (c :: l) 10 = -1 := by simp [Lib.indexByte, hb, h1]
        rw [e, h1]
        simp
      · have e : Lib.indexByte (c :: l) 10 = Lib.indexByte l 10 + 1 := by simp [Lib.indexByte, hb, h1]
        rw [e, if_neg (by omega), if_neg (by omega), show (Lib.indexByte l 10 + 1).toNat = (Lib.indexByte l 10).toNat + 1 by omega, List.drop_succ_cons]
theorem skip_le : ∀ (b : Bool) (l : List UInt8), (Lx.skip b l).length ≤ l.length
  | _, [] => by simp [Lx.skip]
  | true, c :: l => by
    unfold Lx.skip
    split
    · have := skip_le false l; simp; omega
    · have := skip_le true l; simp; omega
  | false, c :: l => by
    unfold Lx.skip
    split
    · have := skip_le false l; simp; omega
    · split
      · have := skip_le true l; simp; omega
      · simp
theorem skip_suffix : ∀ (b : Bool) (l : List UInt8), Lx.skip b l = l.drop (l.length - (Lx.skip b l).length)
  | _, [] => by simp [Lx.skip]
  | true, c :: l => by
    have h1 := skip_suffix false l
    have h2 := skip_suffix true l
    have l1 := skip_le false l
    have l2 := skip_le true l
    unfold Lx.skip
    split
    · rw [List.length_cons, show l.length + 1 - (Lx.skip false l).length = l.length - (Lx.skip false l).length + 1 by omega, List.drop_succ_cons]; exact h1
    · rw [List.length_cons, show l.length + 1 - (Lx.skip true l).length = l.length - (Lx.skip true l).length + 1 by omega, List.drop_succ_cons]; exact h2
  | false, c :: l => by
    have h1 := skip_suffix false l
    have h2 := skip_suffix true l
    have l1 := skip_le false l
    have l2 := skip_le true l
    unfold Lx.skip
    split
    · rw [List.length_cons, show l.length + 1 - (Lx.skip false l).length = l.length - (Lx.skip false l).length + 1 by omega, List.drop_succ_cons]; exact h1
    · split
      · rw [List.length_cons, show l.length + 1 - (Lx.skip true l).length = l.length - (Lx.skip true l).length + 1 by omega, List.drop_succ_cons]; exact h2
      · simp
/-- Where blanks and remarks at a place end. -/
def skipTo (s : ByteArray) (i : Nat) : Nat := s.size - (Lx.skip false ((bl s).drop i)).length
theorem skipTo_le (s : ByteArray) (i : Nat) : skipTo s i ≤ s.size := Nat.sub_le _ _
theorem skipTo_ge (s : ByteArray) {i : Nat} (hi : i ≤ s.size) : i ≤ skipTo s i := by
  have := skip_le false ((bl s).drop i)
  rw [List.length_drop, bl_len] at this
  unfold skipTo
  omega
theorem skipTo_drop (s : ByteArray) (i : Nat) : (bl s).drop (skipTo s i) = Lx.skip false ((bl s).drop i) := by
  have h := skip_suffix false ((bl s).drop i)
  have hl := skip_le false ((bl s).drop i)
  rw [List.drop_drop, List.length_drop, bl_len] at h
  rw [List.length_drop, bl_len] at hl
  rw [h]
  unfold skipTo
  by_cases hi : i ≤ s.size
  · congr 1; omega
  · have e : Lx.skip false ((bl s).drop i) = [] := by rw [bl_end s (by omega)]; rfl
    rw [e]
    simp only [List.length_nil, Nat.sub_zero]
    rw [bl_end s (Nat.le_refl _), bl_end s (by omega)]
/-- The loop of blanks. -/
def BlkR (s : ByteArray) (i k : Nat) : Prop := Lx.skip false ((bl s).drop k) = Lx.skip false ((bl s).drop i)
theorem blk_blank {s : ByteArray} {i k : Nat} (h : BlkR s i k) (hk : k < s.size) (hc : s[k] = 32 ∨ s[k] = 10) : BlkR s i (k + 1) := by
  unfold BlkR at *
  rw [← h, bl_drop s hk]
  conv => rhs; unfold Lx.skip
  rw [if_pos hc]
theorem blk_stop {s : ByteArray} {i k : Nat} (h : BlkR s i k) (hk : k ≤ s.size) (hc : ∀ hk : k < s.size, s[k] ≠ 32 ∧ s[k] ≠ 10 ∧ s[k] ≠ 35) : skipTo s i = k := by
  unfold BlkR at h
  unfold skipTo
  rw [← h]
  by_cases hlt : k < s.size
  · obtain ⟨h1, h2, h3⟩ := hc hlt
    rw [bl_drop s hlt]
    unfold Lx.skip
    rw [if_neg (by rintro (e | e); exact h1 e; exact h2 e), if_neg h3, ← bl_drop s hlt, List.length_drop, bl_len]
    omega
  · rw [bl_end s (Nat.le_of_not_lt hlt)]
    simp [Lx.skip]
    omega
theorem blk_remark {s : ByteArray} {i k : Nat} (h : BlkR s i k) (hk : k < s.size) (hc : s[k] = 35) :
    ∃ n : Nat, k + n ≤ s.size ∧ 1 ≤ n ∧ BlkR s i (k + n) ∧ (Lib.indexByte ((bl s).drop k) 10 < 0 → n = s.size - k) ∧ (0 ≤ Lib.indexByte ((bl s).drop k) 10 → Lib.indexByte ((bl s).drop k) 10 = n) := by
  have hge := Lib.indexByte_ge ((bl s).drop (k + 1)) 10
  have hr := skip_remark ((bl s).drop (k + 1))
  have hb : (s[k] == (10 : UInt8)) = false := by rw [hc]; rfl
  have e0 : Lx.skip false ((bl s).drop k) = Lx.skip true ((bl s).drop (k + 1)) := by
    rw [bl_drop s hk]
    conv => lhs; unfold Lx.skip
    rw [if_neg (by rw [hc]; decide), if_pos hc]
  have ei : Lib.indexByte ((bl s).drop k) 10 = if Lib.indexByte ((bl s).drop (k + 1)) 10 == -1 then -1 else Lib.indexByte ((bl s).drop (k + 1)) 10 + 1 := by
    rw [bl_drop s hk]
    conv => lhs; unfold Lib.indexByte
    rw [hb]; rfl
  rw [List.drop_drop, List.length_drop, bl_len] at hr
  unfold BlkR at *
  by_cases h1 : Lib.indexByte ((bl s).drop (k + 1)) 10 = -1
  · rw [h1] at ei hr
    refine ⟨s.size - k, by omega, by omega, ?_, fun _ => rfl, fun h2 => by rw [ei] at h2; exact absurd h2 (by decide)⟩
    rw [← h, e0, hr, if_pos (by omega)]
    congr 2
    omega
  · have hb2 : (Lib.indexByte ((bl s).drop (k + 1)) 10 == -1) = false := by simp [h1]
    rw [hb2] at ei
    rw [if_neg (by omega)] at hr
    have hlt : (Lib.indexByte ((bl s).drop (k + 1)) 10).toNat < s.size - (k + 1) := by
      have h3 := (Lib.indexByte_some (l := (bl s).drop (k + 1)) (c := 10) (o := (Lib.indexByte ((bl s).drop (k + 1)) 10).toNat) (by omega)).1
      have := (List.getElem?_eq_some_iff.1 h3).1
      rw [List.length_drop, bl_len] at this
      exact this
    have ei2 : Lib.indexByte ((bl s).drop k) 10 = Lib.indexByte ((bl s).drop (k + 1)) 10 + 1 := ei
    refine ⟨(Lib.indexByte ((bl s).drop (k + 1)) 10).toNat + 1, by omega, by omega, ?_, fun h2 => by omega, fun _ => by omega⟩
    rw [← h, e0, hr]
    congr 2
    omega
end Go.Proofs.YtmgjmagniefhoaaGreatDoor

/- Quiet calls behind draws. Condition: none (no program is named here). -/
namespace Go.Proofs.YtmgjmagniefhoaaGreatDoor
theorem q_add_same {P : Program} {f : FuncId} {args : Array Value} {w : World} {a n : Nat} {v : Value} (h : Calls P f args (w.drewN (a + n)) fun e w' => e = .returned v ∧ w' = w.drewN (a + n)) :
    Calls P f args (w.drewN (a + n)) fun e w'' => e = .returned v ∧ ∃ m, w'' = w.drewN (a + m) := h.mono fun _ _ ⟨he, hm⟩ => ⟨he, n, hm⟩
theorem q_add_left {P : Program} {f : FuncId} {args : Array Value} {w : World} {a n : Nat} {v : Value} (h : Calls P f args (w.drewN (a + n)) fun e w' => e = .returned v ∧ w.drewN (a + n) = w') :
    Calls P f args (w.drewN (a + n)) fun e w'' => e = .returned v ∧ ∃ m, w'' = w.drewN (a + m) := h.mono fun _ _ ⟨he, hm⟩ => ⟨he, n, hm.symm⟩
theorem q_left {P : Program} {f : FuncId} {args : Array Value} {w : World} {n : Nat} {v : Value} (h : Calls P f args (w.drewN n) fun e w' => e = .returned v ∧ w.drewN n = w') :
    Calls P f args (w.drewN n) fun e w'' => e = .returned v ∧ ∃ m, w'' = w.drewN m := h.mono fun _ _ ⟨he, hm⟩ => ⟨he, n, hm.symm⟩
open Go.RowKit in
theorem bdrewN {B : Nat} {a w : World} (h : Below B a w) (n : Nat) : Below B a (w.drewN n) := ⟨h.os, h.tape, h.output, h.size, h.block⟩
end Go.Proofs.YtmgjmagniefhoaaGreatDoor

/- Lex: the cursor's blanks. Conditions: those that each theorem names. -/
namespace Go.Proofs.YtmgjmagniefhoaaGreatDoor
open Go.RowKit Go.Maps

theorem dr_below (B : Nat) (w : World) (n : Nat) : Below B w (w.drewN n) := ⟨rfl, rfl, rfl, Nat.le_refl _, fun _ _ => rfl⟩
theorem dr_two (w : World) (a b : Nat) : (w.drewN a).drewN b = w.drewN (a + b) := by simp [World.drewN, Nat.add_assoc]
theorem byte_ne {a : UInt8} {n : Nat} (h : a ≠ n.toUInt8) : (((a.toNat : Nat) : Int) == (n : Int)) = false := by
  rw [beq_eq_false_iff_ne]
  intro e
  apply h
  have : a.toNat = n := by omega
  rw [← this]
  simp
theorem byte_eq {a : UInt8} {n : Nat} (hn : n < 256) (h : a = n.toUInt8) : (((a.toNat : Nat) : Int) == (n : Int)) = true := by
  subst h
  rw [beq_iff_eq]
  have : n.toUInt8.toNat = n := by
    show n % 256 = n
    omega
  omega
def placeAt (w : World) (cb : Nat) : Nat := (intOf ((w.cell? ⟨cb, 1, none⟩).getD undef)).toNat
theorem Cur.place {w : World} {cb : Nat} {s : ByteArray} {k : Nat} (h : Cur w cb s k) : placeAt w cb = k := by
  unfold placeAt
  rw [h.cell 1]
  simp [intOf]

set_option maxHeartbeats 4000000 in
set_option maxRecDepth 100000 in
theorem lex_blanks {w : World} {cb : Nat} {s : ByteArray} {i : Nat} (h : Cur w cb s i) (hs : s.size ≤ 1000000000) (hi : i ≤ s.size) :
    Calls Tryz.prog 59 #[.pointer (some ⟨cb, 0, none⟩)] w fun e w' => e = .returned (.tuple #[]) ∧ Cur w' cb s (skipTo s i) ∧ Kp (fun q => q = cb) w w' := by
  have H0 := hid_ h
  clear h
  go_enter Tryz.func59, Tryz.ntmps59
  go_wp2
  go_loopw [] (fun wr => ∃ k : Nat, Cur wr cb s k ∧ i ≤ k ∧ k ≤ s.size ∧ BlkR s i k ∧ Kp (fun q => q = cb) w wr) (fun wr => s.size - placeAt wr cb)
  case atStart => exact ⟨i, H0.out, Nat.le_refl _, hi, rfl, Kp.refl _ _⟩
  case round =>
    obtain ⟨k, hc, hik, hk, hR, hkp⟩ := hrel
    have HC := hid_ hc
    have HR := hid_ hR
    have HK := hid_ hkp
    have HP := hid_ hc.place
    have c0 : wr.cell? ⟨cb, 0, none⟩ = some (.string s) := hc.cell 0
    have c1 : wr.cell? ⟨cb, 1, none⟩ = some (.int .i64 k) := hc.cell 1
    have f1 := hc.frozen 1
    clear hc hR hkp H0
    have b0 : (0 : Int) ≤ (k : Int) := by omega
    by_cases hlt : k < s.size
    · have b1 : (k : Int) < (s.size : Int) := by omega
      have hcs : (s[k] = 32) ∨ (s[k] ≠ 32 ∧ s[k] = 10) ∨ (s[k] ≠ 32 ∧ s[k] ≠ 10 ∧ s[k] = 35) ∨ (s[k] ≠ 32 ∧ s[k] ≠ 10 ∧ s[k] ≠ 35) := by
        by_cases h1 : s[k] = 32
        · exact .inl h1
        · by_cases h2 : s[k] = 10
          · exact .inr (.inl ⟨h1, h2⟩)
          · by_cases h3 : s[k] = 35
            · exact .inr (.inr (.inl ⟨h1, h2, h3⟩))
            · exact .inr (.inr (.inr ⟨h1, h2, h3⟩))
      have HB1 := hid_ (fun hc => blk_blank (i := i) HR.out hlt hc)
      have HB2 := hid_ (fun hc => blk_remark (i := i) HR.out hlt hc)
      have HB3 := hid_ (fun (hc : s[k] ≠ 32 ∧ s[k] ≠ 10 ∧ s[k] ≠ 35) => blk_stop (i := i) HR.out hk (fun _ => hc))
      have q5 : IntKind.i64.wrap ((k : Int) + 1) = (k : Int) + 1 := IntWalk.i64_in _ (by omega)
      have HN := hid_ (fun (nq z : Nat) (zi : Int) (e : zi = z) => show Cur ((wr.drewN nq).setCell ⟨cb, 1, none⟩ (.int .i64 zi)) cb s z ∧ Kp (fun q => q = cb) w ((wr.drewN nq).setCell ⟨cb, 1, none⟩ (.int .i64 zi)) ∧ placeAt ((wr.drewN nq).setCell ⟨cb, 1, none⟩ (.int .i64 zi)) cb = z from by
        subst e
        have hc2 : Cur ((wr.drewN nq).setCell ⟨cb, 1, none⟩ (.int .i64 (z : Int))) cb s z := (HC.out.drewN nq).set_ 1 (.int .i64 (z : Int))
        exact ⟨hc2, (HK.out.drewN nq).setCell (p := ⟨cb, 1, none⟩) (.inl rfl) _, hc2.place⟩)
      rcases hcs with h32 | ⟨h32, h10⟩ | ⟨h32, h10, h35⟩ | ⟨h32, h10, h35⟩
      · have q1 : (((s[k].toNat : Nat) : Int) == 32) = true := byte_eq (n := 32) (by omega) h32
        have HS := hid_ (HB1.out (.inl h32))
        clear h32
        go_wp2
        go_quiet (fail)
        go_wp2
        go_quiet (fail)
        go_wp2
        go_roundw
        case rel => exact ⟨k + 1, (HN.out _ (k + 1) _ (by omega)).1, by omega, by omega, HS.out, (HN.out _ (k + 1) _ (by omega)).2.1⟩
        case measure => rw [HP.out, (HN.out _ (k + 1) ((k : Int) + 1) (by omega)).2.2]; omega
      · have q1 : (((s[k].toNat : Nat) : Int) == 32) = false := byte_ne (n := 32) h32
        have q2 : (((s[k].toNat : Nat) : Int) == 10) = true := byte_eq (n := 10) (by omega) h10
        have HS := hid_ (HB1.out (.inr h10))
        clear h32 h10
        go_wp2
        go_quiet (fail)
        go_wp2
        go_quiet (fail)
        go_wp2
        go_roundw
        case rel => exact ⟨k + 1, (HN.out _ (k + 1) _ (by omega)).1, by omega, by omega, HS.out, (HN.out _ (k + 1) _ (by omega)).2.1⟩
        case measure => rw [HP.out, (HN.out _ (k + 1) ((k : Int) + 1) (by omega)).2.2]; omega
      · have q1 : (((s[k].toNat : Nat) : Int) == 32) = false := byte_ne (n := 32) h32
        have q2 : (((s[k].toNat : Nat) : Int) == 10) = false := byte_ne (n := 10) h10
        have q3 : (((s[k].toNat : Nat) : Int) == 35) = true := byte_eq (n := 35) (by omega) h35
        obtain ⟨z, hz1, hz2, hz3, hz4, hz5⟩ := HB2.out h35
        have HZ := hid_ hz3
        have HI := hid_ (fun W => Tryz.strings_IndexByte (s.extract k s.size) 10 W)
        have hx : (s.extract k s.size).data.toList = (bl s).drop k := by
          have := congrArg bl (extract_st s k s.size)
          rw [bl_st] at this
          show bl (s.extract k s.size) = _
          rw [this, List.take_of_length_le (by rw [List.length_drop, bl_len]; exact Nat.le_refl _)]
        rw [hx, show ((10 : Int).toNat.toUInt8) = (10 : UInt8) from rfl] at HI
        have b6 : (k : Int) ≤ (s.size : Int) := by omega
        clear h32 h10 h35 hz3 hx
        by_cases hneg : Lib.indexByte ((bl s).drop k) 10 < 0
        · have hzz := hz4 hneg
          generalize Lib.indexByte ((bl s).drop k) 10 = ix at *
          subst hzz
          have q6 : IntKind.i64.wrap ((s.size : Int) - (k : Int)) = ((s.size - k : Nat) : Int) := by
            rw [IntWalk.i64_in _ (by omega)]; omega
          have q7 : IntKind.i64.wrap ((k : Int) + ((s.size - k : Nat) : Int)) = ((k + (s.size - k) : Nat) : Int) := by
            rw [IntWalk.i64_in _ (by omega)]; omega
          clear hz4 hz5
          go_wp2
          go_quiet (fail)
          go_wp2
          go_quiet (fail)
          go_wp2
          go_quiet ((go_at_call 90; first | exact Calls.quiet_of_same (HI.out _) | exact q_add_same (HI.out _)))
          go_wp2
          go_quiet (fail)
          go_wp2
          go_roundw
          case rel => exact ⟨k + (s.size - k), (HN.out _ _ _ (by omega)).1, by omega, by omega, HZ.out, (HN.out _ _ _ rfl).2.1⟩
          case measure => rw [HP.out, (HN.out _ (k + (s.size - k)) (s.size : Int) (by omega)).2.2]; omega
        · have hzz := hz5 (Int.not_lt.1 hneg)
          generalize Lib.indexByte ((bl s).drop k) 10 = ix at *
          subst hzz
          have q7 : IntKind.i64.wrap ((k : Int) + (z : Int)) = ((k + z : Nat) : Int) := by
            rw [IntWalk.i64_in _ (by omega)]; omega
          clear hz4 hz5
          go_wp2
          go_quiet (fail)
          go_wp2
          go_quiet (fail)
          go_wp2
          go_quiet ((go_at_call 90; first | exact Calls.quiet_of_same (HI.out _) | exact q_add_same (HI.out _)))
          go_wp2
          go_roundw
          case rel => exact ⟨k + z, (HN.out _ _ _ (by omega)).1, by omega, by omega, HZ.out, (HN.out _ _ _ rfl).2.1⟩
          case measure => rw [HP.out, (HN.out _ (k + z) ((k : Int) + (z : Int)) (by omega)).2.2]; omega
      · have q1 : (((s[k].toNat : Nat) : Int) == 32) = false := byte_ne (n := 32) h32
        have q2 : (((s[k].toNat : Nat) : Int) == 10) = false := byte_ne (n := 10) h10
        have q3 : (((s[k].toNat : Nat) : Int) == 35) = false := byte_ne (n := 35) h35
        have HT := hid_ (HB3.out ⟨h32, h10, h35⟩)
        clear h32 h10 h35
        go_wp2
        go_quiet (fail)
        go_wp2
        go_quiet (fail)
        go_wp2
        first | go_end0 | go_returns
        exact ⟨rfl, by rw [HT.out]; exact HC.out.drewN _, HK.out.drewN _⟩
    · have b1 : ¬ (k : Int) < (s.size : Int) := by omega
      have HT := hid_ (blk_stop HR.out hk (fun h => absurd h hlt))
      go_wp2
      go_quiet (fail)
      go_wp2
      go_end0
      exact ⟨rfl, by rw [HT.out]; exact HC.out.drewN _, HK.out.drewN _⟩
end Go.Proofs.YtmgjmagniefhoaaGreatDoor

/- Lex: the package's variables; IsKey. Conditions: those that each theorem names. -/
namespace Go.Proofs.YtmgjmagniefhoaaGreatDoor
open Go.RowKit Go.Maps

def strV (l : List (List UInt8)) : Array Value := (l.map fun k => Value.string (st k)).toArray
/-- What the package-level variables hold. -/
structure Env (w : World) : Prop where
  keys : w.var? Tryz.prog "armillary/lex.keys" = some (strV Lx.keysL)
  signs : w.var? Tryz.prog "armillary/lex.signs" = some (strV Lx.signsL)
  pow : Lib.TabIs Tryz.prog w "internal/strconv.uint64pow10" .u64 Lib.pow10Tab
  syn : ∃ tp p, w.var? Tryz.prog "strconv.ErrSyntax" = some #[.iface tp p]
  rng : ∃ tp p, w.var? Tryz.prog "strconv.ErrRange" = some #[.iface tp p]
theorem var_below {P : Program} {w w' : World} {n : String} {cs : Array Value} (hb : Below w.heap.size w w') (h : w.var? P n = some cs) : w'.var? P n = some cs := by
  unfold World.var? at *
  cases hg : P.globalNamed n with
  | none => rw [hg] at h; simp at h
  | some g =>
    rw [hg] at h
    simp only [Option.bind_some] at h ⊢
    have hlt : g < w.heap.size := by
      rcases Nat.lt_or_ge g w.heap.size with h1 | h1
      · exact h1
      · rw [Array.getElem?_eq_none h1] at h; simp at h
    rw [hb.block g hlt]
    exact h
theorem Env.below {w w' : World} (h : Env w) (hb : Below w.heap.size w w') : Env w' := by
  obtain ⟨t1, p1, h1⟩ := h.syn
  obtain ⟨t2, p2, h2⟩ := h.rng
  exact ⟨var_below hb h.keys, var_below hb h.signs, var_below hb h.pow, ⟨t1, p1, var_below hb h1⟩, ⟨t2, p2, var_below hb h2⟩⟩
theorem strV_at {l : List (List UInt8)} {i : Nat} (h : i < l.length) : (strV l)[i]? = some (.string (st (l.getD i []))) := by
  unfold strV
  simp [List.getD, h]
theorem Env.key {w : World} (h : Env w) {i : Nat} (hi : i < 18) : w.cell? ⟨1, i, none⟩ = some (.string (st (Lx.keysL.getD i []))) := by
  rw [World.var?_cell (P := Tryz.prog) (n := "armillary/lex.keys") (by kernel_rfl) h.keys i]
  exact strV_at hi
theorem Env.sign {w : World} (h : Env w) {i : Nat} (hi : i < 16) : w.cell? ⟨0, i, none⟩ = some (.string (st (Lx.signsL.getD i []))) := by
  rw [World.var?_cell (P := Tryz.prog) (n := "armillary/lex.signs") (by kernel_rfl) h.signs i]
  exact strV_at hi
theorem st_ne {a b : List UInt8} (h : a ≠ b) : st a ≠ st b := fun e => h (by rw [← bl_st a, e, bl_st])
theorem str_eq {a b : ByteArray} (h : a = b) : (a.toList == b.toList) = true := by subst h; simp
theorem str_ne {a b : ByteArray} (h : a ≠ b) : (a.toList == b.toList) = false := by
  rw [beq_eq_false_iff_ne, ByteArray.toList_eq, ByteArray.toList_eq]
  exact fun e => h (ByteArray.ext (Array.toList_inj.1 e))

set_option maxHeartbeats 1000000 in
set_option maxRecDepth 100000 in
theorem lex_IsKey {w : World} (h : Env w) (s : ByteArray) : Calls Tryz.prog 86 #[.string s] w fun e w' => e = .returned (.bool (Lx.isKey (bl s))) ∧ w = w' := by
  have HE := hid_ h
  clear h
  go_enter Tryz.func86, Tryz.ntmps86
  go_wp2_with fail
  go_loop [4] (fun v => ∃ k : Nat, v = .int .i64 k ∧ k ≤ 18 ∧ ∀ j, j < k → st (Lx.keysL.getD j []) ≠ s) (fun v => 18 - (intOf v).toNat)
  case atStart => exact ⟨0, rfl, by omega, fun _ h => by omega⟩
  case round =>
    obtain ⟨k, rfl, hk, hall⟩ := hrel
    have HA := hid_ hall
    clear hall
    by_cases hlt : k < 18
    · have x0 := HE.out.key hlt
      have hm := hid_ (show Lx.keysL.getD k [] ∈ Lx.keysL by
        have hkx : k < Lx.keysL.length := hlt
        simp [List.getD, hkx])
      have b0 : (0 : Int) ≤ (k : Int) := by omega
      have b1 : (k : Int) < 18 := by omega
      generalize hxk : Lx.keysL.getD k [] = x at *
      have HX := hid_ hxk
      clear hxk
      by_cases he : st x = s
      · have q1 := str_eq he
        have HR := hid_ (show Lx.isKey (bl s) = true from List.any_eq_true.2 ⟨x, hm.out, decide_eq_true (by rw [← he, bl_st])⟩)
        clear he
        go_wp2
        go_ret
        exact ⟨by rw [HR.out]; rfl, rfl⟩
      · have q1 := str_ne he
        have HN := hid_ he
        clear he
        go_wp2
        go_round
        case rel => exact ⟨k + 1, by go_num, by omega, fun j hj => by
          by_cases e : j = k
          · subst e; rw [HX.out]; exact HN.out
          · exact HA.out j (by omega)⟩
        case measure => simp [intOf]; omega
    · have b1 : ¬ (k : Int) < 18 := by omega
      have HR := hid_ (show Lx.isKey (bl s) = false from by
        unfold Lx.isKey
        rw [List.any_eq_false]
        intro x hx
        obtain ⟨j, hj, rfl⟩ := List.mem_iff_getElem.1 hx
        have h1 := HA.out j (by have : Lx.keysL.length = 18 := rfl; omega)
        simp only [List.getD, List.getElem?_eq_getElem hj, Option.getD_some] at h1
        simp only [decide_eq_true_eq]
        intro e
        exact h1 (by rw [e, st_bl]))
      go_wp2
      go_ret
      exact ⟨by rw [HR.out]; rfl, rfl⟩
end Go.Proofs.YtmgjmagniefhoaaGreatDoor

/- Lex: what a text is formed of. Conditions: those that each theorem names. -/
namespace Go.Proofs.YtmgjmagniefhoaaGreatDoor
open Go.RowKit Go.Maps

abbrev FnV (n : Nat) : Value := .func (.func n) #[] #[]
/-- Function n tells p of a byte. -/
structure IsP (n : Nat) (p : UInt8 → Bool) : Prop where
  call : ∀ (c : UInt8) (W : World), Calls Tryz.prog n #[.int .u8 (c.toNat : Int)] W fun e w' => e = .returned (.bool (p c)) ∧ W = w'
  enter : ∀ (args : Array Value) (W : World), (callFunc n args).run Tryz.prog W = .ok (.enter n args) W
abbrev CloV (sb ib : Nat) : Value := .func (.func 139) #[] #[.pointer (some ⟨sb, 0, none⟩), .pointer (some ⟨ib, 0, none⟩)]
section
variable {w : World} {n sb ib ob i : Nat} {p p0 p1 p2 : UInt8 → Bool} {n0 n1 n2 : Nat} {s : ByteArray}
set_option maxRecDepth 100000 in
theorem clo_c (hp : IsP n p) (hs : w.cell? ⟨sb, 0, none⟩ = some (.string s)) (hi : w.cell? ⟨ib, 0, none⟩ = some (.int .i64 i)) (h : i < s.size) :
    Calls Tryz.prog 139 #[FnV n, .pointer (some ⟨sb, 0, none⟩), .pointer (some ⟨ib, 0, none⟩)] w fun e w' => e = .returned (.bool (p s[i])) ∧ w = w' := by
  have HP := hid_ (hp.call s[i] w)
  have hen := hp.enter #[.int .u8 ((s[i].toNat : Nat) : Int)] w
  have b0 : (0 : Int) ≤ (i : Int) := by omega
  have b1 : (i : Int) < (s.size : Int) := by omega
  clear hp
  generalize p s[i] = b at *
  go_enter Tryz.func139, Tryz.ntmps139
  go_wp2_with fail
  refine HP.out.mono ?_
  rintro e w' ⟨rfl, rfl⟩
  go_wp2
  go_ret
  exact ⟨rfl, rfl⟩

set_option maxHeartbeats 1000000 in
set_option maxRecDepth 100000 in
theorem contains_c (h0 : IsP n0 p0) (h1 : IsP n1 p1) (h2 : IsP n2 p2) (c0 : w.cell? ⟨ob, 0, none⟩ = some (FnV n0)) (c1 : w.cell? ⟨ob, 1, none⟩ = some (FnV n1)) (c2 : w.cell? ⟨ob, 2, none⟩ = some (FnV n2))
    (hs : w.cell? ⟨sb, 0, none⟩ = some (.string s)) (hi : w.cell? ⟨ib, 0, none⟩ = some (.int .i64 i)) (h : i < s.size) :
    Calls Tryz.prog 138 #[.slice (some ⟨ob, 0, none⟩) 3 3, CloV sb ib] w fun e w' => e = .returned (.bool (p0 s[i] || p1 s[i] || p2 s[i])) ∧ w = w' := by
  have H0 := hid_ (clo_c h0 hs hi h)
  have H1 := hid_ (clo_c h1 hs hi h)
  have H2 := hid_ (clo_c h2 hs hi h)
  clear h0 h1 h2 hs hi
  generalize p0 s[i] = a0 at *
  generalize p1 s[i] = a1 at *
  generalize p2 s[i] = a2 at *
  have HI : Calls Tryz.prog 154 #[.slice (some ⟨ob, 0, none⟩) 3 3, CloV sb ib] w fun e w' => (∃ z : Int, e = .returned (.int .i64 z) ∧ decide (0 ≤ z) = (a0 || a1 || a2)) ∧ w = w' := by
    go_enter Tryz.func154, Tryz.ntmps154
    go_wp2_with fail
    go_loop [8] (fun v => ∃ k : Nat, v = .int .i64 k ∧ k ≤ 3 ∧ (0 < k → a0 = false) ∧ (1 < k → a1 = false) ∧ (2 < k → a2 = false)) (fun v => 3 - (intOf v).toNat)
    case atStart => exact ⟨0, rfl, by omega, fun h => by omega, fun h => by omega, fun h => by omega⟩
    case round =>
      obtain ⟨k, rfl, hk, e0, e1, e2⟩ := hrel
      have HE := hid_ (And.intro e0 (And.intro e1 e2))
      clear e0 e1 e2
      have hcs : k = 0 ∨ k = 1 ∨ k = 2 ∨ k = 3 := by omega
      rcases hcs with rfl | rfl | rfl | rfl
      · cases a0 with
        | true =>
          go_wp2_with fail
          refine H0.out.mono ?_
          rintro e w' ⟨rfl, rfl⟩
          go_wp2
          go_ret
          exact ⟨⟨0, rfl, rfl⟩, rfl⟩
        | false =>
          go_wp2_with fail
          refine H0.out.mono ?_
          rintro e w' ⟨rfl, rfl⟩
          go_wp2
          go_round
          case rel => exact ⟨1, by go_num, by omega, fun _ => by trivial, fun h => by omega, fun h => by omega⟩
          case measure => simp [intOf]
      · cases a1 with
        | true =>
          go_wp2_with fail
          refine H1.out.mono ?_
          rintro e w' ⟨rfl, rfl⟩
          go_wp2
          go_ret
          exact ⟨⟨1, rfl, by cases a0 <;> rfl⟩, rfl⟩
        | false =>
          go_wp2_with fail
          refine H1.out.mono ?_
          rintro e w' ⟨rfl, rfl⟩
          go_wp2
          go_round
          case rel => exact ⟨2, by go_num, by omega, fun _ => HE.out.1 (by omega), fun _ => by trivial, fun h => by omega⟩
          case measure => simp [intOf]
      · cases a2 with
        | true =>
          go_wp2_with fail
          refine H2.out.mono ?_
          rintro e w' ⟨rfl, rfl⟩
          go_wp2
          go_ret
          exact ⟨⟨2, rfl, by cases a0 <;> cases a1 <;> rfl⟩, rfl⟩
        | false =>
          go_wp2_with fail
          refine H2.out.mono ?_
          rintro e w' ⟨rfl, rfl⟩
          go_wp2
          go_round
          case rel => exact ⟨3, by go_num, by omega, fun _ => HE.out.1 (by omega), fun _ => HE.out.2.1 (by omega), fun _ => by trivial⟩
          case measure => simp [intOf]
      · have z0 := HE.out.1 (by omega)
        have z1 := HE.out.2.1 (by omega)
        have z2 := HE.out.2.2 (by omega)
        subst z0 z1 z2
        go_wp2
        go_ret
        exact ⟨⟨-1, rfl, by trivial⟩, rfl⟩
  have HX := hid_ HI
  clear HI H0 H1 H2
  generalize (a0 || a1 || a2) = b at *
  go_enter Tryz.func138, Tryz.ntmps138
  go_wp2_with fail
  refine HX.out.mono ?_
  rintro e w' ⟨⟨z, rfl, hz⟩, rfl⟩
  have HZ := hid_ hz
  clear hz
  go_wp2
  go_ret
  exact ⟨by rw [← HZ.out]; rfl, rfl⟩

set_option maxHeartbeats 2000000 in
set_option maxRecDepth 100000 in
theorem formed_c {nf : Nat} {pf : UInt8 → Bool} (hf : IsP nf pf) (h0 : IsP n0 p0) (h1 : IsP n1 p1) (h2 : IsP n2 p2) (c0 : w.cell? ⟨ob, 0, none⟩ = some (FnV n0)) (c1 : w.cell? ⟨ob, 1, none⟩ = some (FnV n1)) (c2 : w.cell? ⟨ob, 2, none⟩ = some (FnV n2)) (hsz : s.size ≤ 1000000000) :
    Calls Tryz.prog 108 #[.string s, FnV nf, .slice (some ⟨ob, 0, none⟩) 3 3] w fun e w' => e = .returned (.bool (Lx.formed (bl s) pf fun c => p0 c || p1 c || p2 c)) ∧ Below w.heap.size w w' := by
  have HF := hid_ hf
  have H012 := hid_ (And.intro h0 (And.intro h1 h2))
  have HC := hid_ (And.intro c0 (And.intro c1 c2))
  clear hf h0 h1 h2 c0 c1 c2
  by_cases hz : s.size = 0
  · have he : s.toList.isEmpty = true := by
      rw [ByteArray.toList_eq]
      have : s.data.toList = [] := List.eq_nil_of_length_eq_zero ((bl_len s).trans hz)
      rw [this]; rfl
    have hR := hid_ (show (Lx.formed (bl s) pf fun c => p0 c || p1 c || p2 c) = false from by
      have : bl s = [] := List.eq_nil_of_length_eq_zero (by have := bl_len s; omega)
      rw [this]; rfl)
    go_enter Tryz.func108, Tryz.ntmps108
    go_wp2
    go_ret
    exact ⟨by rw [hR.out]; rfl, (Below.refl _ _).alloc (Nat.le_refl _) _⟩
  · have h0' : 0 < s.size := by omega
    have he : s.toList.isEmpty = false := by
      rw [ByteArray.toList_eq]
      have := bl_drop s h0'
      rw [List.drop_zero] at this
      show (bl s).isEmpty = false
      rw [this]; rfl
    have HD := hid_ (show (Lx.formed (bl s) pf fun c => p0 c || p1 c || p2 c) = (decide (s.size ≤ 16) && pf s[0] && (bl s).all fun c => p0 c || p1 c || p2 c) from by
      have h3 := bl_drop s h0'
      rw [List.drop_zero] at h3
      unfold Lx.formed
      rw [h3]
      simp only
      rw [← h3, bl_len])
    by_cases hlong : 16 < (s.size : Int)
    · have hR := hid_ (show (Lx.formed (bl s) pf fun c => p0 c || p1 c || p2 c) = false from by
        rw [HD.out, decide_eq_false (by omega)]; rfl)
      go_enter Tryz.func108, Tryz.ntmps108
      go_wp2
      go_ret
      exact ⟨by rw [hR.out]; rfl, (Below.refl _ _).alloc (Nat.le_refl _) _⟩
    · have hb0 : (0 : Int) < (s.size : Int) := by omega
      have HP0 := hid_ (fun W => HF.out.call s[0] W)
      have hen := HF.out.enter #[.int .u8 ((s[0].toNat : Nat) : Int)] (w.alloc (.cells #[.string s] 9))
      have HD2 := hid_ (show (Lx.formed (bl s) pf fun c => p0 c || p1 c || p2 c) = (pf s[0] && (bl s).all fun c => p0 c || p1 c || p2 c) from by
        rw [HD.out, decide_eq_true (by omega)]; rfl)
      generalize hpf : pf s[0] = b0 at *
      cases b0 with
      | false =>
        go_enter Tryz.func108, Tryz.ntmps108
        go_wp2_with fail
        refine (HP0.out _).mono ?_
        rintro e w' ⟨rfl, rfl⟩
        go_wp2
        go_ret
        exact ⟨by rw [HD2.out]; rfl, (Below.refl _ _).alloc (Nat.le_refl _) _⟩
      | true =>
        clear hpf
        go_enter Tryz.func108, Tryz.ntmps108
        go_wp2_with fail
        refine (HP0.out _).mono ?_
        rintro e w' ⟨rfl, rfl⟩
        have HB1 := hid_ ((Below.refl w.heap.size w).alloc (Nat.le_refl _) (.cells #[.string s] 9))
        have HSb := hid_ (show (w.alloc (.cells #[.string s] 9)).cell? ⟨w.heap.size, 0, none⟩ = some (.string s) from by rw [World.cell?_alloc_at _ _ _ _ rfl]; rfl)
        have hlt1 : w.heap.size < (w.alloc (.cells #[.string s] 9)).heap.size := by simp
        have HL1 := hid_ hlt1
        clear hlt1
        generalize w.alloc (.cells #[.string s] 9) = w1 at *
        generalize hsb : w.heap.size = sb at *
        have xs0 := HSb.out
        have Hsb := hid_ hsb
        clear hsb
        go_wp2_with fail
        go_loopw [24] (fun v wr => ∃ k : Nat, v = .int .i64 k ∧ k ≤ s.size ∧ Below w1.heap.size w1 wr ∧ ∀ j (hj : j < s.size), j < k → (p0 s[j] || p1 s[j] || p2 s[j]) = true) (fun v _ => s.size - (intOf v).toNat)
        case atStart => exact ⟨0, rfl, by omega, Below.refl _ _, fun _ _ h => by omega⟩
        case round =>
          obtain ⟨k, rfl, hk, hb, hall⟩ := hrel
          have HB := hid_ hb
          have HA := hid_ hall
          have xs1 := below_cell hb HSb.out
          clear hb hall
          by_cases hlt : k < s.size
          · have b1 : (k : Int) < (s.size : Int) := by omega
            have b2 : (0 : Int) ≤ (k : Int) := by omega
            have HW := hid_ ((HB1.out.trans (HB.out.mono (by have := HL1.out; omega))))
            have hw2 : Below wr.heap.size wr (wr.alloc (.cells #[.int .i64 k] 3)) := (Below.refl _ _).alloc (Nat.le_refl _) _
            have HC2 := hid_ (contains_c (i := k) H012.out.1 H012.out.2.1 H012.out.2.2 (below_cell hw2 (below_cell (Hsb.out ▸ HW.out) HC.out.1)) (below_cell hw2 (below_cell (Hsb.out ▸ HW.out) HC.out.2.1)) (below_cell hw2 (below_cell (Hsb.out ▸ HW.out) HC.out.2.2)) (below_cell hw2 (below_cell HB.out HSb.out)) (show (wr.alloc (.cells #[.int .i64 k] 3)).cell? ⟨wr.heap.size, 0, none⟩ = some (.int .i64 k) from by rw [World.cell?_alloc_at _ _ _ _ rfl]; rfl) hlt)
            have HB2 := hid_ (HB.out.alloc HB.out.size (.cells #[.int .i64 k] 3))
            have HT := hid_ (show (p0 s[k] || p1 s[k] || p2 s[k]) = false → ((bl s).all fun c => p0 c || p1 c || p2 c) = false from fun h => by
              rw [List.all_eq_false]
              refine ⟨s[k], List.getElem_mem (by rw [bl_len]; exact hlt), ?_⟩
              rw [h]; simp)
            have HA2 := hid_ (show (p0 s[k] || p1 s[k] || p2 s[k]) = true → ∀ j (hj : j < s.size), j < k + 1 → (p0 s[j] || p1 s[j] || p2 s[j]) = true from fun h j hj hjk => by
              by_cases e : j = k
              · subst e; exact h
              · exact HA.out j hj (by omega))
            generalize (p0 s[k] || p1 s[k] || p2 s[k]) = b at *
            cases b with
            | true =>
              go_wp2_with fail
              refine HC2.out.mono ?_
              rintro e w' ⟨rfl, rfl⟩
              go_wp2
              go_roundw
              case rel => exact ⟨k + 1, by go_num, by omega, HB2.out, HA2.out (by trivial)⟩
              case measure => simp [intOf]; omega
            | false =>
              go_wp2_with fail
              refine HC2.out.mono ?_
              rintro e w' ⟨rfl, rfl⟩
              go_wp2
              go_ret
              exact ⟨by rw [HD2.out, HT.out (by trivial)]; rfl, by rw [Hsb.out]; exact HB1.out.trans (HB2.out.mono (by have := HL1.out; omega))⟩
          · have b1 : ¬ (k : Int) < (s.size : Int) := by omega
            have HT := hid_ (show ((bl s).all fun c => p0 c || p1 c || p2 c) = true from by
              rw [List.all_eq_true]
              intro x hx
              obtain ⟨j, hj, rfl⟩ := List.mem_iff_getElem.1 hx
              rw [bl_len] at hj
              exact HA.out j hj (by omega))
            go_wp2
            go_ret
            exact ⟨by rw [HD2.out, HT.out]; rfl, by rw [Hsb.out]; exact HB1.out.trans (HB.out.mono (by have := HL1.out; omega))⟩
end
theorem isP_small : IsP 109 Lx.small := ⟨lex_small, fun _ _ => by kernel_rfl⟩
theorem isP_great : IsP 112 Lx.great := ⟨lex_great, fun _ _ => by kernel_rfl⟩
theorem isP_digit : IsP 110 Lx.digit := ⟨lex_digit, fun _ _ => by kernel_rfl⟩
theorem isP_score : IsP 111 Lx.score := ⟨lex_score, fun _ _ => by kernel_rfl⟩

set_option maxHeartbeats 1000000 in
set_option maxRecDepth 100000 in
theorem lex_tagged (w : World) (s : ByteArray) (hsz : s.size ≤ 1000000000) : Calls Tryz.prog 85 #[.string s] w fun e w' => e = .returned (.bool (Lx.tagged (bl s))) ∧ Below w.heap.size w w' := by
  have hB := Blk.new w 121 #[FnV 109, FnV 110, FnV 111]
  have HC := hid_ (formed_c (s := s) isP_small isP_small isP_digit isP_score (hB.cell 0) (hB.cell 1) (hB.cell 2) hsz)
  have HB := hid_ ((Below.refl w.heap.size w).alloc (Nat.le_refl _) (.cells #[FnV 109, FnV 110, FnV 111] 121))
  have e1 : (Lx.formed (bl s) Lx.small fun c => Lx.small c || Lx.digit c || Lx.score c) = Lx.tagged (bl s) := rfl
  rw [e1] at HC
  clear e1 hB
  generalize Lx.tagged (bl s) = b at *
  go_enter Tryz.func85, Tryz.ntmps85
  go_wp2_with fail
  refine HC.out.mono ?_
  rintro e w' ⟨rfl, hb⟩
  have HX := hid_ (HB.out.trans (hb.mono HB.out.size))
  clear hb HC
  go_wp2
  go_ret
  exact ⟨rfl, HX.out⟩
set_option maxHeartbeats 1000000 in
set_option maxRecDepth 100000 in
theorem lex_IsType (w : World) (s : ByteArray) (hsz : s.size ≤ 1000000000) : Calls Tryz.prog 88 #[.string s] w fun e w' => e = .returned (.bool (Lx.isType (bl s))) ∧ Below w.heap.size w w' := by
  have hB := Blk.new w 121 #[FnV 109, FnV 112, FnV 110]
  have HC := hid_ (formed_c (s := s) isP_great isP_small isP_great isP_digit (hB.cell 0) (hB.cell 1) (hB.cell 2) hsz)
  have HB := hid_ ((Below.refl w.heap.size w).alloc (Nat.le_refl _) (.cells #[FnV 109, FnV 112, FnV 110] 121))
  have e1 : (Lx.formed (bl s) Lx.great fun c => Lx.small c || Lx.great c || Lx.digit c) = Lx.isType (bl s) := rfl
  rw [e1] at HC
  clear e1 hB
  generalize Lx.isType (bl s) = b at *
  go_enter Tryz.func88, Tryz.ntmps88
  go_wp2_with fail
  refine HC.out.mono ?_
  rintro e w' ⟨rfl, hb⟩
  have HX := hid_ (HB.out.trans (hb.mono HB.out.size))
  clear hb HC
  go_wp2
  go_ret
  exact ⟨rfl, HX.out⟩
set_option maxHeartbeats 1000000 in
set_option maxRecDepth 100000 in
theorem lex_IsName {w : World} (h : Env w) (s : ByteArray) (hsz : s.size ≤ 1000000000) : Calls Tryz.prog 87 #[.string s] w fun e w' => e = .returned (.bool (Lx.isName (bl s))) ∧ Below w.heap.size w w' := by
  have HT := hid_ (lex_tagged w s hsz)
  have HK := hid_ (fun W (hb : Below w.heap.size w W) => lex_IsKey (h.below hb) s)
  have e1 : Lx.isName (bl s) = (Lx.tagged (bl s) && !Lx.isKey (bl s)) := rfl
  rw [e1]
  clear e1 h
  generalize Lx.tagged (bl s) = a at *
  generalize Lx.isKey (bl s) = b at *
  cases a with
  | false =>
    go_enter Tryz.func87, Tryz.ntmps87
    go_wp2_with fail
    refine HT.out.mono ?_
    rintro e w' ⟨rfl, hb⟩
    have HX := hid_ hb
    clear hb
    go_wp2
    go_ret
    exact ⟨rfl, HX.out⟩
  | true =>
    go_enter Tryz.func87, Tryz.ntmps87
    go_wp2_with fail
    refine HT.out.mono ?_
    rintro e w1 ⟨rfl, hb⟩
    have HX := hid_ hb
    clear hb
    go_wp2_with fail
    refine (HK.out _ HX.out).mono ?_
    rintro e w' ⟨rfl, rfl⟩
    go_wp2
    go_ret
    exact ⟨rfl, HX.out⟩
end Go.Proofs.YtmgjmagniefhoaaGreatDoor

/- Lex: number, tag. Conditions: those that each theorem names. -/
namespace Go.Proofs.YtmgjmagniefhoaaGreatDoor
open Go.RowKit Go.Maps

theorem below_grow (w : World) (k : Nat) (os : Array Obj) : Below w.heap.size w (Sort.grow (w.drewN k) os) :=
  ⟨rfl, rfl, rfl, by simp [Sort.grow, World.drewN], fun b hb => by
    show (w.heap ++ os)[b]? = w.heap[b]?
    exact Array.getElem?_append_left hb⟩
theorem lex_atoi {w : World} (h : Env w) (s : ByteArray) (hs : s.size ≤ 1000000000) : Calls Tryz.prog 113 #[.string s] w fun e w' => ∃ (n : Int) (er : Value), e = .returned (.tuple #[.int .i64 n, er]) ∧ ((Lib.atoiAll (bl s) = .ok n ∧ er = .nilIface) ∨ ((∀ v, Lib.atoiAll (bl s) ≠ .ok v) ∧ ∃ t p, er = .iface t p)) ∧ Below w.heap.size w w' := by
  cases ha : Lib.atoiAll (bl s) with
  | ok v =>
    refine (Tryz.strconv_Atoi_ok s (by omega) v ha w).mono fun e w' ⟨he, hw⟩ => ⟨v, .nilIface, he, .inl ⟨rfl, rfl⟩, ?_⟩
    rcases hw with rfl | ⟨t, rfl⟩
    · exact Below.refl _ _
    · exact Joins.below_bytesWorld _ _ _ _ (Nat.le_refl _)
  | range =>
    obtain ⟨tp, p, hv⟩ := h.rng
    refine (Tryz.strconv_Atoi_range_var s (by omega) ha tp p w hv).mono fun e w' ⟨N, he, _, _, hb⟩ => ⟨_, _, he, .inr ⟨fun v hv => (by cases hv), _, _, rfl⟩, hb⟩
  | _ =>
    obtain ⟨tp, p, hv⟩ := h.syn
    refine (Tryz.strconv_Atoi_syntax_var s (by omega) ha tp p w hv).mono fun e w' ⟨N, he, _, _, hb⟩ => ⟨_, _, he, .inr ⟨fun v hv => (by cases hv), _, _, rfl⟩, hb⟩
theorem lex_itoa {w : World} (h : Env w) (n : Int) (h0 : 0 ≤ n) (h1 : n ≤ 2147483647) : Calls Tryz.prog 114 #[.int .i64 n] w fun e w' => e = .returned (.string (st (Lib.itoa n))) ∧ Below w.heap.size w w' :=
  (Tryz.strconv_Itoa n (by omega) (by omega) w h.pow).mono fun e w' ⟨he, k, os, hw⟩ => ⟨he, by subst hw; exact below_grow _ _ _⟩

def NumP (s : ByteArray) (w : World) (e : Ending) (w' : World) : Prop := ∃ (n : Int) (b : Bool), e = .returned (.tuple #[.int .i64 n, .bool b]) ∧ b = decide (0 ≤ Lx.number (bl s)) ∧ (b = true → n = Lx.number (bl s)) ∧ Below w.heap.size w w'
set_option maxHeartbeats 2000000 in
set_option maxRecDepth 100000 in
theorem lex_number {w : World} (h : Env w) (s : ByteArray) (hs : s.size ≤ 1000000000) :
    Calls Tryz.prog 89 #[.string s] w (NumP s w) := by
  have HA := hid_ (lex_atoi h s hs)
  have HI := hid_ (fun W (hb : Below w.heap.size w W) => lex_itoa (h.below hb))
  clear h
  go_enter Tryz.func89, Tryz.ntmps89
  go_wp2_with fail
  refine HA.out.mono ?_
  rintro e w1 ⟨n, er, rfl, hc, hb⟩
  have HB := hid_ hb
  clear hb HA
  rcases hc with ⟨hok, rfl⟩ | ⟨hno, t, p, rfl⟩
  · by_cases h0 : 0 ≤ n
    · by_cases h1 : n ≤ 2147483647
      · have HI2 := hid_ (HI.out _ HB.out n h0 h1)
        by_cases he : st (Lib.itoa n) = s
        · have q := str_eq he
          have HN := hid_ (show Lx.number (bl s) = n from Lx.number_of h0 h1 (by rw [← he, bl_st]))
          have H0 := hid_ h0
          clear he hok
          go_wp2_with fail
          refine HI2.out.mono ?_
          rintro e w2 ⟨rfl, hb2⟩
          have HB2 := hid_ (HB.out.trans (hb2.mono HB.out.size))
          clear hb2 HI2
          go_wp2
          go_ret2
          exact ⟨n, true, rfl, by rw [HN.out]; exact (decide_eq_true H0.out).symm, fun _ => HN.out.symm, HB2.out⟩
        · have q := str_ne he
          have HN := hid_ (show decide (0 ≤ Lx.number (bl s)) = false from decide_eq_false (fun hp => by
            obtain ⟨a1, a2, a3⟩ := Lx.number_yes hp
            rw [hok] at a1
            injection a1 with a1
            rw [← a1] at a3
            exact he (by rw [a3, st_bl])))
          clear he hok
          go_wp2_with fail
          refine HI2.out.mono ?_
          rintro e w2 ⟨rfl, hb2⟩
          have HB2 := hid_ (HB.out.trans (hb2.mono HB.out.size))
          clear hb2 HI2
          go_wp2
          go_ret2
          exact ⟨n, false, rfl, by rw [HN.out], fun h => (by cases h), HB2.out⟩
      · have HN := hid_ (show decide (0 ≤ Lx.number (bl s)) = false from decide_eq_false (fun hp => by
          obtain ⟨a1, a2, a3⟩ := Lx.number_yes hp
          rw [hok] at a1
          injection a1 with a1
          omega))
        clear hok
        go_wp2
        go_ret2
        exact ⟨n, false, rfl, by rw [HN.out], fun h => (by cases h), HB.out⟩
    · have HN := hid_ (show decide (0 ≤ Lx.number (bl s)) = false from decide_eq_false (fun hp => by
        obtain ⟨a1, a2, a3⟩ := Lx.number_yes hp
        rw [hok] at a1
        injection a1 with a1
        omega))
      clear hok
      go_wp2
      go_ret2
      exact ⟨n, false, rfl, by rw [HN.out], fun h => (by cases h), HB.out⟩
  · have HN := hid_ (show decide (0 ≤ Lx.number (bl s)) = false from decide_eq_false (fun hp => hno _ (Lx.number_yes hp).1))
    clear hno
    go_wp2
    go_ret2
    exact ⟨n, false, rfl, by rw [HN.out], fun h => (by cases h), HB.out⟩
end Go.Proofs.YtmgjmagniefhoaaGreatDoor
