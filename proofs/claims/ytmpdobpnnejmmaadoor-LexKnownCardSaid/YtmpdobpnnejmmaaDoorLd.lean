/- Lex: the cursor's blanks. Conditions: those that each theorem names. -/
import Derived.Test.YtmpdobpnnejmmaaDoorLc
import Derived.Test.YtmpdobpnnejmmaaDoorMq
namespace Go.Proofs.YtmpdobpnnejmmaaDoor
open Go.RowKit Go.Maps

theorem dr_below (B : Nat) (w : World) (n : Nat) : Below B w (w.drewN n) := ⟨rfl, rfl, rfl, Nat.le_refl _, fun _ _ => rfl⟩
theorem dr_two (w : World) (a b : Nat) : (w.drewN a).drewN b = w.drewN (a + b) := by simp [World.drewN, Nat.add_assoc]
theorem byte_ne {a : UInt8} {n : Nat} (h : a ≠ n.toUInt8) : (((a.toNat : Nat) : Int) == (n : Int)) = false := by
  rw [beq_eq_false_iff_ne]
  intro e
  apply h
  have : a.toNat = n := by omega
  rw [← this]
  simp
theorem byte_eq {a : UInt8} {n : Nat} (hn : n < 256) (h : a = n.toUInt8) : (((a.toNat : Nat) : Int) == (n : Int)) = true := by
  subst h
  rw [beq_iff_eq]
  have : n.toUInt8.toNat = n := by
    show n % 256 = n
    omega
  omega
def placeAt (w : World) (cb : Nat) : Nat := (intOf ((w.cell? ⟨cb, 1, none⟩).getD undef)).toNat
theorem Cur.place {w : World} {cb : Nat} {s : ByteArray} {k : Nat} (h : Cur w cb s k) : placeAt w cb = k := by
  unfold placeAt
  rw [h.cell 1]
  simp [intOf]

set_option maxHeartbeats 4000000 in
set_option maxRecDepth 100000 in
theorem lex_blanks {w : World} {cb : Nat} {s : ByteArray} {i : Nat} (h : Cur w cb s i) (hs : s.size ≤ 1000000000) (hi : i ≤ s.size) :
    Calls Tryd.prog 28 #[.pointer (some ⟨cb, 0, none⟩)] w fun e w' => e = .returned (.tuple #[]) ∧ Cur w' cb s (skipTo s i) ∧ Kp (fun q => q = cb) w w' := by
  have H0 := hid_ h
  clear h
  go_enter Tryd.func28, Tryd.ntmps28
  go_wp2
  go_loopw [] (fun wr => ∃ k : Nat, Cur wr cb s k ∧ i ≤ k ∧ k ≤ s.size ∧ BlkR s i k ∧ Kp (fun q => q = cb) w wr) (fun wr => s.size - placeAt wr cb)
  case atStart => exact ⟨i, H0.out, Nat.le_refl _, hi, rfl, Kp.refl _ _⟩
  case round =>
    obtain ⟨k, hc, hik, hk, hR, hkp⟩ := hrel
    have HC := hid_ hc
    have HR := hid_ hR
    have HK := hid_ hkp
    have HP := hid_ hc.place
    have c0 : wr.cell? ⟨cb, 0, none⟩ = some (.string s) := hc.cell 0
    have c1 : wr.cell? ⟨cb, 1, none⟩ = some (.int .i64 k) := hc.cell 1
    have f1 := hc.frozen 1
    clear hc hR hkp H0
    have b0 : (0 : Int) ≤ (k : Int) := by omega
    by_cases hlt : k < s.size
    · have b1 : (k : Int) < (s.size : Int) := by omega
      have hcs : (s[k] = 32) ∨ (s[k] ≠ 32 ∧ s[k] = 10) ∨ (s[k] ≠ 32 ∧ s[k] ≠ 10 ∧ s[k] = 35) ∨ (s[k] ≠ 32 ∧ s[k] ≠ 10 ∧ s[k] ≠ 35) := by
        by_cases h1 : s[k] = 32
        · exact .inl h1
        · by_cases h2 : s[k] = 10
          · exact .inr (.inl ⟨h1, h2⟩)
          · by_cases h3 : s[k] = 35
            · exact .inr (.inr (.inl ⟨h1, h2, h3⟩))
            · exact .inr (.inr (.inr ⟨h1, h2, h3⟩))
      have HB1 := hid_ (fun hc => blk_blank (i := i) HR.out hlt hc)
      have HB2 := hid_ (fun hc => blk_remark (i := i) HR.out hlt hc)
      have HB3 := hid_ (fun (hc : s[k] ≠ 32 ∧ s[k] ≠ 10 ∧ s[k] ≠ 35) => blk_stop (i := i) HR.out hk (fun _ => hc))
      have q5 : IntKind.i64.wrap ((k : Int) + 1) = (k : Int) + 1 := IntWalk.i64_in _ (by omega)
      have HN := hid_ (fun (nq z : Nat) (zi : Int) (e : zi = z) => show Cur ((wr.drewN nq).setCell ⟨cb, 1, none⟩ (.int .i64 zi)) cb s z ∧ Kp (fun q => q = cb) w ((wr.drewN nq).setCell ⟨cb, 1, none⟩ (.int .i64 zi)) ∧ placeAt ((wr.drewN nq).setCell ⟨cb, 1, none⟩ (.int .i64 zi)) cb = z from by
        subst e
        have hc2 : Cur ((wr.drewN nq).setCell ⟨cb, 1, none⟩ (.int .i64 (z : Int))) cb s z := (HC.out.drewN nq).set_ 1 (.int .i64 (z : Int))
        exact ⟨hc2, (HK.out.drewN nq).setCell (p := ⟨cb, 1, none⟩) (.inl rfl) _, hc2.place⟩)
      rcases hcs with h32 | ⟨h32, h10⟩ | ⟨h32, h10, h35⟩ | ⟨h32, h10, h35⟩
      · have q1 : (((s[k].toNat : Nat) : Int) == 32) = true := byte_eq (n := 32) (by omega) h32
        have HS := hid_ (HB1.out (.inl h32))
        clear h32
        go_wp2
        go_quiet (fail)
        go_wp2
        go_quiet (fail)
        go_wp2
        go_roundw
        case rel => exact ⟨k + 1, (HN.out _ (k + 1) _ (by omega)).1, by omega, by omega, HS.out, (HN.out _ (k + 1) _ (by omega)).2.1⟩
        case measure => rw [HP.out, (HN.out _ (k + 1) ((k : Int) + 1) (by omega)).2.2]; omega
      · have q1 : (((s[k].toNat : Nat) : Int) == 32) = false := byte_ne (n := 32) h32
        have q2 : (((s[k].toNat : Nat) : Int) == 10) = true := byte_eq (n := 10) (by omega) h10
        have HS := hid_ (HB1.out (.inr h10))
        clear h32 h10
        go_wp2
        go_quiet (fail)
        go_wp2
        go_quiet (fail)
        go_wp2
        go_roundw
        case rel => exact ⟨k + 1, (HN.out _ (k + 1) _ (by omega)).1, by omega, by omega, HS.out, (HN.out _ (k + 1) _ (by omega)).2.1⟩
        case measure => rw [HP.out, (HN.out _ (k + 1) ((k : Int) + 1) (by omega)).2.2]; omega
      · have q1 : (((s[k].toNat : Nat) : Int) == 32) = false := byte_ne (n := 32) h32
        have q2 : (((s[k].toNat : Nat) : Int) == 10) = false := byte_ne (n := 10) h10
        have q3 : (((s[k].toNat : Nat) : Int) == 35) = true := byte_eq (n := 35) (by omega) h35
        obtain ⟨z, hz1, hz2, hz3, hz4, hz5⟩ := HB2.out h35
        have HZ := hid_ hz3
        have HI := hid_ (fun W => Tryd.strings_IndexByte (s.extract k s.size) 10 W)
        have hx : (s.extract k s.size).data.toList = (bl s).drop k := by
          have := congrArg bl (extract_st s k s.size)
          rw [bl_st] at this
          show bl (s.extract k s.size) = _
          rw [this, List.take_of_length_le (by rw [List.length_drop, bl_len]; exact Nat.le_refl _)]
        rw [hx, show ((10 : Int).toNat.toUInt8) = (10 : UInt8) from rfl] at HI
        have b6 : (k : Int) ≤ (s.size : Int) := by omega
        clear h32 h10 h35 hz3 hx
        by_cases hneg : Lib.indexByte ((bl s).drop k) 10 < 0
        · have hzz := hz4 hneg
          generalize Lib.indexByte ((bl s).drop k) 10 = ix at *
          subst hzz
          have q6 : IntKind.i64.wrap ((s.size : Int) - (k : Int)) = ((s.size - k : Nat) : Int) := by
            rw [IntWalk.i64_in _ (by omega)]; omega
          have q7 : IntKind.i64.wrap ((k : Int) + ((s.size - k : Nat) : Int)) = ((k + (s.size - k) : Nat) : Int) := by
            rw [IntWalk.i64_in _ (by omega)]; omega
          clear hz4 hz5
          go_wp2
          go_quiet (fail)
          go_wp2
          go_quiet (fail)
          go_wp2
          go_quiet ((go_at_call 48; first | exact Calls.quiet_of_same (HI.out _) | exact q_add_same (HI.out _)))
          go_wp2
          go_quiet (fail)
          go_wp2
          go_roundw
          case rel => exact ⟨k + (s.size - k), (HN.out _ _ _ (by omega)).1, by omega, by omega, HZ.out, (HN.out _ _ _ rfl).2.1⟩
          case measure => rw [HP.out, (HN.out _ (k + (s.size - k)) (s.size : Int) (by omega)).2.2]; omega
        · have hzz := hz5 (Int.not_lt.1 hneg)
          generalize Lib.indexByte ((bl s).drop k) 10 = ix at *
          subst hzz
          have q7 : IntKind.i64.wrap ((k : Int) + (z : Int)) = ((k + z : Nat) : Int) := by
            rw [IntWalk.i64_in _ (by omega)]; omega
          clear hz4 hz5
          go_wp2
          go_quiet (fail)
          go_wp2
          go_quiet (fail)
          go_wp2
          go_quiet ((go_at_call 48; first | exact Calls.quiet_of_same (HI.out _) | exact q_add_same (HI.out _)))
          go_wp2
          go_roundw
          case rel => exact ⟨k + z, (HN.out _ _ _ (by omega)).1, by omega, by omega, HZ.out, (HN.out _ _ _ rfl).2.1⟩
          case measure => rw [HP.out, (HN.out _ (k + z) ((k : Int) + (z : Int)) (by omega)).2.2]; omega
      · have q1 : (((s[k].toNat : Nat) : Int) == 32) = false := byte_ne (n := 32) h32
        have q2 : (((s[k].toNat : Nat) : Int) == 10) = false := byte_ne (n := 10) h10
        have q3 : (((s[k].toNat : Nat) : Int) == 35) = false := byte_ne (n := 35) h35
        have HT := hid_ (HB3.out ⟨h32, h10, h35⟩)
        clear h32 h10 h35
        go_wp2
        go_quiet (fail)
        go_wp2
        go_quiet (fail)
        go_wp2
        first | go_end0 | go_returns
        exact ⟨rfl, by rw [HT.out]; exact HC.out.drewN _, HK.out.drewN _⟩
    · have b1 : ¬ (k : Int) < (s.size : Int) := by omega
      have HT := hid_ (blk_stop HR.out hk (fun h => absurd h hlt))
      go_wp2
      go_quiet (fail)
      go_wp2
      go_end0
      exact ⟨rfl, by rw [HT.out]; exact HC.out.drewN _, HK.out.drewN _⟩
end Go.Proofs.YtmpdobpnnejmmaaDoor
