/- The document's lex: blanks. Conditions: those that each theorem names. -/
import Derived.Test.YtmpdobpnnejmmaaDoorRa
import Derived.Test.YtmpdobpnnejmmaaDoorLd
import Derived.WalkMore
import Derived.Deep.LoopGhost
namespace Go.Proofs.YtmpdobpnnejmmaaDoor
open Go.RowKit Go.Maps

/-- Inside a remark, at k. -/
def RemR (s : ByteArray) (i k : Nat) : Prop := Lx.skip true ((bl s).drop k) = Lx.skip false ((bl s).drop i)
theorem rem_in {s : ByteArray} {i k : Nat} (h : BlkR s i k) (hk : k < s.size) (hc : s[k].toNat = 35) : RemR s i k := by
  have e : s[k] = 35 := UInt8.toNat_inj.1 hc
  unfold RemR
  rw [← h, bl_drop s hk, e, Lx.skip, Lx.skip]
  simp
theorem rem_step {s : ByteArray} {i k : Nat} (h : RemR s i k) (hk : k < s.size) (hc : s[k].toNat ≠ 10) : RemR s i (k + 1) := by
  have e : s[k] ≠ 10 := fun e => hc (by rw [e]; rfl)
  unfold RemR at h ⊢
  rw [bl_drop s hk, Lx.skip, if_neg e] at h
  exact h
theorem rem_out {s : ByteArray} {i k : Nat} (h : RemR s i k) (hc : ∀ hk : k < s.size, s[k].toNat = 10) : BlkR s i k := by
  unfold RemR at h
  unfold BlkR
  rw [← h]
  by_cases hk : k < s.size
  · have e : s[k] = 10 := UInt8.toNat_inj.1 (hc hk)
    rw [bl_drop s hk, e, Lx.skip, Lx.skip]
    simp
  · rw [bl_end s (by omega)]
    rfl
theorem byte_is (c : UInt8) (n : Nat) : (((c.toNat : Nat) : Int) == (n : Int)) = decide (c.toNat = n) := by
  by_cases h : c.toNat = n
  · rw [decide_eq_true h, h]; simp
  · rw [decide_eq_false h]; simp only [beq_eq_false_iff_ne, ne_eq]; omega

set_option maxHeartbeats 1000000 in
set_option maxRecDepth 100000 in
theorem ref_blanks (w : World) (s : ByteArray) (i : Nat) (hs : s.size ≤ 1000000000) (hi : i ≤ s.size) : Calls Tryd.prog 29 #[.string s, .int .i64 i] w fun e w' => e = .returned (.int .i64 (skipTo s i : Int)) ∧ w = w' := by
  go_enter Tryd.func29, Tryd.ntmps29
  go_wp2_with fail
  go_loopg [1] (s.size + 1) (fun g v wr => ∃ k : Nat, v = .int .i64 k ∧ i ≤ k ∧ k ≤ s.size ∧ s.size + 1 - k ≤ g ∧ BlkR s i k ∧ wr = w)
  case atStart => exact ⟨i, rfl, Nat.le_refl _, hi, by omega, rfl, rfl⟩
  case round =>
    obtain ⟨k, rfl, hik, hk, hg, hb, rfl⟩ := hrel
    have HB := hid_ hb
    clear hb
    by_cases hlt : k < s.size
    · have b0 : (0 : Int) ≤ (k : Int) := by omega
      have b1 : (k : Int) < (s.size : Int) := by omega
      have q32 : (((s[k].toNat : Nat) : Int) == (32 : Int)) = decide (s[k].toNat = 32) := byte_is s[k] 32
      have q10 : (((s[k].toNat : Nat) : Int) == (10 : Int)) = decide (s[k].toNat = 10) := byte_is s[k] 10
      have q35 : (((s[k].toNat : Nat) : Int) == (35 : Int)) = decide (s[k].toNat = 35) := byte_is s[k] 35
      by_cases h32 : s[k].toNat = 32
      · rw [decide_eq_true h32] at q32
        rw [decide_eq_false (by omega)] at q10 q35
        have HN := hid_ (blk_blank HB.out hlt (.inl (UInt8.toNat_inj.1 h32)))
        clear h32
        go_wp2_with fail
        go_roundg (gk - 1)
        case rel => exact ⟨k + 1, by go_num, by omega, by omega, by omega, HN.out, rfl⟩
        case measure => omega
      · rw [decide_eq_false h32] at q32
        by_cases h10 : s[k].toNat = 10
        · rw [decide_eq_true h10] at q10
          rw [decide_eq_false (by omega)] at q35
          have HN := hid_ (blk_blank HB.out hlt (.inr (UInt8.toNat_inj.1 h10)))
          clear h10 h32
          go_wp2_with fail
          go_roundg (gk - 1)
          case rel => exact ⟨k + 1, by go_num, by omega, by omega, by omega, HN.out, rfl⟩
          case measure => omega
        · rw [decide_eq_false h10] at q10
          by_cases h35 : s[k].toNat = 35
          · rw [decide_eq_true h35] at q35
            have HR := hid_ (rem_in HB.out hlt h35)
            clear h10 h32
            go_wp2_with fail
            obtain ⟨g, rfl⟩ : ∃ g, g = gk := ⟨_, rfl⟩
            obtain ⟨wo, hwo⟩ : ∃ wo, wo = wr := ⟨_, rfl⟩
            subst hwo
            go_loopg [1] (s.size + 1) (fun g2 v wy => ∃ m : Nat, v = .int .i64 m ∧ k ≤ m ∧ (m = k → s[k].toNat = 35) ∧ m ≤ s.size ∧ s.size + 1 - m ≤ g2 ∧ RemR s i m ∧ wy = wo)
            case atStart => exact ⟨k, rfl, Nat.le_refl _, fun _ => h35, hk, by omega, HR.out, rfl⟩
            case round =>
              obtain ⟨m, rfl, hkm, hm35, hm, hg2, hr, rfl⟩ := hrel
              have HRm := hid_ hr
              have H35 := hid_ hm35
              clear hr HR hm35 q32 q10 q35
              by_cases hlm : m < s.size
              · have c0 : (0 : Int) ≤ (m : Int) := by omega
                have c1 : (m : Int) < (s.size : Int) := by omega
                have q10 : (((s[m].toNat : Nat) : Int) == (10 : Int)) = decide (s[m].toNat = 10) := byte_is s[m] 10
                by_cases h10 : s[m].toNat = 10
                · rw [decide_eq_true h10] at q10
                  have q11 : (((s[m].toNat : Nat) : Int) != (10 : Int)) = false := by rw [bne]; exact congrArg _ q10
                  have HE := hid_ (rem_out HRm.out (fun _ => h10))
                  have hne : k < m := by
                    by_cases e : m = k
                    · subst e
                      have := H35.out rfl
                      omega
                    · omega
                  clear h10
                  go_wp2_with fail
                  go_roundg (g - 1)
                  case rel => exact ⟨m, by go_num, by omega, by omega, by omega, HE.out, rfl⟩
                  case measure => omega
                · rw [decide_eq_false h10] at q10
                  have q11 : (((s[m].toNat : Nat) : Int) != (10 : Int)) = true := by rw [bne]; exact congrArg _ q10
                  have HE := hid_ (rem_step HRm.out hlm h10)
                  clear h10
                  go_wp2_with fail
                  go_roundg (gk - 1)
                  case rel => exact ⟨m + 1, by go_num, by omega, fun e => by omega, by omega, by omega, HE.out, rfl⟩
                  case measure => omega
              · have c1 : ¬ (m : Int) < (s.size : Int) := by omega
                have HE := hid_ (rem_out HRm.out (fun h => absurd h hlm))
                go_wp2_with fail
                go_roundg (g - 1)
                case rel => exact ⟨m, by go_num, by omega, by omega, by omega, HE.out, rfl⟩
                case measure => omega
          · rw [decide_eq_false h35] at q35
            have HS := hid_ (blk_stop HB.out hk (fun h => ⟨fun e => h32 (by rw [e]; rfl), fun e => h10 (by rw [e]; rfl), fun e => h35 (by rw [e]; rfl)⟩))
            clear h10 h32 h35
            go_wp2_with fail
            go_ret
            exact ⟨by rw [HS.out]; rfl, rfl⟩
    · have b1 : ¬ (k : Int) < (s.size : Int) := by omega
      have HS := hid_ (blk_stop HB.out hk (fun h => absurd h hlt))
      go_wp2_with fail
      go_ret
      exact ⟨by rw [HS.out]; rfl, rfl⟩
end Go.Proofs.YtmpdobpnnejmmaaDoor
