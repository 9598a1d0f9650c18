/- The document's lex: tagged, types, names. Conditions: those that each theorem names. -/
import Derived.Test.YtmpdobpnnejmmaaDoorRa
import Derived.Test.YtmpdobpnnejmmaaDoorLd
namespace Go.Proofs.YtmpdobpnnejmmaaDoor
open Go.RowKit Go.Maps

theorem formed_not {s : ByteArray} {p q : UInt8 → Bool} (h : ¬ ((∃ h : 0 < s.size, s.size ≤ 16 ∧ p s[0] = true) ∧ ∀ j (h : j < s.size), q s[j] = true)) : Lx.formed (bl s) p q = false := by
  cases hf : Lx.formed (bl s) p q with
  | false => rfl
  | true => exact absurd ((formed_is s p q).1 hf) h
set_option maxHeartbeats 1000000 in
set_option maxRecDepth 100000 in
theorem ref_tagged (w : World) (s : ByteArray) (hs : s.size ≤ 1000000000) : Calls Tryd.prog 33 #[.string s] w fun e w' => e = .returned (.bool (Lx.tagged (bl s))) ∧ w = w' := by
  go_enter Tryd.func33, Tryd.ntmps33
  go_wp2_with fail
  go_loop [3] (fun v => ∃ k : Nat, v = .int .i64 k ∧ k ≤ s.size ∧ ∀ j (h : j < s.size), j < k → (fun c => Lx.small c || Lx.digit c || Lx.score c) s[j] = true) (fun v => s.size - (intOf v).toNat)
  case atStart => exact ⟨0, rfl, by omega, fun _ _ h => by omega⟩
  case round =>
    obtain ⟨k, rfl, hk, hall⟩ := hrel
    have HA := hid_ hall
    clear hall
    by_cases hlt : k < s.size
    · have b0 : (0 : Int) ≤ (k : Int) := by omega
      have b1 : (k : Int) < (s.size : Int) := by omega
      have H0 := hid_ (ref_small s[k] w)
      have H1 := hid_ (ref_digit s[k] w)
      have HS := hid_ (fun hg : (fun c => Lx.small c || Lx.digit c || Lx.score c) s[k] = true => (show ∀ j (h : j < s.size), j < k + 1 → (fun c => Lx.small c || Lx.digit c || Lx.score c) s[j] = true from fun j h hj => by
        by_cases e : j = k
        · subst e; exact hg
        · exact HA.out j h (by omega)))
      have HF := hid_ (fun hg : (fun c => Lx.small c || Lx.digit c || Lx.score c) s[k] = false => (show Lx.tagged (bl s) = false from formed_not fun h => by have := (h.2 k hlt).symm.trans hg; cases this))
      simp only [] at HS HF
      generalize Lx.small s[k] = g0 at *
      generalize Lx.digit s[k] = g1 at *
      have HU : Hid (Lx.score s[k] = decide (s[k].toNat = 95)) := hid_ rfl
      generalize hgu : Lx.score s[k] = gu at *
      have q0 : (((s[k].toNat : Nat) : Int) == (95 : Int)) = gu := by
        rw [HU.out]
        by_cases h : s[k].toNat = 95
        · rw [decide_eq_true h, h]; rfl
        · rw [decide_eq_false h]; simp only [beq_eq_false_iff_ne, ne_eq]; omega
      clear hgu HU
      cases g0 with
      | true =>
        go_wp2_with fail
        refine H0.out.mono ?_
        rintro e w' ⟨rfl, rfl⟩
        go_wp2_with fail
        go_round
        case rel => exact ⟨k + 1, by go_num, by omega, HS.out (by simp)⟩
        case measure => simp [intOf]; omega
      | false =>
        cases g1 with
        | true =>
          go_wp2_with fail
          refine H0.out.mono ?_
          rintro e w' ⟨rfl, rfl⟩
          go_wp2_with fail
          refine H1.out.mono ?_
          rintro e w' ⟨rfl, rfl⟩
          go_wp2_with fail
          go_round
          case rel => exact ⟨k + 1, by go_num, by omega, HS.out (by simp)⟩
          case measure => simp [intOf]; omega
        | false =>
          cases gu with
          | true =>
            go_wp2_with fail
            refine H0.out.mono ?_
            rintro e w' ⟨rfl, rfl⟩
            go_wp2_with fail
            refine H1.out.mono ?_
            rintro e w' ⟨rfl, rfl⟩
            go_wp2_with fail
            go_round
            case rel => exact ⟨k + 1, by go_num, by omega, HS.out (by simp)⟩
            case measure => simp [intOf]; omega
          | false =>
            go_wp2_with fail
            refine H0.out.mono ?_
            rintro e w' ⟨rfl, rfl⟩
            go_wp2_with fail
            refine H1.out.mono ?_
            rintro e w' ⟨rfl, rfl⟩
            go_wp2_with fail
            go_ret
            exact ⟨by rw [HF.out (by simp)]; rfl, rfl⟩
    · have b1 : ¬ (k : Int) < (s.size : Int) := by omega
      have HE := hid_ (show ∀ j (h : j < s.size), (fun c => Lx.small c || Lx.digit c || Lx.score c) s[j] = true from fun j h => HA.out j h (by omega))
      by_cases h1 : 1 ≤ (s.size : Int)
      · by_cases h2 : (s.size : Int) ≤ 16
        · have h0 : 0 < s.size := by omega
          have HP := hid_ (ref_small s[0] w)
          have HR := hid_ (show Lx.tagged (bl s) = Lx.small s[0] from by
            cases hg : Lx.small s[0] with
            | true => exact (formed_is _ _ _).2 ⟨⟨h0, by omega, hg⟩, HE.out⟩
            | false => exact formed_not fun ⟨⟨_, _, h⟩, _⟩ => by rw [hg] at h; cases h)
          go_wp2_with fail
          refine HP.out.mono ?_
          rintro e w' ⟨rfl, rfl⟩
          go_wp2_with fail
          go_ret
          exact ⟨by rw [HR.out]; rfl, rfl⟩
        · have HR := hid_ (show Lx.tagged (bl s) = false from formed_not fun ⟨⟨_, h, _⟩, _⟩ => by omega)
          go_wp2_with fail
          go_ret
          exact ⟨by rw [HR.out]; rfl, rfl⟩
      · have HR := hid_ (show Lx.tagged (bl s) = false from formed_not fun ⟨⟨h, _⟩, _⟩ => by omega)
        go_wp2_with fail
        go_ret
        exact ⟨by rw [HR.out]; rfl, rfl⟩
set_option maxHeartbeats 1000000 in
set_option maxRecDepth 100000 in
theorem ref_IsType (w : World) (s : ByteArray) (hs : s.size ≤ 1000000000) : Calls Tryd.prog 18 #[.string s] w fun e w' => e = .returned (.bool (Lx.isType (bl s))) ∧ w = w' := by
  go_enter Tryd.func18, Tryd.ntmps18
  go_wp2_with fail
  go_loop [3] (fun v => ∃ k : Nat, v = .int .i64 k ∧ k ≤ s.size ∧ ∀ j (h : j < s.size), j < k → (fun c => Lx.small c || Lx.great c || Lx.digit c) s[j] = true) (fun v => s.size - (intOf v).toNat)
  case atStart => exact ⟨0, rfl, by omega, fun _ _ h => by omega⟩
  case round =>
    obtain ⟨k, rfl, hk, hall⟩ := hrel
    have HA := hid_ hall
    clear hall
    by_cases hlt : k < s.size
    · have b0 : (0 : Int) ≤ (k : Int) := by omega
      have b1 : (k : Int) < (s.size : Int) := by omega
      have H0 := hid_ (ref_small s[k] w)
      have H1 := hid_ (ref_great s[k] w)
      have H2 := hid_ (ref_digit s[k] w)
      have HS := hid_ (fun hg : (fun c => Lx.small c || Lx.great c || Lx.digit c) s[k] = true => (show ∀ j (h : j < s.size), j < k + 1 → (fun c => Lx.small c || Lx.great c || Lx.digit c) s[j] = true from fun j h hj => by
        by_cases e : j = k
        · subst e; exact hg
        · exact HA.out j h (by omega)))
      have HF := hid_ (fun hg : (fun c => Lx.small c || Lx.great c || Lx.digit c) s[k] = false => (show Lx.isType (bl s) = false from formed_not fun h => by have := (h.2 k hlt).symm.trans hg; cases this))
      simp only [] at HS HF
      generalize Lx.small s[k] = g0 at *
      generalize Lx.great s[k] = g1 at *
      generalize Lx.digit s[k] = g2 at *
      cases g0 with
      | true =>
        go_wp2_with fail
        refine H0.out.mono ?_
        rintro e w' ⟨rfl, rfl⟩
        go_wp2_with fail
        go_round
        case rel => exact ⟨k + 1, by go_num, by omega, HS.out (by simp)⟩
        case measure => simp [intOf]; omega
      | false =>
        cases g1 with
        | true =>
          go_wp2_with fail
          refine H0.out.mono ?_
          rintro e w' ⟨rfl, rfl⟩
          go_wp2_with fail
          refine H1.out.mono ?_
          rintro e w' ⟨rfl, rfl⟩
          go_wp2_with fail
          go_round
          case rel => exact ⟨k + 1, by go_num, by omega, HS.out (by simp)⟩
          case measure => simp [intOf]; omega
        | false =>
          cases g2 with
          | true =>
            go_wp2_with fail
            refine H0.out.mono ?_
            rintro e w' ⟨rfl, rfl⟩
            go_wp2_with fail
            refine H1.out.mono ?_
            rintro e w' ⟨rfl, rfl⟩
            go_wp2_with fail
            refine H2.out.mono ?_
            rintro e w' ⟨rfl, rfl⟩
            go_wp2_with fail
            go_round
            case rel => exact ⟨k + 1, by go_num, by omega, HS.out (by simp)⟩
            case measure => simp [intOf]; omega
          | false =>
            go_wp2_with fail
            refine H0.out.mono ?_
            rintro e w' ⟨rfl, rfl⟩
            go_wp2_with fail
            refine H1.out.mono ?_
            rintro e w' ⟨rfl, rfl⟩
            go_wp2_with fail
            refine H2.out.mono ?_
            rintro e w' ⟨rfl, rfl⟩
            go_wp2_with fail
            go_ret
            exact ⟨by rw [HF.out (by simp)]; rfl, rfl⟩
    · have b1 : ¬ (k : Int) < (s.size : Int) := by omega
      have HE := hid_ (show ∀ j (h : j < s.size), (fun c => Lx.small c || Lx.great c || Lx.digit c) s[j] = true from fun j h => HA.out j h (by omega))
      by_cases h1 : 1 ≤ (s.size : Int)
      · by_cases h2 : (s.size : Int) ≤ 16
        · have h0 : 0 < s.size := by omega
          have HP := hid_ (ref_great s[0] w)
          have HR := hid_ (show Lx.isType (bl s) = Lx.great s[0] from by
            cases hg : Lx.great s[0] with
            | true => exact (formed_is _ _ _).2 ⟨⟨h0, by omega, hg⟩, HE.out⟩
            | false => exact formed_not fun ⟨⟨_, _, h⟩, _⟩ => by rw [hg] at h; cases h)
          go_wp2_with fail
          refine HP.out.mono ?_
          rintro e w' ⟨rfl, rfl⟩
          go_wp2_with fail
          go_ret
          exact ⟨by rw [HR.out]; rfl, rfl⟩
        · have HR := hid_ (show Lx.isType (bl s) = false from formed_not fun ⟨⟨_, h, _⟩, _⟩ => by omega)
          go_wp2_with fail
          go_ret
          exact ⟨by rw [HR.out]; rfl, rfl⟩
      · have HR := hid_ (show Lx.isType (bl s) = false from formed_not fun ⟨⟨h, _⟩, _⟩ => by omega)
        go_wp2_with fail
        go_ret
        exact ⟨by rw [HR.out]; rfl, rfl⟩
set_option maxHeartbeats 1000000 in
set_option maxRecDepth 100000 in
theorem ref_IsName (w : World) (s : ByteArray) (hs : s.size ≤ 1000000000) : Calls Tryd.prog 16 #[.string s] w fun e w' => e = .returned (.bool (Lx.isName (bl s))) ∧ Below w.heap.size w w' := by
  have HT := hid_ (ref_tagged w s hs)
  have HK := hid_ (ref_IsKey w s)
  have HR := hid_ (show Lx.isName (bl s) = (Lx.tagged (bl s) && !Lx.isKey (bl s)) from rfl)
  generalize Lx.tagged (bl s) = b1 at *
  generalize Lx.isKey (bl s) = b2 at *
  cases b1 with
  | true =>
    go_enter Tryd.func16, Tryd.ntmps16
    go_wp2_with fail
    refine HT.out.mono ?_
    rintro e w' ⟨rfl, rfl⟩
    go_wp2_with fail
    refine HK.out.mono ?_
    rintro e w1 ⟨rfl, hb⟩
    have HB := hid_ hb
    clear hb
    go_wp2_with fail
    go_ret
    exact ⟨by rw [HR.out]; cases b2 <;> rfl, HB.out⟩
  | false =>
    go_enter Tryd.func16, Tryd.ntmps16
    go_wp2_with fail
    refine HT.out.mono ?_
    rintro e w' ⟨rfl, rfl⟩
    go_wp2_with fail
    go_ret
    exact ⟨by rw [HR.out]; rfl, Below.refl _ _⟩
end Go.Proofs.YtmpdobpnnejmmaaDoor
