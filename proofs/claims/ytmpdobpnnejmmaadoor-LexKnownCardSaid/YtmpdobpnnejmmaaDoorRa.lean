/- The document's lex: what a byte is; keys, names, types. Conditions: those that each theorem names. -/
import Derived.Test.YtmpdobpnnejmmaaDoorLf
namespace Go.Proofs.YtmpdobpnnejmmaaDoor
open Go.RowKit Go.Maps

theorem ref_small (c : UInt8) (w : World) : Calls Tryd.prog 38 #[.int .u8 (c.toNat : Int)] w fun e w' => e = .returned (.bool (Lx.small c)) ∧ w = w' := by
  by_cases h1 : 97 ≤ (c.toNat : Int)
  · by_cases h2 : (c.toNat : Int) ≤ 122
    · have e : Lx.small c = true := decide_eq_true (by omega)
      rw [e]
      go_enter Tryd.func38, Tryd.ntmps38
      go_wp2
      go_ret
      exact ⟨rfl, rfl⟩
    · have e : Lx.small c = false := decide_eq_false (by omega)
      rw [e]
      go_enter Tryd.func38, Tryd.ntmps38
      go_wp2
      go_ret
      exact ⟨rfl, rfl⟩
  · have e : Lx.small c = false := decide_eq_false (by omega)
    rw [e]
    go_enter Tryd.func38, Tryd.ntmps38
    go_wp2
    go_ret
    exact ⟨rfl, rfl⟩
theorem ref_great (c : UInt8) (w : World) : Calls Tryd.prog 39 #[.int .u8 (c.toNat : Int)] w fun e w' => e = .returned (.bool (Lx.great c)) ∧ w = w' := by
  by_cases h1 : 65 ≤ (c.toNat : Int)
  · by_cases h2 : (c.toNat : Int) ≤ 90
    · have e : Lx.great c = true := decide_eq_true (by omega)
      rw [e]
      go_enter Tryd.func39, Tryd.ntmps39
      go_wp2
      go_ret
      exact ⟨rfl, rfl⟩
    · have e : Lx.great c = false := decide_eq_false (by omega)
      rw [e]
      go_enter Tryd.func39, Tryd.ntmps39
      go_wp2
      go_ret
      exact ⟨rfl, rfl⟩
  · have e : Lx.great c = false := decide_eq_false (by omega)
    rw [e]
    go_enter Tryd.func39, Tryd.ntmps39
    go_wp2
    go_ret
    exact ⟨rfl, rfl⟩
theorem ref_digit (c : UInt8) (w : World) : Calls Tryd.prog 40 #[.int .u8 (c.toNat : Int)] w fun e w' => e = .returned (.bool (Lx.digit c)) ∧ w = w' := by
  by_cases h1 : 48 ≤ (c.toNat : Int)
  · by_cases h2 : (c.toNat : Int) ≤ 57
    · have e : Lx.digit c = true := decide_eq_true (by omega)
      rw [e]
      go_enter Tryd.func40, Tryd.ntmps40
      go_wp2
      go_ret
      exact ⟨rfl, rfl⟩
    · have e : Lx.digit c = false := decide_eq_false (by omega)
      rw [e]
      go_enter Tryd.func40, Tryd.ntmps40
      go_wp2
      go_ret
      exact ⟨rfl, rfl⟩
  · have e : Lx.digit c = false := decide_eq_false (by omega)
    rw [e]
    go_enter Tryd.func40, Tryd.ntmps40
    go_wp2
    go_ret
    exact ⟨rfl, rfl⟩

theorem formed_is (s : ByteArray) (p q : UInt8 → Bool) : Lx.formed (bl s) p q = true ↔ (∃ h : 0 < s.size, s.size ≤ 16 ∧ p s[0] = true) ∧ ∀ j (h : j < s.size), q s[j] = true := by
  by_cases h0 : 0 < s.size
  · have e := bl_drop s h0
    rw [List.drop_zero] at e
    have ha : (bl s).all q = true ↔ ∀ j (h : j < s.size), q s[j] = true := by
      rw [List.all_eq_true]
      constructor
      · intro h j hj
        have : s[j] ∈ bl s := by
          have e2 : (bl s)[j]? = some s[j] := by
            have := bl_drop s hj
            have e3 : ((bl s).drop j)[0]? = some s[j] := by rw [this]; rfl
            rw [List.getElem?_drop] at e3
            simpa using e3
          exact List.mem_of_getElem? e2
        exact h _ this
      · intro h x hx
        obtain ⟨j, hj, rfl⟩ := List.getElem_of_mem hx
        rw [bl_len] at hj
        have e3 : (bl s)[j]? = some s[j] := by
          have := bl_drop s hj
          have e3 : ((bl s).drop j)[0]? = some s[j] := by rw [this]; rfl
          rw [List.getElem?_drop] at e3
          simpa using e3
        have e4 : (bl s)[j] = s[j] := by
          rw [List.getElem?_eq_getElem (by rw [bl_len]; exact hj)] at e3
          exact Option.some.inj e3
        rw [e4]
        exact h j hj
    have hl : (bl s).length = s.size := bl_len s
    have ef : Lx.formed (bl s) p q = (decide (s.size ≤ 16) && p s[0] && (bl s).all q) := by
      unfold Lx.formed
      rw [e]
      simp only
      rw [← e, hl]
    rw [ef, Bool.and_eq_true, Bool.and_eq_true, decide_eq_true_iff, ha]
    exact ⟨fun ⟨⟨a, b⟩, c⟩ => ⟨⟨h0, a, b⟩, c⟩, fun ⟨⟨_, a, b⟩, c⟩ => ⟨⟨a, b⟩, c⟩⟩
  · have e : bl s = [] := List.eq_nil_of_length_eq_zero (by rw [bl_len]; omega)
    rw [e]
    exact ⟨fun h => (by cases h), fun ⟨⟨h, _⟩, _⟩ => absurd h h0⟩

theorem key_no {s : ByteArray} (h : ∀ j, j < 18 → st (Lx.keysL.getD j []) ≠ s) : Lx.isKey (bl s) = false := by
  unfold Lx.isKey
  rw [List.any_eq_false]
  intro x hx
  obtain ⟨j, hj, rfl⟩ := List.mem_iff_getElem.1 hx
  have h1 := h j (by have : Lx.keysL.length = 18 := rfl; omega)
  simp only [List.getD, List.getElem?_eq_getElem hj, Option.getD_some] at h1
  simp only [decide_eq_true_eq]
  intro e
  exact h1 (by rw [e, st_bl])

set_option maxHeartbeats 1000000 in
set_option maxRecDepth 100000 in
theorem ref_keys (w : World) : Calls Tryd.prog 31 #[] w fun e w' => ∃ t, e = .returned (.slice (some ⟨w.heap.size, 0, none⟩) 18 18) ∧ Blk w' w.heap.size t (strV Lx.keysL) ∧ Below w.heap.size w w' := by
  have HB := hid_ (Below.refl w.heap.size w)
  go_enter Tryd.func31, Tryd.ntmps31
  go_wp2_with fail
  go_ret
  refine ⟨_, rfl, Blk.new w _ _, (HB.out.alloc (Nat.le_refl _) _)⟩

set_option maxHeartbeats 1000000 in
set_option maxRecDepth 100000 in
theorem ref_IsKey (w : World) (s : ByteArray) : Calls Tryd.prog 14 #[.string s] w fun e w' => e = .returned (.bool (Lx.isKey (bl s))) ∧ Below w.heap.size w w' := by
  go_enter Tryd.func14, Tryd.ntmps14
  go_wp2_with fail
  refine (ref_keys w).mono ?_
  rintro e w1 ⟨t, rfl, hB, hb⟩
  have HB := hid_ hb
  have HK := hid_ hB
  clear hb hB
  go_wp2_with fail
  go_loop [4] (fun v => ∃ k : Nat, v = .int .i64 k ∧ k ≤ 18 ∧ ∀ j, j < k → st (Lx.keysL.getD j []) ≠ s) (fun v => 18 - (intOf v).toNat)
  case atStart => exact ⟨0, rfl, by omega, fun _ h => by omega⟩
  case round =>
    obtain ⟨k, rfl, hk, hall⟩ := hrel
    have HA := hid_ hall
    clear hall
    by_cases hlt : k < 18
    · have x0 : w1.cell? ⟨w.heap.size, k, none⟩ = some (.string (st (Lx.keysL.getD k []))) := (HK.out.cell k).trans (strV_at hlt)
      have hm := hid_ (show Lx.keysL.getD k [] ∈ Lx.keysL by
        have hkx : k < Lx.keysL.length := hlt
        simp [List.getD, hkx])
      have b0 : (0 : Int) ≤ (k : Int) := by omega
      have b1 : (k : Int) < 18 := by omega
      generalize hxk : Lx.keysL.getD k [] = x at *
      have HX := hid_ hxk
      clear hxk
      by_cases he : st x = s
      · have q1 := str_eq he
        have HR := hid_ (show Lx.isKey (bl s) = true from List.any_eq_true.2 ⟨x, hm.out, decide_eq_true (by rw [← he, bl_st])⟩)
        clear he
        go_wp2
        go_ret
        exact ⟨by rw [HR.out]; rfl, HB.out⟩
      · have q1 := str_ne he
        have HN := hid_ he
        clear he
        go_wp2
        go_round
        case rel => exact ⟨k + 1, by go_num, by omega, fun j hj => by
          by_cases e : j = k
          · subst e; rw [HX.out]; exact HN.out
          · exact HA.out j (by omega)⟩
        case measure => simp [intOf]; omega
    · have b1 : ¬ (k : Int) < 18 := by omega
      have HR := hid_ (show Lx.isKey (bl s) = false from key_no fun j hj => HA.out j (by omega))
      go_wp2
      go_ret
      exact ⟨by rw [HR.out]; rfl, HB.out⟩
end Go.Proofs.YtmpdobpnnejmmaaDoor
