/- Lex: what a byte is; how far a word goes. Conditions: those that each theorem names. -/
import Derived.Test.YtmpdobpnnejmmaaDoorProg
import Derived.Test.YtmpdobpnnejmmaaDoorMa
import Derived.Test.YtmpdobpnnejmmaaDoorLx
namespace Go.Proofs.YtmpdobpnnejmmaaDoor
open Go.RowKit Go.Maps

theorem lex_small (c : UInt8) (w : World) : Calls Tryd.prog 36 #[.int .u8 (c.toNat : Int)] w fun e w' => e = .returned (.bool (Lx.small c)) ∧ w = w' := by
  by_cases h1 : 97 ≤ (c.toNat : Int)
  · by_cases h2 : (c.toNat : Int) ≤ 122
    · have e : Lx.small c = true := decide_eq_true (by omega)
      rw [e]
      go_enter Tryd.func36, Tryd.ntmps36
      go_wp2
      go_ret
      exact ⟨rfl, rfl⟩
    · have e : Lx.small c = false := decide_eq_false (by omega)
      rw [e]
      go_enter Tryd.func36, Tryd.ntmps36
      go_wp2
      go_ret
      exact ⟨rfl, rfl⟩
  · have e : Lx.small c = false := decide_eq_false (by omega)
    rw [e]
    go_enter Tryd.func36, Tryd.ntmps36
    go_wp2
    go_ret
    exact ⟨rfl, rfl⟩
theorem lex_great (c : UInt8) (w : World) : Calls Tryd.prog 35 #[.int .u8 (c.toNat : Int)] w fun e w' => e = .returned (.bool (Lx.great c)) ∧ w = w' := by
  by_cases h1 : 65 ≤ (c.toNat : Int)
  · by_cases h2 : (c.toNat : Int) ≤ 90
    · have e : Lx.great c = true := decide_eq_true (by omega)
      rw [e]
      go_enter Tryd.func35, Tryd.ntmps35
      go_wp2
      go_ret
      exact ⟨rfl, rfl⟩
    · have e : Lx.great c = false := decide_eq_false (by omega)
      rw [e]
      go_enter Tryd.func35, Tryd.ntmps35
      go_wp2
      go_ret
      exact ⟨rfl, rfl⟩
  · have e : Lx.great c = false := decide_eq_false (by omega)
    rw [e]
    go_enter Tryd.func35, Tryd.ntmps35
    go_wp2
    go_ret
    exact ⟨rfl, rfl⟩
theorem lex_digit (c : UInt8) (w : World) : Calls Tryd.prog 37 #[.int .u8 (c.toNat : Int)] w fun e w' => e = .returned (.bool (Lx.digit c)) ∧ w = w' := by
  by_cases h1 : 48 ≤ (c.toNat : Int)
  · by_cases h2 : (c.toNat : Int) ≤ 57
    · have e : Lx.digit c = true := decide_eq_true (by omega)
      rw [e]
      go_enter Tryd.func37, Tryd.ntmps37
      go_wp2
      go_ret
      exact ⟨rfl, rfl⟩
    · have e : Lx.digit c = false := decide_eq_false (by omega)
      rw [e]
      go_enter Tryd.func37, Tryd.ntmps37
      go_wp2
      go_ret
      exact ⟨rfl, rfl⟩
  · have e : Lx.digit c = false := decide_eq_false (by omega)
    rw [e]
    go_enter Tryd.func37, Tryd.ntmps37
    go_wp2
    go_ret
    exact ⟨rfl, rfl⟩
theorem lex_score (c : UInt8) (w : World) : Calls Tryd.prog 52 #[.int .u8 (c.toNat : Int)] w fun e w' => e = .returned (.bool (Lx.score c)) ∧ w = w' := by
  by_cases h1 : c.toNat = 95
  · have e : Lx.score c = true := decide_eq_true h1
    have q : (((c.toNat : Nat) : Int) == 95) = true := by simp [h1]
    rw [e]
    go_enter Tryd.func52, Tryd.ntmps52
    go_wp2
    go_ret
    exact ⟨rfl, rfl⟩
  · have e : Lx.score c = false := decide_eq_false h1
    have q : (((c.toNat : Nat) : Int) == 95) = false := by rw [beq_eq_false_iff_ne]; omega
    rw [e]
    go_enter Tryd.func52, Tryd.ntmps52
    go_wp2
    go_ret
    exact ⟨rfl, rfl⟩
theorem lex_goesOn (c : UInt8) (w : World) : Calls Tryd.prog 60 #[.int .u8 (c.toNat : Int)] w fun e w' => e = .returned (.bool (Lx.goes c)) ∧ w = w' := by
  have hs := lex_small c w
  have hg := lex_great c w
  have hd := lex_digit c w
  have he : Lx.goes c = (Lx.small c || Lx.great c || Lx.digit c || Lx.score c) := rfl
  have hsc : Lx.score c = decide (c.toNat = 95) := rfl
  rw [he]
  generalize Lx.small c = a at *
  generalize Lx.great c = b at *
  generalize Lx.digit c = d at *
  clear he
  have H1 := hid_ hs
  have H2 := hid_ hg
  have H3 := hid_ hd
  clear hs hg hd
  by_cases h1 : c.toNat = 95
  · have e : Lx.score c = true := by rw [hsc]; exact decide_eq_true h1
    have q : (((c.toNat : Nat) : Int) == 95) = true := by simp [h1]
    rw [e]
    clear hsc e
    have H4 := hid_ h1
    clear h1
    cases a <;> cases b <;> cases d <;>
    · go_enter Tryd.func60, Tryd.ntmps60
      go_wp2_with (first
        | (go_at_call 36; refine H1.out.mono ?_; rintro e w' ⟨rfl, rfl⟩)
        | (go_at_call 35; refine H2.out.mono ?_; rintro e w' ⟨rfl, rfl⟩)
        | (go_at_call 37; refine H3.out.mono ?_; rintro e w' ⟨rfl, rfl⟩))
      go_ret
      exact ⟨rfl, rfl⟩
  · have e : Lx.score c = false := by rw [hsc]; exact decide_eq_false h1
    have q : (((c.toNat : Nat) : Int) == 95) = false := by rw [beq_eq_false_iff_ne]; omega
    rw [e]
    clear hsc e
    have H4 := hid_ h1
    clear h1
    cases a <;> cases b <;> cases d <;>
    · go_enter Tryd.func60, Tryd.ntmps60
      go_wp2_with (first
        | (go_at_call 36; refine H1.out.mono ?_; rintro e w' ⟨rfl, rfl⟩)
        | (go_at_call 35; refine H2.out.mono ?_; rintro e w' ⟨rfl, rfl⟩)
        | (go_at_call 37; refine H3.out.mono ?_; rintro e w' ⟨rfl, rfl⟩))
      go_ret
      exact ⟨rfl, rfl⟩
end Go.Proofs.YtmpdobpnnejmmaaDoor
