/- Lex: blanks. Conditions: those that each theorem names. -/
import Derived.Test.YtmpdobpnnejmmaaDoorLb
import Derived.Test.YtmpdobpnnejmmaaDoorShelf
namespace Go.Proofs.YtmpdobpnnejmmaaDoor
open Go.RowKit Go.Maps

theorem skip_remark : ∀ l : List UInt8, Lx.skip true l = Lx.skip false (l.drop (if Lib.indexByte l 10 < 0 then l.length else (Lib.indexByte l 10).toNat))
  | [] => by simp [Lx.skip]
  | c :: l => by
    have ih := skip_remark l
    have hge := Lib.indexByte_ge l 10
    by_cases hc : c = 10
    · subst hc
      have e : Lib.indexByte ((10 : UInt8) :: l) 10 = 0 := rfl
      rw [e]
      simp [Lx.skip]
    · have hb : (c == (10 : UInt8)) = false := by simp [hc]
      have e1 : Lx.skip true (c :: l) = Lx.skip true l := by simp [Lx.skip, hc]
      rw [e1, ih]
      by_cases h1 : Lib.indexByte l 10 = -1
      · have e : Lib.indexByte (c :: l) 10 = -1 := by simp [Lib.indexByte, hb, h1]
        rw [e, h1]
        simp
      · have e : Lib.indexByte (c :: l) 10 = Lib.indexByte l 10 + 1 := by simp [Lib.indexByte, hb, h1]
        rw [e, if_neg (by omega), if_neg (by omega), show (Lib.indexByte l 10 + 1).toNat = (Lib.indexByte l 10).toNat + 1 by omega, List.drop_succ_cons]
theorem skip_le : ∀ (b : Bool) (l : List UInt8), (Lx.skip b l).length ≤ l.length
  | _, [] => by simp [Lx.skip]
  | true, c :: l => by
    unfold Lx.skip
    split
    · have := skip_le false l; simp; omega
    · have := skip_le true l; simp; omega
  | false, c :: l => by
    unfold Lx.skip
    split
    · have := skip_le false l; simp; omega
    · split
      · have := skip_le true l; simp; omega
      · simp
theorem skip_suffix : ∀ (b : Bool) (l : List UInt8), Lx.skip b l = l.drop (l.length - (Lx.skip b l).length)
  | _, [] => by simp [Lx.skip]
  | true, c :: l => by
    have h1 := skip_suffix false l
    have h2 := skip_suffix true l
    have l1 := skip_le false l
    have l2 := skip_le true l
    unfold Lx.skip
    split
    · rw [List.length_cons, show l.length + 1 - (Lx.skip false l).length = l.length - (Lx.skip false l).length + 1 by omega, List.drop_succ_cons]; exact h1
    · rw [List.length_cons, show l.length + 1 - (Lx.skip true l).length = l.length - (Lx.skip true l).length + 1 by omega, List.drop_succ_cons]; exact h2
  | false, c :: l => by
    have h1 := skip_suffix false l
    have h2 := skip_suffix true l
    have l1 := skip_le false l
    have l2 := skip_le true l
    unfold Lx.skip
    split
    · rw [List.length_cons, show l.length + 1 - (Lx.skip false l).length = l.length - (Lx.skip false l).length + 1 by omega, List.drop_succ_cons]; exact h1
    · split
      · rw [List.length_cons, show l.length + 1 - (Lx.skip true l).length = l.length - (Lx.skip true l).length + 1 by omega, List.drop_succ_cons]; exact h2
      · simp
/-- Where blanks and remarks at a place end. -/
def skipTo (s : ByteArray) (i : Nat) : Nat := s.size - (Lx.skip false ((bl s).drop i)).length
theorem skipTo_le (s : ByteArray) (i : Nat) : skipTo s i ≤ s.size := Nat.sub_le _ _
theorem skipTo_ge (s : ByteArray) {i : Nat} (hi : i ≤ s.size) : i ≤ skipTo s i := by
  have := skip_le false ((bl s).drop i)
  rw [List.length_drop, bl_len] at this
  unfold skipTo
  omega
theorem skipTo_drop (s : ByteArray) (i : Nat) : (bl s).drop (skipTo s i) = Lx.skip false ((bl s).drop i) := by
  have h := skip_suffix false ((bl s).drop i)
  have hl := skip_le false ((bl s).drop i)
  rw [List.drop_drop, List.length_drop, bl_len] at h
  rw [List.length_drop, bl_len] at hl
  rw [h]
  unfold skipTo
  by_cases hi : i ≤ s.size
  · congr 1; omega
  · have e : Lx.skip false ((bl s).drop i) = [] := by rw [bl_end s (by omega)]; rfl
    rw [e]
    simp only [List.length_nil, Nat.sub_zero]
    rw [bl_end s (Nat.le_refl _), bl_end s (by omega)]
/-- The loop of blanks. -/
def BlkR (s : ByteArray) (i k : Nat) : Prop := Lx.skip false ((bl s).drop k) = Lx.skip false ((bl s).drop i)
theorem blk_blank {s : ByteArray} {i k : Nat} (h : BlkR s i k) (hk : k < s.size) (hc : s[k] = 32 ∨ s[k] = 10) : BlkR s i (k + 1) := by
  unfold BlkR at *
  rw [← h, bl_drop s hk]
  conv => rhs; unfold Lx.skip
  rw [if_pos hc]
theorem blk_stop {s : ByteArray} {i k : Nat} (h : BlkR s i k) (hk : k ≤ s.size) (hc : ∀ hk : k < s.size, s[k] ≠ 32 ∧ s[k] ≠ 10 ∧ s[k] ≠ 35) : skipTo s i = k := by
  unfold BlkR at h
  unfold skipTo
  rw [← h]
  by_cases hlt : k < s.size
  · obtain ⟨h1, h2, h3⟩ := hc hlt
    rw [bl_drop s hlt]
    unfold Lx.skip
    rw [if_neg (by rintro (e | e); exact h1 e; exact h2 e), if_neg h3, ← bl_drop s hlt, List.length_drop, bl_len]
    omega
  · rw [bl_end s (Nat.le_of_not_lt hlt)]
    simp [Lx.skip]
    omega
theorem blk_remark {s : ByteArray} {i k : Nat} (h : BlkR s i k) (hk : k < s.size) (hc : s[k] = 35) :
    ∃ n : Nat, k + n ≤ s.size ∧ 1 ≤ n ∧ BlkR s i (k + n) ∧ (Lib.indexByte ((bl s).drop k) 10 < 0 → n = s.size - k) ∧ (0 ≤ Lib.indexByte ((bl s).drop k) 10 → Lib.indexByte ((bl s).drop k) 10 = n) := by
  have hge := Lib.indexByte_ge ((bl s).drop (k + 1)) 10
  have hr := skip_remark ((bl s).drop (k + 1))
  have hb : (s[k] == (10 : UInt8)) = false := by rw [hc]; rfl
  have e0 : Lx.skip false ((bl s).drop k) = Lx.skip true ((bl s).drop (k + 1)) := by
    rw [bl_drop s hk]
    conv => lhs; unfold Lx.skip
    rw [if_neg (by rw [hc]; decide), if_pos hc]
  have ei : Lib.indexByte ((bl s).drop k) 10 = if Lib.indexByte ((bl s).drop (k + 1)) 10 == -1 then -1 else Lib.indexByte ((bl s).drop (k + 1)) 10 + 1 := by
    rw [bl_drop s hk]
    conv => lhs; unfold Lib.indexByte
    rw [hb]; rfl
  rw [List.drop_drop, List.length_drop, bl_len] at hr
  unfold BlkR at *
  by_cases h1 : Lib.indexByte ((bl s).drop (k + 1)) 10 = -1
  · rw [h1] at ei hr
    refine ⟨s.size - k, by omega, by omega, ?_, fun _ => rfl, fun h2 => by rw [ei] at h2; exact absurd h2 (by decide)⟩
    rw [← h, e0, hr, if_pos (by omega)]
    congr 2
    omega
  · have hb2 : (Lib.indexByte ((bl s).drop (k + 1)) 10 == -1) = false := by simp [h1]
    rw [hb2] at ei
    rw [if_neg (by omega)] at hr
    have hlt : (Lib.indexByte ((bl s).drop (k + 1)) 10).toNat < s.size - (k + 1) := by
      have h3 := (Lib.indexByte_some (l := (bl s).drop (k + 1)) (c := 10) (o := (Lib.indexByte ((bl s).drop (k + 1)) 10).toNat) (by omega)).1
      have := (List.getElem?_eq_some_iff.1 h3).1
      rw [List.length_drop, bl_len] at this
      exact this
    have ei2 : Lib.indexByte ((bl s).drop k) 10 = Lib.indexByte ((bl s).drop (k + 1)) 10 + 1 := ei
    refine ⟨(Lib.indexByte ((bl s).drop (k + 1)) 10).toNat + 1, by omega, by omega, ?_, fun h2 => by omega, fun _ => by omega⟩
    rw [← h, e0, hr]
    congr 2
    omega
end Go.Proofs.YtmpdobpnnejmmaaDoor
