/- Lex: the words of a text, plainly: what is left at a place. Conditions: those that each theorem names. -/
import Derived.Test.YtmpdobpnnejmmaaDoorLk
namespace Go.Proofs.YtmpdobpnnejmmaaDoor
open Go.RowKit Go.Maps

def mapOk (ws : List Lx.Wd) : Except Nat (List Lx.Wd) → Except Nat (List Lx.Wd)
  | .error e => .error e
  | .ok l => .ok (ws ++ l)
/-- The words ahead of place j are ws. -/
def CutR (s : ByteArray) (j : Nat) (ws : List Lx.Wd) : Prop := ∃ f, s.size - j < f ∧ Lx.cut (bl s) = mapOk ws (Lx.cutF s.size f ((bl s).drop j))
theorem cut_start (s : ByteArray) : CutR s 0 [] := by
  refine ⟨s.size + 1, by omega, ?_⟩
  unfold Lx.cut
  rw [bl_len, List.drop_zero]
  cases Lx.cutF s.size (s.size + 1) (bl s) <;> rfl
theorem skip_cons {s : ByteArray} {j i : Nat} (hi : skipTo s j = i) (hlt : i < s.size) : Lx.skip false ((bl s).drop j) = s[i] :: (bl s).drop (i + 1) := by
  rw [← skipTo_drop, hi, bl_drop s hlt]
theorem cut_end {s : ByteArray} {j : Nat} {ws : List Lx.Wd} (h : CutR s j ws) (he : skipTo s j = s.size) : Lx.cut (bl s) = .ok ws := by
  obtain ⟨f, hf, h⟩ := h
  have e : Lx.skip false ((bl s).drop j) = [] := by rw [← skipTo_drop, he, bl_end s (Nat.le_refl _)]
  cases f with
  | zero => omega
  | succ f =>
    rw [h, Lx.cutF, e]
    simp [mapOk]
theorem cut_err {s : ByteArray} {j i : Nat} {ws : List Lx.Wd} (h : CutR s j ws) (hi : skipTo s j = i) (hlt : i < s.size) (hw : Lx.word? ((bl s).drop i) = none) : Lx.cut (bl s) = .error i := by
  obtain ⟨f, hf, h⟩ := h
  have e := skip_cons hi hlt
  rw [bl_drop s hlt] at hw
  cases f with
  | zero => omega
  | succ f =>
    rw [h, Lx.cutF, e]
    simp only
    rw [hw]
    simp only [mapOk, List.length_cons, List.length_drop, bl_len]
    congr 1
    omega
theorem sign_len {l g : List UInt8} (h : Lx.sign? l = some g) : 1 ≤ g.length ∧ g.length ≤ l.length := by
  unfold Lx.sign? at h
  have h1 := List.find?_some h
  have h2 := List.mem_of_find?_eq_some h
  have h3 : ∀ x ∈ Lx.signsL, 1 ≤ x.length := by decide
  exact ⟨h3 g h2, (List.isPrefixOf_iff_prefix.1 h1).length_le⟩
theorem run_pos {l : List UInt8} (h : l.takeWhile Lx.goes ≠ []) : 1 ≤ (l.takeWhile Lx.goes).length := by
  cases hx : l.takeWhile Lx.goes with
  | nil => exact absurd hx h
  | cons a b => simp
theorem plain_some {l : List UInt8} {r : Int × List UInt8 × Int × Nat} (h : plainO l = some r) : l.takeWhile Lx.goes ≠ [] ∧ r.2.2.2 = (l.takeWhile Lx.goes).length := by
  unfold plainO at h
  simp only at h
  split at h
  · rename_i hk
    injection h with h
    subst h
    exact ⟨fun e => by rw [e] at hk; exact absurd hk (by decide), rfl⟩
  · split at h
    · rename_i hk
      injection h with h
      subst h
      exact ⟨fun e => by rw [e] at hk; exact absurd hk (by decide), rfl⟩
    · split at h
      · rename_i hk
        injection h with h
        subst h
        exact ⟨fun e => by rw [e] at hk; exact absurd hk (by decide), rfl⟩
      · split at h
        · rename_i hk
          injection h with h
          subst h
          exact ⟨fun e => by rw [e] at hk; exact absurd hk (by decide), rfl⟩
        · cases h
theorem takeWhile_le (p : UInt8 → Bool) (l : List UInt8) : (l.takeWhile p).length ≤ l.length := (List.takeWhile_prefix (p := p) (l := l)).length_le
/-- The word at a place, by the three readers. -/
theorem word_is (c : UInt8) (l : List UInt8) : Lx.word? (c :: l) = (signO (c :: l)).or ((tagO (c :: l)).or (plainO (c :: l))) := by
  unfold Lx.word? signO
  cases hs : Lx.sign? (c :: l) with
  | some g => rfl
  | none =>
    simp only [Option.map_none, Option.none_or]
    unfold tagO
    by_cases h39 : c = 39
    · subst h39
      have hp : plainO ((39 : UInt8) :: l) = none := by
        have e : ((39 : UInt8) :: l).takeWhile Lx.goes = [] := by rw [List.takeWhile_cons_of_neg (by decide)]
        unfold plainO
        rw [e]
        decide
      rw [hp]
      by_cases ht : Lx.tagged (l.takeWhile Lx.goes) = true
      · simp [ht]
      · simp [ht]
    · simp only [h39, if_false, false_and, Option.none_or]
      unfold plainO
      rfl
theorem word_len {c : UInt8} {l : List UInt8} {r : Int × List UInt8 × Int × Nat} (h : Lx.word? (c :: l) = some r) : 1 ≤ r.2.2.2 ∧ r.2.2.2 ≤ (c :: l).length := by
  rw [word_is] at h
  cases hs : signO (c :: l) with
  | some x =>
    rw [hs] at h
    simp only [Option.some_or, Option.some.injEq] at h
    subst h
    unfold signO at hs
    cases hg : Lx.sign? (c :: l) with
    | none => rw [hg] at hs; cases hs
    | some g =>
      rw [hg] at hs
      injection hs with hs
      subst hs
      exact sign_len hg
  | none =>
    rw [hs, Option.none_or] at h
    cases ht : tagO (c :: l) with
    | some x =>
      rw [ht] at h
      simp only [Option.some_or, Option.some.injEq] at h
      subst h
      simp only [tagO] at ht
      split at ht
      · injection ht with ht
        subst ht
        have := takeWhile_le Lx.goes l
        exact ⟨by simp, by simp; omega⟩
      · cases ht
    | none =>
      rw [ht, Option.none_or] at h
      obtain ⟨h1, h2⟩ := plain_some h
      rw [h2]
      exact ⟨run_pos h1, takeWhile_le _ _⟩
theorem cut_word {s : ByteArray} {j i : Nat} {ws : List Lx.Wd} {r : Int × List UInt8 × Int × Nat} (h : CutR s j ws) (hj : j ≤ s.size) (hi : skipTo s j = i) (hlt : i < s.size) (hw : Lx.word? ((bl s).drop i) = some r) :
    CutR s (i + r.2.2.2) (ws ++ [⟨r.1, r.2.1, r.2.2.1, i⟩]) ∧ i + r.2.2.2 ≤ s.size ∧ 1 ≤ r.2.2.2 := by
  obtain ⟨f, hf, h⟩ := h
  have hge := skipTo_ge s hj
  have e := skip_cons hi hlt
  have hw' := hw
  rw [bl_drop s hlt] at hw'
  obtain ⟨l1, l2⟩ := word_len hw'
  rw [List.length_cons, List.length_drop, bl_len] at l2
  obtain ⟨k, t, m, len⟩ := r
  simp only at l1 l2 ⊢
  refine ⟨?_, by omega, l1⟩
  cases f with
  | zero => omega
  | succ f =>
    refine ⟨f, by omega, ?_⟩
    rw [h, Lx.cutF, e]
    simp only
    rw [hw']
    simp only
    have e2 : (s[i] :: (bl s).drop (i + 1)).drop len = (bl s).drop (i + len) := by rw [← bl_drop s hlt, List.drop_drop]
    rw [e2]
    have e3 : ((s.size : Nat) - (s[i] :: (bl s).drop (i + 1)).length : Nat) = i := by rw [List.length_cons, List.length_drop, bl_len]; omega
    cases Lx.cutF s.size f ((bl s).drop (i + len)) with
    | error x => rfl
    | ok x =>
      simp only [mapOk]
      have e4 : ((s.size : Int) - ((s[i] :: (bl s).drop (i + 1)).length : Nat)) = (i : Int) := by rw [List.length_cons, List.length_drop, bl_len]; omega
      rw [e4]
      simp
end Go.Proofs.YtmpdobpnnejmmaaDoor
