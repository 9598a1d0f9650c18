/- Heaps as lists, plainly: what swapping up and down does. No program is named here. -/
namespace Go.Proofs.Ytogedbednfbkmaa

section
variable {α : Type}

theorem perm_swap_aux (L : List α) : ∀ (i k : Nat) (hi : i < L.length) (hk : k < L.length), i < k → ((L.set i (L[k]'hk)).set k (L[i]'hi)).Perm L := by
  induction L with
  | nil => intro i k hi; simp at hi
  | cons a L ih =>
    intro i k hi hk hlt
    cases k with
    | zero => omega
    | succ k =>
      cases i with
      | zero =>
        simp only [List.set_cons_zero, List.set_cons_succ, List.getElem_cons_succ, List.getElem_cons_zero]
        have hk' : k < L.length := by simpa using hk
        have h1 : (L.set k a).Perm (a :: L.eraseIdx k) := by
          rw [List.set_eq_take_append_cons_drop, if_pos hk', List.eraseIdx_eq_take_drop_succ]
          exact List.perm_middle
        have h2 : L.Perm (L[k] :: L.eraseIdx k) := by
          rw [List.eraseIdx_eq_take_drop_succ]
          have : L = L.take k ++ L[k] :: L.drop (k + 1) := by rw [← List.drop_eq_getElem_cons hk', List.take_append_drop]
          conv => lhs; rw [this]
          exact List.perm_middle
        exact (List.Perm.cons _ h1).trans ((List.Perm.swap _ _ _).trans (List.Perm.cons _ h2.symm))
      | succ i =>
        simp only [List.set_cons_succ, List.getElem_cons_succ]
        exact List.Perm.cons _ (ih i k (by simpa using hi) (by simpa using hk) (by omega))
/-- A strict order that is total. -/
structure Ord (lt : α → α → Bool) : Prop where
  irr : ∀ x, lt x x = false
  tr : ∀ x y z, lt x y = true → lt y z = true → lt x z = true
  tot : ∀ x y z, lt x z = true → lt x y = true ∨ lt y z = true
/-- Not after. -/
def Le (lt : α → α → Bool) (x y : α) : Prop := lt y x = false
variable {lt : α → α → Bool}
theorem Le.trans (O : Ord lt) {x y z : α} (h : Le lt x y) (h' : Le lt y z) : Le lt x z := by
  unfold Le at *
  cases hz : lt z x with
  | false => rfl
  | true =>
    rcases O.tot z y x hz with h1 | h1
    · rw [h'] at h1; cases h1
    · rw [h] at h1; cases h1
theorem Le.of_lt (O : Ord lt) {x y : α} (h : lt x y = true) : Le lt x y := by
  unfold Le
  cases hz : lt y x with
  | false => rfl
  | true => have := O.tr x y x h hz; rw [O.irr] at this; cases this
theorem Le.refl (O : Ord lt) (x : α) : Le lt x x := O.irr x

variable [Inhabited α]

def sw (L : List α) (i k : Nat) : List α := (L.set i (L.getD k default)).set k (L.getD i default)
theorem sw_length (L : List α) (i k : Nat) : (sw L i k).length = L.length := by simp [sw]
theorem sw_at (L : List α) (i k j : Nat) (hi : i < L.length) (hk : k < L.length) : (sw L i k).getD j default = if j = i then L.getD k default else if j = k then L.getD i default else L.getD j default := by
  simp only [sw, List.getD_eq_getElem?_getD]
  by_cases h1 : j = k
  · subst h1
    rw [List.getElem?_set_self (by simpa using hk)]
    by_cases h2 : j = i
    · subst h2; simp
    · simp [h2]
  · rw [List.getElem?_set_ne (fun e => h1 e.symm)]
    by_cases h2 : j = i
    · subst h2
      rw [List.getElem?_set_self hi]; simp
    · rw [List.getElem?_set_ne (fun e => h2 e.symm)]; simp [h1, h2]

theorem sw_perm (L : List α) (i k : Nat) (hi : i < L.length) (hk : k < L.length) : (sw L i k).Perm L := by
  have e1 : L.getD k default = L[k] := by simp [List.getD_eq_getElem?_getD, hk]
  have e2 : L.getD i default = L[i] := by simp [List.getD_eq_getElem?_getD, hi]
  unfold sw
  rw [e1, e2]
  rcases Nat.lt_trichotomy i k with h | h | h
  · exact perm_swap_aux L i k hi hk h
  · subst h
    rw [List.set_set]
    have : L.set i L[i] = L := List.set_getElem_self hi
    rw [this]
  · rw [List.set_comm _ _ (by omega)]
    exact perm_swap_aux L k i hk hi h

def at_ (L : List α) (i : Nat) : α := L.getD i default
/-- Just the edges that meet p are told to be in order. -/
def Edges (lt : α → α → Bool) (L : List α) (n : Nat) (p : Nat → Prop) : Prop := ∀ k, 0 < k → k < n → p k → Le lt (at_ L ((k - 1) / 2)) (at_ L k)
/-- The first n are a heap. -/
def Heap (lt : α → α → Bool) (L : List α) (n : Nat) : Prop := Edges lt L n fun _ => True
/-- What lies below i is not ahead of what lies above it. -/
def Over (lt : α → α → Bool) (L : List α) (n i : Nat) : Prop := ∀ c, 0 < i → i < c → c < n → (c - 1) / 2 = i → Le lt (at_ L ((i - 1) / 2)) (at_ L c)
/-- All is in order but what i is to what lies above it. -/
def UpI (lt : α → α → Bool) (L : List α) (n i : Nat) : Prop := Edges lt L n (fun k => k ≠ i) ∧ Over lt L n i
/-- All is in order but what has to do with i. -/
def Bad (lt : α → α → Bool) (L : List α) (n i : Nat) : Prop := Edges lt L n (fun k => k ≠ i ∧ (k - 1) / 2 ≠ i) ∧ Over lt L n i
/-- .. from i0 on, at i. -/
def DownI (lt : α → α → Bool) (L : List α) (n i0 i : Nat) : Prop := Edges lt L n (fun k => ¬ (k = i0 ∧ i = i0) ∧ (k - 1) / 2 ≠ i) ∧ Over lt L n i

theorem at_sw (L : List α) (i k j : Nat) (hi : i < L.length) (hk : k < L.length) : at_ (sw L i k) j = if j = i then at_ L k else if j = k then at_ L i else at_ L j := sw_at L i k j hi hk

theorem upI_stop (_O : Ord lt) {L : List α} {n j : Nat} (h : UpI lt L n j) (hs : (j - 1) / 2 = j ∨ Le lt (at_ L ((j - 1) / 2)) (at_ L j)) : Heap lt L n := by
  intro k h0 hk _
  by_cases e : k = j
  · subst e
    rcases hs with hs | hs
    · omega
    · exact hs
  · exact h.1 k h0 hk e

theorem upI_step (O : Ord lt) {L : List α} {n j : Nat} (h : UpI lt L n j) (hn : n ≤ L.length) (hj : j < n) (h0 : 0 < j) (hl : lt (at_ L j) (at_ L ((j - 1) / 2)) = true) : UpI lt (sw L ((j - 1) / 2) j) n ((j - 1) / 2) := by
  generalize hp : (j - 1) / 2 = p at *
  have hpj : p < j := by omega
  have hs := fun x => at_sw L p j x (by omega) (by omega)
  have hlt := Le.of_lt O hl
  refine ⟨fun k k0 kn kp => ?_, fun c p0 pc cn cp => ?_⟩
  · rw [hs, hs]
    by_cases e1 : k = j
    · subst e1
      rw [hp, if_pos rfl, if_neg (by omega), if_pos rfl]
      exact hlt
    · by_cases e2 : (k - 1) / 2 = p
      · rw [e2, if_pos rfl, if_neg kp, if_neg e1]
        have := h.1 k k0 kn e1
        rw [e2] at this
        exact Le.trans O hlt this
      · by_cases e3 : (k - 1) / 2 = j
        · rw [e3, if_neg (by omega), if_pos rfl, if_neg kp, if_neg e1]
          have := h.2 k h0 (by omega) kn e3
          rw [hp] at this
          exact this
        · rw [if_neg e2, if_neg e3, if_neg kp, if_neg e1]
          exact h.1 k k0 kn e1
  · rw [hs, hs]
    have hpp : (p - 1) / 2 < p := by omega
    rw [if_neg (by omega), if_neg (by omega), if_neg (by omega)]
    have hpe := h.1 p p0 (by omega) (by omega)
    by_cases e : c = j
    · rw [if_pos e]
      exact hpe
    · rw [if_neg e]
      have := h.1 c (by omega) cn e
      rw [cp] at this
      exact Le.trans O hpe this

theorem downI_start {L : List α} {n i : Nat} (h : Bad lt L n i) : DownI lt L n i i :=
  ⟨fun k h0 hk hp => h.1 k h0 hk ⟨fun e => hp.1 ⟨e, rfl⟩, hp.2⟩, h.2⟩

/-- The stop: what lies below i is not ahead of it. -/
theorem downI_stop {L : List α} {n i0 i : Nat} (h : DownI lt L n i0 i) (hc : ∀ c, 0 < c → c < n → (c - 1) / 2 = i → Le lt (at_ L i) (at_ L c)) :
    (i ≠ i0 → Heap lt L n) ∧ (i = i0 → UpI lt L n i0) := by
  refine ⟨fun e k h0 hk _ => ?_, fun e => ⟨fun k h0 hk hp => ?_, e ▸ h.2⟩⟩
  · by_cases e2 : (k - 1) / 2 = i
    · rw [e2]; exact hc k h0 hk e2
    · exact h.1 k h0 hk ⟨fun x => e x.2, e2⟩
  · by_cases e2 : (k - 1) / 2 = i
    · rw [e2]; exact hc k h0 hk e2
    · exact h.1 k h0 hk ⟨fun x => hp x.1, e2⟩

theorem downI_step (O : Ord lt) {L : List α} {n i0 i j : Nat} (h : DownI lt L n i0 i) (hn : n ≤ L.length) (hi : i0 ≤ i) (hj : j < n) (hp : (j - 1) / 2 = i) (h0 : 0 < j)
    (hl : lt (at_ L j) (at_ L i) = true) (hmin : ∀ c, 0 < c → c < n → (c - 1) / 2 = i → Le lt (at_ L j) (at_ L c)) : DownI lt (sw L i j) n i0 j := by
  have hij : i < j := by omega
  have hs := fun x => at_sw L i j x (by omega) (by omega)
  have hlt := Le.of_lt O hl
  refine ⟨fun k k0 kn kp => ?_, fun c p0 pc cn cp => ?_⟩
  · obtain ⟨k1, k2⟩ := kp
    rw [hs, hs]
    by_cases e1 : (k - 1) / 2 = i
    · rw [if_pos e1]
      by_cases e2 : k = j
      · rw [if_neg (by omega), if_pos e2]; exact hlt
      · rw [if_neg (by omega), if_neg e2]; exact hmin k k0 kn e1
    · rw [if_neg e1, if_neg k2]
      by_cases e2 : k = i
      · rw [if_pos e2]
        subst e2
        exact h.2 j k0 hij hj hp
      · rw [if_neg e2, if_neg (by intro e; subst e; exact e1 hp)]
        exact h.1 k k0 kn ⟨fun x => e2 (x.1.trans x.2.symm), e1⟩
  · rw [hs, hs, hp, if_pos rfl, if_neg (by omega), if_neg (by omega)]
    have := h.1 c (by omega) cn ⟨fun x => by omega, by omega⟩
    rw [cp] at this
    exact this
end
end Go.Proofs.Ytogedbednfbkmaa
