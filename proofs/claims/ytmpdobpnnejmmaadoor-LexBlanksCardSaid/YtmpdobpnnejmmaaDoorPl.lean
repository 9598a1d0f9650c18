/- Plain laws of cutting: places, odd bytes, what is joined. No program is walked here. -/
import Derived.Test.YtmpdobpnnejmmaaDoorLg
import Derived.Test.YtmpdobpnnejmmaaDoorLl
namespace Go.Proofs.YtmpdobpnnejmmaaDoor
namespace Lx

/-- Are bytes blanks, or in remarks? -/
def blankB : Bool → Bs → Bool
  | _, [] => true
  | r, c :: l => (fun r2 => (r2 || decide (c = 32) || decide (c = 10)) && blankB r2 l) (decide (c = 35) || (r && !decide (c = 10)))
/-- A word as it stands in the text. -/
def shown (k : Int) (t : Bs) : Bs := if k = 4 then 39 :: t else t

theorem skip_blank : ∀ (r : Bool) (l : Bs), ∃ p, l = p ++ skip r l ∧ blankB r p = true
  | r, [] => ⟨[], by cases r <;> rfl, rfl⟩
  | true, c :: l => by
    by_cases h : c = 10
    · obtain ⟨p, h1, h2⟩ := skip_blank false l
      subst h
      refine ⟨10 :: p, ?_, ?_⟩
      · show 10 :: l = 10 :: (p ++ skip false l)
        rw [← h1]
      · simp [blankB, h2]
    · obtain ⟨p, h1, h2⟩ := skip_blank true l
      refine ⟨c :: p, ?_, ?_⟩
      · have e : skip true (c :: l) = skip true l := by show (if c = 10 then _ else _) = _; rw [if_neg h]
        rw [e, List.cons_append, ← h1]
      · simp [blankB, h, h2]
  | false, c :: l => by
    by_cases h : c = 32 ∨ c = 10
    · obtain ⟨p, h1, h2⟩ := skip_blank false l
      have h35 : c ≠ 35 := by rintro rfl; rcases h with h | h <;> exact absurd h (by decide)
      refine ⟨c :: p, ?_, ?_⟩
      · have e : skip false (c :: l) = skip false l := by show (if _ then _ else _) = _; rw [if_pos h]
        rw [e, List.cons_append, ← h1]
      · rcases h with rfl | rfl <;> simp [blankB, h2]
    · by_cases h2 : c = 35
      · obtain ⟨p, h3, h4⟩ := skip_blank true l
        subst h2
        refine ⟨35 :: p, ?_, ?_⟩
        · show 35 :: l = 35 :: (p ++ skip true l)
          rw [← h3]
        · simp [blankB, h4]
      · refine ⟨[], ?_, rfl⟩
        show c :: l = (if _ then _ else if _ then _ else _)
        rw [if_neg h, if_neg h2]

theorem sign_take {l g : Bs} (h : sign? l = some g) : l.take g.length = g ∧ g ≠ [] ∧ g.length ≤ l.length := by
  obtain ⟨h1, h2⟩ := sign_len h
  have h3 : g.isPrefixOf l = true := List.find?_some (p := fun g => List.isPrefixOf g l) h
  rw [List.isPrefixOf_iff_prefix] at h3
  refine ⟨(List.prefix_iff_eq_take.1 h3).symm, ?_, h2⟩
  rintro rfl
  simp at h1
theorem takeWhile_take (p : UInt8 → Bool) (l : Bs) : l.take (l.takeWhile p).length = l.takeWhile p := (List.prefix_iff_eq_take.1 (List.takeWhile_prefix p)).symm
theorem tagged_ne {t : Bs} (h : tagged t = true) : t ≠ [] := by rintro rfl; cases h
theorem isKey_ne {t : Bs} (h : isKey t = true) : t ≠ [] := by rintro rfl; exact absurd h (by decide)
theorem isType_ne {t : Bs} (h : isType t = true) : t ≠ [] := by rintro rfl; cases h
theorem isName_tagged {t : Bs} (h : isName t = true) : tagged t = true := by unfold isName at h; rw [Bool.and_eq_true] at h; exact h.1
theorem number_ne {t : Bs} (h : 0 ≤ number t) : t ≠ [] := by rintro rfl; exact absurd h (by decide)
/-- What a word is, of the text. -/
theorem word_take {l t : Bs} {k m : Int} {len : Nat} (h : word? l = some (k, t, m, len)) : l.take len = shown k t ∧ len = (shown k t).length ∧ t ≠ [] ∧ len ≤ l.length := by
  unfold word? at h
  cases hs : sign? l with
  | some g =>
    rw [hs] at h
    obtain ⟨rfl, rfl, rfl, rfl⟩ : (6 : Int) = k ∧ g = t ∧ (0 : Int) = m ∧ g.length = len := by simpa using h
    obtain ⟨h1, h2, h3⟩ := sign_take hs
    exact ⟨h1, rfl, h2, h3⟩
  | none =>
    rw [hs] at h
    cases l with
    | nil => cases h
    | cons c l =>
      dsimp only at h
      split at h
      · rename_i hc
        subst hc
        split at h
        · rename_i ht
          obtain ⟨rfl, rfl, rfl, rfl⟩ : (4 : Int) = k ∧ l.takeWhile goes = t ∧ (0 : Int) = m ∧ (l.takeWhile goes).length + 1 = len := by simpa using h
          refine ⟨?_, rfl, tagged_ne ht, ?_⟩
          · rw [List.take_succ_cons, takeWhile_take]; rfl
          · have := takeWhile_le goes l
            simp only [List.length_cons]
            omega
        · cases h
      · have key : ∀ (k' m' : Int), k' ≠ 4 → (c :: l).takeWhile goes ≠ [] → (k', (c :: l).takeWhile goes, m', ((c :: l).takeWhile goes).length) = (k, t, m, len) → (c :: l).take len = shown k t ∧ len = (shown k t).length ∧ t ≠ [] ∧ len ≤ (c :: l).length := by
          intro k' m' hk hne e
          obtain ⟨rfl, rfl, rfl, rfl⟩ : k' = k ∧ (c :: l).takeWhile goes = t ∧ m' = m ∧ ((c :: l).takeWhile goes).length = len := by simpa using e
          have e2 : shown k' ((c :: l).takeWhile goes) = (c :: l).takeWhile goes := if_neg hk
          rw [e2]
          exact ⟨takeWhile_take _ _, rfl, hne, takeWhile_le _ _⟩
        split at h
        · rename_i hk
          exact key 5 0 (by decide) (isKey_ne hk) (Option.some.inj h)
        · split at h
          · rename_i hk
            exact key 1 0 (by decide) (tagged_ne (isName_tagged hk)) (Option.some.inj h)
          · split at h
            · rename_i hk
              exact key 2 0 (by decide) (isType_ne hk) (Option.some.inj h)
            · split at h
              · rename_i hk
                exact key 3 _ (by decide) (number_ne hk) (Option.some.inj h)
              · cases h

/-- Words at their places: what LexPlaces asks, from a place on. -/
def Places (L : Bs) : Nat → List Wd → Prop
  | a, [] => blankB false (L.drop a) = true
  | a, x :: ws => ∃ p : Nat, x.pos = p ∧ a ≤ p ∧ x.text ≠ [] ∧ p + (shown x.kind x.text).length ≤ L.length ∧ (L.drop p).take (shown x.kind x.text).length = shown x.kind x.text ∧ blankB false ((L.drop a).take (p - a)) = true ∧ Places L (p + (shown x.kind x.text).length) ws
theorem cutF_places (L : Bs) : ∀ (f : Nat) (a : Nat) (ws : List Wd), a ≤ L.length → L.length - a < f → cutF L.length f (L.drop a) = .ok ws → Places L a ws
  | 0, a, ws, _, h, _ => absurd h (Nat.not_lt_zero _)
  | f + 1, a, ws, ha, hf, h => by
    unfold cutF at h
    obtain ⟨p, hp1, hp2⟩ := skip_blank false (L.drop a)
    split at h
    · rename_i hs
      injection h with h
      subst h
      rw [hs, List.append_nil] at hp1
      show blankB false (L.drop a) = true
      rw [hp1]
      exact hp2
    · rename_i c r hs
      split at h
      · cases h
      · rename_i k t m len hw
        split at h
        · cases h
        · rename_i ws' hc
          injection h with h
          subst h
          obtain ⟨w1, w2, w3, w4⟩ := word_take hw
          rw [hs] at hp1
          have hl : (L.drop a).length = p.length + (c :: r).length := by rw [hp1, List.length_append]
          rw [List.length_drop] at hl
          have e1 : L.length - (c :: r).length = a + p.length := by omega
          have e2 : L.drop (a + p.length) = c :: r := by
            rw [← List.drop_drop, hp1, List.drop_left]
          have e3 : a + p.length - a = p.length := by omega
          have hlen1 : 1 ≤ (shown k t).length := by
            unfold shown
            cases t with
            | nil => exact absurd rfl w3
            | cons _ _ => split <;> simp
          have hcr : (c :: r).length = L.length - (a + p.length) := by rw [← e2, List.length_drop]
          refine ⟨a + p.length, (by show (L.length : Int) - ((c :: r).length : Int) = _; omega), by omega, w3, ?_, ?_, ?_, ?_⟩
          · show a + p.length + (shown k t).length ≤ L.length
            rw [← w2]
            omega
          · show (L.drop (a + p.length)).take (shown k t).length = shown k t
            rw [e2, ← w2]
            exact w1
          · rw [e3, hp1, List.take_left]
            exact hp2
          · show Places L (a + p.length + (shown k t).length) ws'
            rw [← e2, List.drop_drop, w2] at hc
            exact cutF_places L f _ _ (by omega) (by omega) hc
theorem cut_places {L : Bs} {ws : List Wd} (h : cut L = .ok ws) : Places L 0 ws := cutF_places L _ 0 ws (Nat.zero_le _) (by omega) h
/-- Where an error is. -/
theorem cutF_err : ∀ (n f : Nat) (l : Bs) (e : Nat), 0 < n → l.length ≤ n → cutF n f l = .error e → e < n
  | _, 0, _, _, _, _, h => by cases h
  | n, f + 1, l, e, hn, hl, h => by
    unfold cutF at h
    obtain ⟨p, hp1, _⟩ := skip_blank false l
    split at h
    · cases h
    · rename_i c r hs
      rw [hs] at hp1
      have hlen : l.length = p.length + (c :: r).length := by rw [hp1, List.length_append]
      split at h
      · injection h with h
        subst h
        simp only [List.length_cons] at *
        omega
      · split at h
        · rename_i he
          injection h with h
          subst h
          exact cutF_err n f _ _ hn (by rw [List.length_drop]; omega) he
        · cases h
theorem cut_err_lt {L : Bs} {e : Nat} (h : cut L = .error e) : e < L.length := by
  cases L with
  | nil => cases h
  | cons c l => exact cutF_err _ _ _ _ (by simp) (Nat.le_refl _) h

/-- A byte that stands in no word. -/
structure Odd (o : UInt8) : Prop where
  n32 : o ≠ 32
  n10 : o ≠ 10
  n35 : o ≠ 35
  n39 : o ≠ 39
  ng : goes o = false
  ns : ∀ g ∈ signsL, o ∉ g
theorem skip_odd {o : UInt8} (ho : Odd o) (R : Bs) : ∀ P : Bs, 35 ∉ P → ∃ Q, skip false (P ++ o :: R) = Q ++ o :: R ∧ Q.length ≤ P.length ∧ 35 ∉ Q
  | [], _ => ⟨[], by
    show (if _ then _ else if _ then _ else _) = _
    rw [if_neg (fun h => h.elim ho.n32 ho.n10), if_neg ho.n35]
    rfl, Nat.le_refl _, by simp⟩
  | c :: P, hP => by
    simp only [List.mem_cons, not_or] at hP
    by_cases h : c = 32 ∨ c = 10
    · obtain ⟨Q, h1, h2, h3⟩ := skip_odd ho R P hP.2
      refine ⟨Q, ?_, by simp only [List.length_cons]; omega, h3⟩
      show (if _ then _ else _) = _
      rw [if_pos h]
      exact h1
    · refine ⟨c :: P, ?_, Nat.le_refl _, by simp only [List.mem_cons, not_or]; exact hP⟩
      show (if _ then _ else if _ then _ else _) = _
      rw [if_neg h, if_neg (fun e => hP.1 e.symm)]
      rfl
theorem run_odd {p : UInt8 → Bool} {o : UInt8} (ho : p o = false) (R : Bs) : ∀ P : Bs, ((P ++ o :: R).takeWhile p).length ≤ P.length
  | [] => by simp [ho]
  | c :: P => by
    rw [List.cons_append]
    by_cases h : p c = true
    · rw [List.takeWhile_cons_of_pos h]
      have := run_odd ho R P
      simp only [List.length_cons]
      omega
    · rw [List.takeWhile_cons_of_neg h]
      simp
theorem word_odd {o : UInt8} (ho : Odd o) (R P : Bs) {k m : Int} {t : Bs} {len : Nat} (h : word? (P ++ o :: R) = some (k, t, m, len)) : len ≤ P.length := by
  obtain ⟨w1, w2, w3, w4⟩ := word_take h
  have e := h
  unfold word? at e
  cases hs : sign? (P ++ o :: R) with
  | some g =>
    rw [hs] at e
    obtain ⟨rfl, rfl, rfl, rfl⟩ : (6 : Int) = k ∧ g = t ∧ (0 : Int) = m ∧ g.length = len := by simpa using e
    rcases Nat.lt_or_ge P.length g.length with hlt | hge
    · exfalso
      have hm : o ∈ g := by
        have h5 : g[P.length]? = some o := by
          have h6 := congrArg (·[P.length]?) (sign_take hs).1
          simp only [List.getElem?_take, hlt, if_true, List.getElem?_append_right (Nat.le_refl _), Nat.sub_self, List.getElem?_cons_zero] at h6
          exact h6.symm
        exact List.mem_of_getElem? h5
      exact ho.ns g (List.mem_of_find?_eq_some hs) hm
    · exact hge
  | none =>
    rw [hs] at e
    cases P with
    | nil =>
      have h0 : ([] ++ o :: R : Bs).takeWhile goes = [] := by
        show (o :: R).takeWhile goes = []
        rw [List.takeWhile_cons_of_neg (by rw [ho.ng]; decide)]
      simp only [List.nil_append] at e h0
      rw [if_neg ho.n39, h0] at e
      have e' : (none : Option (Int × Bs × Int × Nat)) = some (k, t, m, len) := e
      cases e'
    | cons c P =>
      simp only [List.cons_append] at e
      have hr := run_odd ho.ng R P
      have hr2 := run_odd ho.ng R (c :: P)
      rw [List.cons_append] at hr2
      split at e
      · split at e
        · obtain ⟨_, _, _, rfl⟩ : (4 : Int) = k ∧ (P ++ o :: R).takeWhile goes = t ∧ (0 : Int) = m ∧ ((P ++ o :: R).takeWhile goes).length + 1 = len := by simpa using e
          simp only [List.length_cons]
          omega
        · cases e
      · have key : ∀ (k' m' : Int), (k', (c :: (P ++ o :: R)).takeWhile goes, m', ((c :: (P ++ o :: R)).takeWhile goes).length) = (k, t, m, len) → len ≤ (c :: P).length := by
          intro k' m' e
          have : ((c :: (P ++ o :: R)).takeWhile goes).length = len := by
            have := congrArg (fun x : Int × Bs × Int × Nat => x.2.2.2) e
            exact this
          omega
        repeat' split at e
        all_goals first | exact key _ _ (Option.some.inj e) | cases e
/-- An odd byte is told at its place, or ahead. -/
theorem cutF_odd {o : UInt8} (ho : Odd o) (R : Bs) (n : Nat) : ∀ (f : Nat) (P : Bs), 35 ∉ P → P.length < f → (P ++ o :: R).length ≤ n → ∃ a, cutF n f (P ++ o :: R) = .error a ∧ a + R.length + 1 ≤ n
  | 0, _, _, h, _ => absurd h (Nat.not_lt_zero _)
  | f + 1, P, h35, hf, hn => by
    obtain ⟨Q, q1, q2, q3⟩ := skip_odd ho R P h35
    unfold cutF
    rw [q1]
    obtain ⟨c, r, hcr⟩ : ∃ c r, Q ++ o :: R = c :: r := by
      cases Q with
      | nil => exact ⟨_, _, rfl⟩
      | cons c Q => exact ⟨_, _, rfl⟩
    have hl : (c :: r).length = Q.length + R.length + 1 := by rw [← hcr]; simp; omega
    have hn2 : P.length + R.length + 1 ≤ n := by simp at hn; omega
    simp only [hcr]
    cases hw : word? (c :: r) with
    | none => exact ⟨_, rfl, by rw [hl]; omega⟩
    | some x =>
      obtain ⟨k, t, m, len⟩ := x
      have hw2 := hw
      rw [← hcr] at hw2
      have hle := word_odd ho R Q hw2
      obtain ⟨_, w2, w3, _⟩ := word_take hw
      have h1 : 1 ≤ len := by
        rw [w2]
        unfold shown
        cases t with
        | nil => exact absurd rfl w3
        | cons _ _ => split <;> simp
      have e : (c :: r).drop len = Q.drop len ++ o :: R := by
        rw [← hcr, List.drop_append_of_le_length hle]
      dsimp only
      rw [e]
      obtain ⟨a, a1, a2⟩ := cutF_odd ho R n f (Q.drop len) (fun h => q3 (List.mem_of_mem_drop h)) (by rw [List.length_drop]; omega) (by simp only [List.length_append, List.length_drop, List.length_cons]; omega)
      rw [a1]
      exact ⟨a, rfl, a2⟩
theorem cut_odd {o : UInt8} (ho : Odd o) (P R : Bs) (h : 35 ∉ P) : ∃ a, cut (P ++ o :: R) = .error a ∧ a ≤ P.length := by
  obtain ⟨a, a1, a2⟩ := cutF_odd ho R (P ++ o :: R).length ((P ++ o :: R).length + 1) P h (by simp; omega) (Nat.le_refl _)
  exact ⟨a, a1, by simp at a2; omega⟩
end Lx
end Go.Proofs.YtmpdobpnnejmmaaDoor
