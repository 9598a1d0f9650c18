/- CacheOld, plainly: all costs the same, the entries stand as they were used. No program is named here. -/
import Derived.Test.YtogedbednfbkmaaGa
namespace Go.Proofs.Ytogedbednfbkmaa
open Go.RowKit Go.Maps

/-- Without one number. -/
def sans (j : Nat) (us : List Nat) : List Nat := us.filter fun x => decide (x ≠ j)
/-- The list, one more used; of five the first goes. -/
def room5 (r : List Nat) : List Nat := if r.length = 5 then r.tail else r
structure Old (k : Int) (c : Cs) (us : List Nat) : Prop where
  ok : Ok c
  keys : c.S.map En.key = us.map keyB
  lt : ∀ j ∈ us, j < 12
  few : us.length ≤ 5
  room : c.room = 50
  ent : ∀ e ∈ c.S, c.level ≤ e.worth ∧ e.worth ≤ c.level + k ∧ e.cost = k ∧ szE e = 10
section
variable {k : Int} {c : Cs} {us : List Nat} {j : Nat}
theorem Old.len (h : Old k c us) : c.S.length = us.length := by
  have := congrArg List.length h.keys
  simpa using this
theorem Old.nodup (h : Old k c us) : us.Nodup := by
  have h1 := h.ok.gd.once
  rw [h.keys] at h1
  exact (List.pairwise_map.1 h1).imp (fun hne e => hne (congrArg keyB e))
theorem mem_keys (h : ∀ j ∈ us, j < 12) (hj : j < 12) : keyB j ∈ us.map keyB ↔ j ∈ us := by
  constructor
  · intro hm
    obtain ⟨i, hi, e⟩ := List.mem_map.1 hm
    rw [← keyB_inj (h i hi) hj e]; exact hi
  · exact fun hm => List.mem_map.2 ⟨j, hm, rfl⟩
theorem Old.has (h : Old k c us) (hj : j < 12) : hasE (keyB j) c.S = decide (j ∈ us) := by
  have h1 : hasE (keyB j) c.S = true ↔ j ∈ us := by rw [hasE_iff, h.keys]; exact mem_keys h.lt hj
  cases e : hasE (keyB j) c.S with
  | true => exact (decide_eq_true (h1.1 e)).symm
  | false => exact (decide_eq_false (fun hm => by rw [h1.2 hm] at e; cases e)).symm
theorem outE_keys : ∀ {S : List En} {us : List Nat}, S.map En.key = us.map keyB → (∀ i ∈ us, i < 12) → j < 12 → (outE (keyB j) S).map En.key = (sans j us).map keyB
  | [], [], _, _, _ => rfl
  | [], _ :: _, h, _, _ => by cases h
  | _ :: _, [], h, _, _ => by cases h
  | x :: S, i :: us, h, hl, hj => by
    rw [List.map_cons, List.map_cons] at h
    injection h with h1 h2
    have ih := outE_keys h2 (fun i hi => hl i (by simp [hi])) hj
    unfold outE sans at *
    rw [List.filter_cons, List.filter_cons]
    by_cases e : i = j
    · subst e
      rw [if_neg (by simp [h1]), if_neg (by simp)]
      exact ih
    · have : x.key ≠ keyB j := fun e2 => e (keyB_inj (hl i (by simp)) hj (h1.symm.trans e2))
      rw [if_pos (by simp [this]), if_pos (by simp [e]), List.map_cons, List.map_cons, ih, h1]
theorem insE_last (x : En) : ∀ S : List En, (∀ e ∈ S, ltE e x = true) → insE x S = S ++ [x]
  | [], _ => rfl
  | y :: S, h => by
    unfold insE
    rw [if_pos (h y (by simp)), insE_last x S (fun e he => h e (by simp [he]))]
    rfl
theorem szS_ten : ∀ S : List En, (∀ e ∈ S, szE e = 10) → szS S = 10 * S.length
  | [], _ => rfl
  | y :: S, h => by
    rw [szS_cons, h y (by simp), szS_ten S (fun e he => h e (by simp [he])), List.length_cons]; omega
/-- What is used stands last. -/
theorem use_last {c : Cs} {e : En} {T : List En} {us : List Nat} (hok : Ok (useE c e T)) (hu : 0 ≤ c.uses) (hk0 : 0 ≤ k) (hkey : e.key = keyB j) (hj : j < 12) (hl : ∀ i ∈ us, i < 12) (hfew : us.length ≤ 4) (hroom : c.room = 50) (hcost : e.cost = k) (hsz : szE e = 10)
    (hT : T.map En.key = us.map keyB) (hent : ∀ y ∈ T, c.level ≤ y.worth ∧ y.worth ≤ c.level + k ∧ y.cost = k ∧ szE y = 10 ∧ y.used ≤ c.uses) : Old k (useE c e T) (us ++ [j]) := by
  have hS : (useE c e T).S = T ++ [{ e with worth := c.level + e.cost, used := c.uses + 1 }] := insE_last _ _ (fun y hy => by
    have := hent y hy
    simp only [ltE, decide_eq_true_eq]
    omega)
  refine ⟨hok, ?_, fun i hi => ?_, by simp; omega, hroom, fun y hy => ?_⟩
  · rw [hS, List.map_append, List.map_append, hT]; simp [hkey]
  · rcases List.mem_append.1 hi with h | h
    · exact hl i h
    · simp at h; rw [h]; exact hj
  · rw [hS] at hy
    rcases List.mem_append.1 hy with h | h
    · have := hent y h; exact ⟨this.1, this.2.1, this.2.2.1, this.2.2.2.1⟩
    · simp at h
      subst h
      exact ⟨by show c.level ≤ c.level + e.cost; omega, by show c.level + e.cost ≤ c.level + k; omega, hcost, hsz⟩
theorem sans_len (hn : us.Nodup) : (sans j us).length + (if j ∈ us then 1 else 0) = us.length := by
  induction us with
  | nil => rfl
  | cons a us ih =>
    have hn' := List.nodup_cons.1 hn
    have := ih hn'.2
    unfold sans at *
    rw [List.filter_cons]
    by_cases e : a = j
    · subst e
      rw [if_neg (by simp), if_pos (by simp)]
      rw [if_neg hn'.1] at this
      simp only [List.length_cons]; omega
    · rw [if_pos (by simp [e])]
      have h1 : (j ∈ a :: us) ↔ j ∈ us := by simp [Ne.symm e]
      simp only [h1, List.length_cons]; omega
theorem sans_lt (h : ∀ i ∈ us, i < 12) : ∀ i ∈ sans j us, i < 12 := fun i hi => h i (List.mem_filter.1 hi).1
theorem sans_self (h : j ∉ us) : sans j us = us := by
  unfold sans
  rw [List.filter_eq_self]
  intro a ha
  have : a ≠ j := fun e => h (e ▸ ha)
  simp [this]
theorem sans_last {r : List Nat} (h : j ∉ r) : sans j (r ++ [j]) = r := by
  unfold sans
  rw [List.filter_append]
  have := sans_self h
  unfold sans at this
  rw [this]
  simp
theorem not_room5 : j ∉ room5 (sans j us) := fun h => by
  unfold room5 at h
  split at h
  · exact absurd ((List.mem_filter.1 (List.mem_of_mem_tail h)).2) (by simp)
  · exact absurd ((List.mem_filter.1 h).2) (by simp)
theorem not_sans : j ∉ sans j us := fun h => by
  have := (List.mem_filter.1 h).2
  simp at this
theorem Old.some_ (h : Old k c us) (hj : j < 12) (hm : j ∈ us) : ∃ x, getE (keyB j) c.S = some x := by
  have hhas : hasE (keyB j) c.S = true := by rw [h.has hj]; exact decide_eq_true hm
  cases hg : getE (keyB j) c.S with
  | none => rw [getE_none_has hg] at hhas; cases hhas
  | some x => exact ⟨x, rfl⟩
/-- An entry that is got: it stands last. -/
theorem Old.get (h : Old k c us) (hk0 : 0 ≤ k) (hj : j < 12) (hm : j ∈ us) {x : En} (hg : getE (keyB j) c.S = some x) (hok : Ok (getC c (keyB j)).2) : Old k (getC c (keyB j)).2 (sans j us ++ [j]) ∧ (getC c (keyB j)).2.uses = c.uses + 1 ∧ (getC c (keyB j)).2.missed = c.missed := by
  obtain ⟨hx, hkey⟩ := getE_some hg
  have e : (getC c (keyB j)).2 = useE { c with found := c.found + 1 } x (outE (keyB j) c.S) := by unfold getC; rw [hg]
  rw [e] at hok ⊢
  have hl := sans_len (j := j) h.nodup
  rw [if_pos hm] at hl
  have hfew := h.few
  obtain ⟨x1, x2, x3, x4⟩ := h.ent x hx
  have hu := h.ok.thr
  refine ⟨?_, rfl, rfl⟩
  exact use_last (k := k) hok (by show 0 ≤ c.uses; omega) hk0 hkey hj (sans_lt h.lt) (by omega) h.room x3 x4 (outE_keys h.keys h.lt hj) (fun y hy => by
    obtain ⟨h1, _⟩ := mem_outE.1 hy
    obtain ⟨y1, y2, y3, y4⟩ := h.ent y h1
    exact ⟨y1, y2, y3, y4, (h.ok.gd.ok y h1).2.2.2.2.2.2.2⟩)
/-- An entry that is put: it stands last; of five others the first goes. -/
theorem Old.put (h : Old k c us) (hk : 0 ≤ k ∧ k ≤ 1000000) (hj : j < 12) {v : List Int} (hv : v.length = 8) (hok : Ok (putC c (keyB j) v k).2) : (putC c (keyB j) v k).1 = 0 ∧ Old k (putC c (keyB j) v k).2 (room5 (sans j us) ++ [j]) ∧ (putC c (keyB j) v k).2.uses = c.uses + 1 ∧ (putC c (keyB j) v k).2.missed = c.missed := by
  have hb : badE (keyB j) k = false := decide_eq_false (by show ¬ ((2 : Nat) = 0 ∨ 200 < 2 ∨ k < 0 ∨ 1000000 < k); omega)
  have hr : ¬ ((keyB j).size + v.length : Int) > c.room := by rw [hv, h.room]; show ¬ (((2 : Nat) : Int) + ((8 : Nat) : Int) > 50); omega
  have hkv : ((keyB j).size + v.length : Int) = 10 := by rw [hv]; rfl
  have hT := outE_keys h.keys h.lt hj
  have hTe : ∀ y ∈ outE (keyB j) c.S, c.level ≤ y.worth ∧ y.worth ≤ c.level + k ∧ y.cost = k ∧ szE y = 10 ∧ y.used ≤ c.uses := fun y hy => by
    obtain ⟨h1, _⟩ := mem_outE.1 hy
    obtain ⟨y1, y2, y3, y4⟩ := h.ent y h1
    exact ⟨y1, y2, y3, y4, (h.ok.gd.ok y h1).2.2.2.2.2.2.2⟩
  have hTs := outE_srt (k := keyB j) h.ok.gd.srt
  have hu := h.ok.thr
  have hl := sans_len (j := j) h.nodup
  have hfew := h.few
  have hlt := sans_lt (j := j) h.lt
  have hlenT : (outE (keyB j) c.S).length = (sans j us).length := by have := congrArg List.length hT; simpa using this
  have e : putC c (keyB j) v k = (0, useE { c with level := (evict c.room 10 c.level c.thrown (outE (keyB j) c.S)).1, thrown := (evict c.room 10 c.level c.thrown (outE (keyB j) c.S)).2.1 } ⟨keyB j, v, k, 0, 0⟩ (evict c.room 10 c.level c.thrown (outE (keyB j) c.S)).2.2) := by
    unfold putC
    rw [if_neg (by rw [hb]; simp), if_neg hr, hkv]
  rw [e] at hok ⊢
  refine ⟨rfl, ?_, rfl, rfl⟩
  have hvs : szE (⟨keyB j, v, k, 0, 0⟩ : En) = 10 := by show 2 + v.length = 10; rw [hv]
  have hsum := szS_ten (outE (keyB j) c.S) (fun y hy => (hTe y hy).2.2.2.1)
  generalize outE (keyB j) c.S = T at *
  generalize sans j us = r at *
  have hr5 : r.length ≤ 5 := by omega
  by_cases h5 : r.length = 5
  · cases T with
    | nil => simp at hlenT; omega
    | cons x T =>
      cases r with
      | nil => simp at h5
      | cons i r =>
        rw [List.map_cons, List.map_cons] at hT
        injection hT with _ hT
        obtain ⟨x1, x2, _⟩ := hTe x (by simp)
        have hs' := List.pairwise_cons.1 hTs
        have hT4 : T.length = 4 := by simp at hlenT h5; omega
        have hsum4 := szS_ten T (fun y hy => (hTe y (by simp [hy])).2.2.2.1)
        have ev : evict c.room 10 c.level c.thrown (x :: T) = (x.worth, c.thrown + 1, T) := by
          rw [evict, if_pos (by rw [hsum, h.room]; simp [hT4])]
          cases T with
          | nil => rfl
          | cons y T => rw [evict, if_neg (by rw [hsum4, h.room, hT4]; omega)]
        rw [ev] at hok ⊢
        have er : room5 (i :: r) = r := by unfold room5; rw [if_pos h5]; rfl
        rw [er]
        exact use_last (k := k) hok (by show 0 ≤ c.uses; omega) hk.1 rfl hj (fun i hi => hlt i (by simp [hi])) (by simp at h5; omega) h.room rfl hvs hT (fun y hy => by
          obtain ⟨y1, y2, y3, y4, y5⟩ := hTe y (by simp [hy])
          have hxy := hs'.1 y hy
          simp only [ltE, decide_eq_true_eq] at hxy
          exact ⟨by show x.worth ≤ y.worth; omega, by show y.worth ≤ x.worth + k; omega, y3, y4, y5⟩)
  · have ev : evict c.room 10 c.level c.thrown T = (c.level, c.thrown, T) := by
      cases T with
      | nil => rfl
      | cons y T => rw [evict, if_neg (by rw [hsum, h.room, hlenT]; omega)]
    rw [ev] at hok ⊢
    have er : room5 r = r := by unfold room5; rw [if_neg h5]
    rw [er]
    exact use_last (k := k) hok (by show 0 ≤ c.uses; omega) hk.1 rfl hj hlt (by omega) h.room rfl hvs hT hTe
theorem take_drop_sans : ∀ {us : List Nat} {n : Nat} (hn : us.Nodup) (h : n < us.length), us[n] = j → us.take n ++ us.drop (n + 1) = sans j us
  | a :: us, 0, hn, h, e => by
    have hn' := List.nodup_cons.1 hn
    simp at e
    subst e
    unfold sans
    rw [List.filter_cons, if_neg (by simp)]
    have := sans_self hn'.1
    unfold sans at this
    rw [this]; rfl
  | a :: us, n + 1, hn, h, e => by
    have hn' := List.nodup_cons.1 hn
    have ih := take_drop_sans (n := n) hn'.2 (by simpa using h) (by simpa using e)
    have hne : a ≠ j := fun e2 => hn'.1 (by rw [e2, ← e]; exact List.getElem_mem _)
    unfold sans at *
    rw [List.filter_cons, if_pos (by simp [hne]), ← ih]; rfl
end
end Go.Proofs.Ytogedbednfbkmaa
