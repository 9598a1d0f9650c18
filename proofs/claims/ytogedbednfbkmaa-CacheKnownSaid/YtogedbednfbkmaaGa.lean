/- A cache beside local arrays: the other calls; CacheTrue, plainly. Conditions: those that each theorem names. -/
import Derived.Test.YtogedbednfbkmaaFa
import Derived.Test.YtogedbednfbkmaaCa
namespace Go.Proofs.Ytogedbednfbkmaa
open Go.RowKit Go.Maps

section
variable {X Y : Nat → Prop} {B cb : Nat} {w0 w w' : World} {c c' : Cs}
theorem RdB.kp {S : Nat → Prop} {A : Option Addr} {n cc : Nat} {xs : List Int} (h : RdB w A n cc xs) (hk : Kp S w w') (hn : ∀ p, A = some p → ¬ S p.block) : RdB w' A n cc xs :=
  ⟨h.len, h.nil, fun h0 => by
    obtain ⟨b, off, e, hc⟩ := h.cells h0
    exact ⟨b, off, e, fun j hj => hk.cell (hc j hj) (show ¬ S b from hn ⟨b, off, none⟩ e)⟩⟩
theorem Hc.get_no (h : Hc X B w0 w cb c) (hX : ∀ q, X q → q < w.heap.size) {k : ByteArray} (hk : k.size ≤ maxLen) (hs : Small c) (hg : getE k c.S = none) :
    Calls Try.prog 13 #[.pointer (some ⟨cb, 0, none⟩), .string k] w fun e w' => e = .returned (.tuple #[.slice none 0 0, .bool false]) ∧ Hc X B w0 w' cb (getC c k).2 ∧ Kp (fun q => ¬ X q) w w' := by
  obtain ⟨F, h1, h2⟩ := h.isC
  exact (Go.Proofs.Ytogedbednfbkmaa.get_no h1 hk hs hg).mono fun e w' ⟨he, hl⟩ => ⟨he, h.left h2 hX hl⟩
theorem Hc.get_yes (h : Hc X B w0 w cb c) (hX : ∀ q, X q → q < w.heap.size) {k : ByteArray} {x : En} (hk : k.size ≤ maxLen) (hs : Small c) (hg : getE k c.S = some x) :
    Calls Try.prog 13 #[.pointer (some ⟨cb, 0, none⟩), .string k] w fun e w' => ∃ A c', e = .returned (.tuple #[.slice A x.val.length c', .bool true]) ∧ RdB w' A x.val.length c' x.val ∧ Hc X B w0 w' cb (getC c k).2 ∧ Kp (fun q => ¬ X q) w w' := by
  obtain ⟨F, h1, h2⟩ := h.isC
  refine (Go.Proofs.Ytogedbednfbkmaa.get_yes h1 hk hs hg).mono fun e w' ⟨v, he, ⟨B', A, c', hv, hB, hown, hI⟩, hkp⟩ => ?_
  subst hv
  obtain ⟨A2, c2, h3, _, h4⟩ := (Vl.of_own hown rfl).rd
  injection h3 with h5 h6 h7
  subst h5 h7
  exact ⟨A, c', he, h4, h.left h2 hX ⟨hI.mono (fun q hq _ => hq.1), hkp⟩⟩
theorem Hc.drop (h : Hc X B w0 w cb c) (hX : ∀ q, X q → q < w.heap.size) (k : ByteArray) (hk : k.size ≤ maxLen) : Calls Try.prog 21 #[.pointer (some ⟨cb, 0, none⟩), .string k] w fun e w' => e = .returned (.bool (dropC c k).1) ∧ Hc X B w0 w' cb (dropC c k).2 ∧ Kp (fun q => ¬ X q) w w' := by
  obtain ⟨F, h1, h2⟩ := h.isC
  exact (drop_c h1 k hk).mono fun e w' ⟨he, hl⟩ => ⟨he, h.left h2 hX hl⟩
theorem Hc.level (h : Hc X B w0 w cb c) : Calls Try.prog 28 #[.pointer (some ⟨cb, 0, none⟩)] w fun e w' => e = .returned (.int .i64 c.level) ∧ w = w' := by
  obtain ⟨F, h1, h2⟩ := h.isC
  exact level_is h1
theorem eqbytes_c {A A' : Option Addr} {n m cc cc' : Nat} {xs : List Int} (h : RdB w A n cc xs) (h' : RdB w A' m cc' xs) : Calls Try.prog 29 #[.slice A n cc, .slice A' m cc'] w fun e w' => e = .returned (.bool true) ∧ w = w' := by
  have q1 := conv_rd h
  have q2 := conv_rd h'
  go_enter Try.func29, Try.ntmps29
  go_wp2
  go_ret
  exact ⟨by simp, rfl⟩
end

/-- Twelve slices of bytes in a local array; their blocks are among X. -/
structure Lasts (X : Nat → Prop) (w : World) (tb : Nat) (vals : Nat → List Int) : Prop where
  is_ : ∃ fv, Fn w tb 59 12 fv ∧ ∀ j, j < 12 → ∃ A n cc, fv j = .slice A n cc ∧ RdB w A n cc (vals j) ∧ ∀ p, A = some p → X p.block ∧ p.block ≠ tb
section
variable {X Y : Nat → Prop} {tb : Nat} {w w' : World} {vals : Nat → List Int}
theorem Lasts.kp (h : Lasts X w tb vals) (hk : Kp (fun q => ¬ X q) w w') (ht : X tb) : Lasts X w' tb vals := by
  obtain ⟨fv, h1, h2⟩ := h.is_
  refine ⟨fv, h1.kp hk (fun n => n ht), fun j hj => ?_⟩
  obtain ⟨A, n, cc, e, h3, h4⟩ := h2 j hj
  exact ⟨A, n, cc, e, h3.kp hk (fun p hp n => n (h4 p hp).1), h4⟩
theorem Lasts.below (h : Lasts X w tb vals) (hb : Below w.heap.size w w') (hs : ∀ q, X q → Y q) : Lasts Y w' tb vals := by
  obtain ⟨fv, h1, h2⟩ := h.is_
  refine ⟨fv, h1.below hb, fun j hj => ?_⟩
  obtain ⟨A, n, cc, e, h3, h4⟩ := h2 j hj
  exact ⟨A, n, cc, e, h3.below hb, fun p hp => ⟨hs _ (h4 p hp).1, (h4 p hp).2⟩⟩
theorem Lasts.set_ (h : Lasts X w tb vals) {j n cc : Nat} {A : Option Addr} {xs : List Int} (h3 : RdB w A n cc xs) (h4 : ∀ p, A = some p → X p.block ∧ p.block ≠ tb) : Lasts X (w.setCell ⟨tb, j, none⟩ (.slice A n cc)) tb (fun k => if k = j then xs else vals k) := by
  obtain ⟨fv, h1, h2⟩ := h.is_
  have hk := (Kp.refl (fun q => q = tb) w).setCell (p := ⟨tb, j, none⟩) (.inl rfl) (.slice A n cc)
  refine ⟨_, h1.set_ j _, fun k hk12 => ?_⟩
  by_cases e : k = j
  · subst e
    simp only [if_pos]
    exact ⟨A, n, cc, rfl, h3.kp hk (fun p hp => (h4 p hp).2), h4⟩
  · simp only [if_neg e]
    obtain ⟨A2, n2, c2, e2, h6, h7⟩ := h2 k hk12
    exact ⟨A2, n2, c2, e2, h6.kp hk (fun p hp => (h7 p hp).2), h7⟩
end

/-! ### plainly -/
/-- The level is below each worth; each entry's value is what was put last. -/
structure Tr (c : Cs) (vals : Nat → List Int) : Prop where
  low : ∀ e ∈ c.S, c.level ≤ e.worth
  vals : ∀ e ∈ c.S, ∃ j, j < 12 ∧ e.key = keyB j ∧ e.val = vals j
theorem evict_low (room n : Int) : ∀ (lv th : Int) (S : List En), SrtE S → (∀ e ∈ S, lv ≤ e.worth) → lv ≤ (evict room n lv th S).1 ∧ ∀ e ∈ (evict room n lv th S).2.2, (evict room n lv th S).1 ≤ e.worth
  | lv, th, [], _, _ => ⟨Int.le_refl _, fun e he => by cases he⟩
  | lv, th, x :: S, hs, hl => by
    unfold evict
    split
    · have h' := List.pairwise_cons.1 hs
      obtain ⟨i1, i2⟩ := evict_low room n x.worth (th + 1) S h'.2 (fun e he => by
        have := h'.1 e he
        simp only [ltE, decide_eq_true_eq] at this
        omega)
      exact ⟨Int.le_trans (hl x (by simp)) i1, i2⟩
    · exact ⟨Int.le_refl _, hl⟩
theorem tr_put {c : Cs} {vals : Nat → List Int} {j : Nat} {v : List Int} {cost : Int} (h : Tr c vals) (ho : Ok c) (hj : j < 12) (hb : badE (keyB j) cost = false) (hc : 0 ≤ cost) (hr : ¬ ((keyB j).size + v.length : Int) > c.room) :
    (putC c (keyB j) v cost).1 = 0 ∧ Tr (putC c (keyB j) v cost).2 (fun k => if k = j then v else vals k) ∧ c.level ≤ (putC c (keyB j) v cost).2.level ∧ hasE (keyB j) (putC c (keyB j) v cost).2.S = true := by
  unfold putC
  rw [if_neg (by rw [hb]; simp), if_neg hr]
  have hlow := evict_low c.room ((keyB j).size + v.length) c.level c.thrown (outE (keyB j) c.S) (outE_srt ho.gd.srt) (fun e he => h.low e (mem_outE.1 he).1)
  obtain ⟨P, e⟩ := evict_suffix c.room ((keyB j).size + v.length) c.level c.thrown (outE (keyB j) c.S)
  refine ⟨rfl, ⟨fun y hy => ?_, fun y hy => ?_⟩, hlow.1, hasE_iff.2 (List.mem_map.2 ⟨_, (insE_perm _ _).mem_iff.2 (List.mem_cons.2 (.inl rfl)), rfl⟩)⟩
  · rcases List.mem_cons.1 ((insE_perm _ _).mem_iff.1 hy) with h1 | h1
    · rw [h1]
      show (evict c.room ((keyB j).size + v.length) c.level c.thrown (outE (keyB j) c.S)).1 ≤ (evict c.room ((keyB j).size + v.length) c.level c.thrown (outE (keyB j) c.S)).1 + cost
      omega
    · exact hlow.2 y h1
  · rcases List.mem_cons.1 ((insE_perm _ _).mem_iff.1 hy) with h1 | h1
    · exact ⟨j, hj, by rw [h1], by rw [h1]; show v = if j = j then v else vals j; rw [if_pos rfl]⟩
    · have h2 : y ∈ outE (keyB j) c.S := by rw [e]; exact List.mem_append.2 (.inr h1)
      obtain ⟨h3, h4⟩ := mem_outE.1 h2
      obtain ⟨i, hi, h5, h6⟩ := h.vals y h3
      exact ⟨i, hi, h5, by rw [if_neg (fun e => h4 (by rw [h5, e]))]; exact h6⟩
theorem tr_get_some {c : Cs} {vals : Nat → List Int} {j : Nat} {x : En} (h : Tr c vals) (ho : Ok c) (hj : j < 12) (hg : getE (keyB j) c.S = some x) :
    Tr (getC c (keyB j)).2 vals ∧ (getC c (keyB j)).2.level = c.level ∧ hasE (keyB j) (getC c (keyB j)).2.S = true ∧ x.val = vals j := by
  have e : (getC c (keyB j)).2 = useE { c with found := c.found + 1 } x (outE (keyB j) c.S) := by unfold getC; rw [hg]
  obtain ⟨hx, hk⟩ := getE_some hg
  obtain ⟨i, hi, h5, h6⟩ := h.vals x hx
  have hij : i = j := keyB_inj hi hj (h5.symm.trans hk)
  rw [e]
  refine ⟨⟨fun y hy => ?_, fun y hy => ?_⟩, rfl, hasE_iff.2 (List.mem_map.2 ⟨_, (insE_perm _ _).mem_iff.2 (List.mem_cons.2 (.inl rfl)), hk⟩), by rw [← hij]; exact h6⟩
  · rcases List.mem_cons.1 ((insE_perm _ _).mem_iff.1 hy) with h1 | h1
    · rw [h1]
      have := ho.gd.ok x hx
      show c.level ≤ c.level + x.cost
      omega
    · exact h.low y (mem_outE.1 h1).1
  · rcases List.mem_cons.1 ((insE_perm _ _).mem_iff.1 hy) with h1 | h1
    · exact ⟨i, hi, by rw [h1]; exact h5, by rw [h1]; exact h6⟩
    · exact h.vals y (mem_outE.1 h1).1
theorem tr_drop {c : Cs} {vals : Nat → List Int} (h : Tr c vals) (k : ByteArray) : Tr (dropC c k).2 vals ∧ hasE k (dropC c k).2.S = false :=
  ⟨⟨fun e he => h.low e (mem_outE.1 he).1, fun e he => h.vals e (mem_outE.1 he).1⟩, hasE_not.2 (fun hm => by
    obtain ⟨y, hy, e⟩ := List.mem_map.1 hm
    exact (mem_outE.1 hy).2 e)⟩
theorem getE_some_has {k : ByteArray} {S : List En} {x : En} (h : getE k S = some x) : hasE k S = true := by
  obtain ⟨hx, hk⟩ := getE_some h
  exact hasE_iff.2 (List.mem_map.2 ⟨x, hx, hk⟩)
theorem getE_none_has {k : ByteArray} {S : List En} (h : getE k S = none) : hasE k S = false := by
  cases e : hasE k S with
  | false => rfl
  | true =>
    obtain ⟨y, hy, e2⟩ := List.mem_map.1 (hasE_iff.1 e)
    unfold getE at h
    have := List.find?_eq_none.1 h y hy
    simp [e2] at this
end Go.Proofs.Ytogedbednfbkmaa
