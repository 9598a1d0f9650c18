/- Words behind blanks and remarks. No program is walked here. -/
import Derived.Test.YtmpdobpnnejmmaaDoorGe
namespace Go.Proofs.YtmpdobpnnejmmaaDoor
namespace Lx
/-- The blanks and remarks that are put in. -/
def padL : List Bs := [[32], [10], [32, 32, 10, 32], [32, 35, 32, 39, 108, 101, 116, 10], [10, 35, 10, 35, 120, 32, 35, 35, 32, 49, 97, 10], [32, 35, 64, 10, 32]]
theorem pad_cases {p : Bs} (h : p ∈ padL) : p = [32] ∨ p = [10] ∨ p = [32, 32, 10, 32] ∨ p = [32, 35, 32, 39, 108, 101, 116, 10] ∨ p = [10, 35, 10, 35, 120, 32, 35, 35, 32, 49, 97, 10] ∨ p = [32, 35, 64, 10, 32] := by
  simpa only [padL, List.mem_cons, List.not_mem_nil, or_false] using h
theorem pad_ends {p : Bs} (h : p ∈ padL) (q : Bs) : Ends (p ++ q) := by
  rcases pad_cases h with rfl | rfl | rfl | rfl | rfl | rfl
  · exact .inr ⟨_, _, rfl, .inl rfl⟩
  · exact .inr ⟨_, _, rfl, .inr rfl⟩
  · exact .inr ⟨_, _, rfl, .inl rfl⟩
  · exact .inr ⟨_, _, rfl, .inl rfl⟩
  · exact .inr ⟨_, _, rfl, .inr rfl⟩
  · exact .inr ⟨_, _, rfl, .inl rfl⟩
theorem pad_skip {p : Bs} (h : p ∈ padL) (q : Bs) : skip false (p ++ q) = skip false q := by
  rcases pad_cases h with rfl | rfl | rfl | rfl | rfl | rfl <;> rfl
theorem pad_len {p : Bs} (h : p ∈ padL) : p.length ≤ 12 := by
  rcases pad_cases h with rfl | rfl | rfl | rfl | rfl | rfl <;> decide
theorem skip_self {c : UInt8} {r : Bs} (h32 : c ≠ 32) (h10 : c ≠ 10) (h35 : c ≠ 35) : skip false (c :: r) = c :: r := by
  show (if _ then _ else if _ then _ else _) = _
  rw [if_neg (fun h => h.elim h32 h10), if_neg h35]
theorem pad_at : ∀ k, k < 6 → padL.getD k [] ∈ padL := by
  intro k hk
  have h : k < padL.length := hk
  rw [List.getD_eq_getElem?_getD, List.getElem?_eq_getElem h]
  exact List.getElem_mem h
/-- The text ahead of word i. -/
def Pd (ys : List Wd) (i : Nat) (T : Bs) : Prop := ∃ (pads : List Bs) (tail : Bs), pads.length = min i ys.length ∧ (∀ p ∈ pads, p ∈ padL) ∧ ((i ≤ ys.length ∧ tail = []) ∨ (i = ys.length + 1 ∧ tail ∈ padL)) ∧
  T = (List.zipWith (fun p x => p ++ shown x.kind x.text) pads (ys.take i)).flatten ++ tail ∧ T.length ≤ i * 40
theorem Pd.start (ys : List Wd) : Pd ys 0 [] := ⟨[], [], by simp, (fun p h => by cases h), .inl ⟨Nat.zero_le _, rfl⟩, by simp, by simp⟩
theorem Pd.word {ys : List Wd} {i : Nat} {T p : Bs} (h : Pd ys i T) (hi : i < ys.length) (hg : Good ys[i]) (hp : p ∈ padL) : Pd ys (i + 1) (T ++ p ++ shown ys[i].kind ys[i].text) := by
  obtain ⟨pads, tail, h1, h2, h3, h4, h5⟩ := h
  have ht : tail = [] := by
    rcases h3 with ⟨_, h⟩ | ⟨h, _⟩
    · exact h
    · omega
  subst ht
  refine ⟨pads ++ [p], [], ?_, ?_, .inl ⟨hi, rfl⟩, ?_, ?_⟩
  · rw [List.length_append, h1]
    simp only [List.length_cons, List.length_nil]
    omega
  · intro q hq
    rcases List.mem_append.1 hq with hq | hq
    · exact h2 q hq
    · rw [List.mem_singleton.1 hq]; exact hp
  · rw [take_next ys hi, List.zipWith_append (by rw [h1, List.length_take]), List.flatten_append, h4]
    simp
  · have := good_len hg
    have := pad_len hp
    simp only [List.length_append]
    omega
theorem Pd.last {ys : List Wd} {T p : Bs} (h : Pd ys ys.length T) (hp : p ∈ padL) : Pd ys (ys.length + 1) (T ++ p) := by
  obtain ⟨pads, tail, h1, h2, h3, h4, h5⟩ := h
  have ht : tail = [] := by
    rcases h3 with ⟨_, h⟩ | ⟨h, _⟩
    · exact h
    · omega
  subst ht
  refine ⟨pads, p, by omega, h2, .inr ⟨rfl, hp⟩, ?_, ?_⟩
  · rw [h4, List.take_of_length_le (Nat.le_refl _), List.take_of_length_le (Nat.le_succ _), List.append_nil]
  · have := pad_len hp
    simp only [List.length_append]
    omega
theorem Pd.cut {ys : List Wd} {T : Bs} (h : Pd ys (ys.length + 1) T) (hg : ∀ y ∈ ys, Good y) : ∃ ws, Lx.cut (T ++ [35]) = .ok ws ∧ ws.map key = ys.map key := by
  obtain ⟨pads, tail, h1, h2, h3, h4, h5⟩ := h
  have ht : tail ∈ padL := by
    rcases h3 with ⟨h, _⟩ | ⟨_, h⟩
    · omega
    · exact h
  rw [List.take_of_length_le (Nat.le_succ _)] at h4
  have h1' : pads.length = ys.length := by omega
  have hlen : ∀ (ps : List Bs) (l : List Wd), ps.length = l.length → (∀ y ∈ l, Good y) → l.length ≤ (List.zipWith (fun p x => p ++ shown x.kind x.text) ps l).flatten.length := by
    intro ps l
    induction l generalizing ps with
    | nil => intro _ _; simp
    | cons y l ih =>
      intro h hy
      cases ps with
      | nil => simp at h
      | cons p ps =>
        have h6 := ih ps (by simpa using h) (fun z hz => hy z (List.mem_cons_of_mem _ hz))
        obtain ⟨c, r, hc, _⟩ := (hy y List.mem_cons_self).head
        rw [List.zipWith_cons_cons, List.flatten_cons, hc]
        simp only [List.length_append, List.length_cons]
        omega
  unfold Lx.cut
  refine cutF_good _ _ _ ys pads ?_ hg h1' ⟨tail ++ [35], ?_, ?_, ?_⟩ ?_ ?_
  · have := hlen pads ys h1' hg
    rw [h4]
    simp only [List.length_append]
    omega
  · rw [pad_skip ht]; rfl
  · exact pad_ends ht _
  · rw [h4, List.append_assoc]
  · intro p hp q ⟨c, r, hq, h32, h10, h35⟩
    rw [pad_skip (h2 p hp), hq, skip_self h32 h10 h35]
  · intro p hp q
    exact pad_ends (h2 p (List.mem_of_mem_drop hp)) q
end Lx
theorem pd_words {ys : List Lx.Wd} {T : List UInt8} (h : Lx.Pd ys (ys.length + 1) T) (hg : ∀ y ∈ ys, Lx.Good y) (hl : ys.length ≤ 100) : ∃ ws, wordsR (st (T ++ [35])) = (ws ++ [endW (st (T ++ [35]))], 0, 0) ∧ ws.map Lx.key = ys.map Lx.key := by
  obtain ⟨ws, h1, h2⟩ := h.cut hg
  obtain ⟨_, _, _, _, _, _, h5⟩ := h
  refine ⟨ws, ?_, h2⟩
  unfold wordsR
  rw [if_neg (by rw [st_size]; simp only [List.length_append, List.length_cons, List.length_nil]; omega), bl_st, h1]
end Go.Proofs.YtmpdobpnnejmmaaDoor
