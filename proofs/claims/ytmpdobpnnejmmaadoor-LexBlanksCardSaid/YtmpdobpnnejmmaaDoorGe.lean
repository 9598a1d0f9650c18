/- What is joined is cut into the same words. No program is walked here. -/
import Derived.Test.YtmpdobpnnejmmaaDoorGd
import Derived.Test.YtmpdobpnnejmmaaDoorWa
namespace Go.Proofs.YtmpdobpnnejmmaaDoor
namespace Lx
def key (x : Wd) : Int × Bs × Int := (x.kind, x.text, x.num)
theorem Good.part {x : Wd} (h : Good x) : part x = some (shown x.kind x.text) := by
  unfold Lx.part shown
  rw [if_neg h.k7]
  by_cases h4 : x.kind = 4
  · rw [if_pos h4, if_pos h4]
  · rw [if_neg h4, if_neg h4, if_neg h.tne]
theorem parts_good : ∀ {ys : List Wd}, (∀ y ∈ ys, Good y) → parts ys = ys.map fun x => shown x.kind x.text
  | [], _ => rfl
  | x :: ys, h => by
    unfold parts
    rw [List.filterMap_cons_some (h x List.mem_cons_self).part, List.map_cons]
    have := parts_good (ys := ys) (fun y hy => h y (List.mem_cons_of_mem _ hy))
    unfold parts at this
    rw [this]
theorem part_key {x y : Wd} (h : key x = key y) : part x = part y := by
  unfold key at h
  injection h with h1 h2
  injection h2 with h2 h3
  unfold Lx.part
  rw [h1, h2]
theorem parts_key : ∀ {xs ys : List Wd}, xs.map key = ys.map key → parts xs = parts ys
  | [], [], _ => rfl
  | [], _ :: _, h => by simp at h
  | _ :: _, [], h => by simp at h
  | x :: xs, y :: ys, h => by
    rw [List.map_cons, List.map_cons] at h
    injection h with h1 h2
    have := parts_key h2
    unfold parts at this ⊢
    rw [List.filterMap_cons, List.filterMap_cons, part_key h1, this]
/-- Parts put together, each but the first behind a blank. -/
theorem join_zip : ∀ (xs : List Wd), (List.zipWith (fun p x => p ++ shown x.kind x.text) (List.replicate xs.length [32]) xs).flatten = (xs.map fun x => 32 :: shown x.kind x.text).flatten
  | [] => rfl
  | x :: xs => by
    rw [List.length_cons, List.replicate_succ, List.zipWith_cons_cons, List.flatten_cons, List.map_cons, List.flatten_cons, join_zip xs]
    rfl
theorem join_rest (L : List Bs) (x : Bs) : Lib.join (x :: L) [32] = x ++ (L.map fun t => 32 :: t).flatten := Lib.join_cons x L [32]
theorem back_cut {ys : List Wd} (hg : ∀ y ∈ ys, Good y) : ∃ ws, cut (joinL ys) = .ok ws ∧ ws.map key = ys.map key := by
  have hp := parts_good hg
  unfold cut joinL
  rw [hp]
  cases ys with
  | nil => exact ⟨[], rfl, rfl⟩
  | cons x xs =>
    rw [List.map_cons, join_rest]
    obtain ⟨n, hn⟩ : ∃ n, n = (shown x.kind x.text ++ ((xs.map fun x => shown x.kind x.text).map fun t => 32 :: t).flatten).length := ⟨_, rfl⟩
    have hlen : ∀ l : List Wd, l.length ≤ ((l.map fun x => shown x.kind x.text).map fun t => 32 :: t).flatten.length := by
      intro l
      induction l with
      | nil => simp
      | cons y l ih =>
        simp only [List.map_cons, List.flatten_cons, List.length_append, List.length_cons]
        omega
    have h1 : 1 ≤ (shown x.kind x.text).length := by
      obtain ⟨c, r, hc, _⟩ := (hg x List.mem_cons_self).head
      rw [hc]; simp
    obtain ⟨ws, w1, w2⟩ := cutF_good n (n + 1) (shown x.kind x.text ++ ((xs.map fun x => shown x.kind x.text).map fun t => 32 :: t).flatten) (x :: xs) ([] :: List.replicate xs.length [32])
      (by
        have := hlen xs
        rw [List.length_append] at hn
        simp only [List.length_cons]
        omega) hg (by simp)
      ⟨[], rfl, .inl rfl, by
        rw [List.zipWith_cons_cons, List.flatten_cons, join_zip xs, List.append_nil, List.nil_append, List.map_map]
        rfl⟩
      (by
        intro p hp q ⟨c, r, hq, h32, h10, h35⟩
        rcases List.mem_cons.1 hp with rfl | hp
        · subst hq
          show (if _ then _ else if _ then _ else _) = _
          rw [if_neg (fun h => h.elim h32 h10), if_neg h35]
        · rw [(List.mem_replicate.1 hp).2]
          subst hq
          show skip false (c :: r) = _
          show (if _ then _ else if _ then _ else _) = _
          rw [if_neg (fun h => h.elim h32 h10), if_neg h35])
      (by
        intro p hp q
        simp only [List.drop_succ_cons, List.drop_zero] at hp
        rw [(List.mem_replicate.1 hp).2]
        exact .inr ⟨32, q, rfl, .inl rfl⟩)
    refine ⟨ws, ?_, w2⟩
    rw [← hn]
    exact w1
theorem good_len {x : Wd} (h : Good x) : (shown x.kind x.text).length ≤ 21 := by
  have := h.few
  unfold shown
  split
  · simp only [List.length_cons]; omega
  · omega
theorem back_size {ys : List Wd} (hg : ∀ y ∈ ys, Good y) (hl : ys.length ≤ 100) : (joinL ys).length ≤ 2200 := by
  unfold joinL
  rw [parts_good hg]
  cases ys with
  | nil => simp [Lib.join]
  | cons x xs =>
    rw [List.map_cons, join_rest, List.length_append]
    have h1 := good_len (hg x List.mem_cons_self)
    have h2 : ∀ l : List Wd, (∀ y ∈ l, Good y) → ((l.map fun x => shown x.kind x.text).map fun t => 32 :: t).flatten.length ≤ l.length * 22 := by
      intro l hl
      induction l with
      | nil => simp
      | cons y l ih =>
        have h3 := good_len (hl y List.mem_cons_self)
        have h4 := ih (fun z hz => hl z (List.mem_cons_of_mem _ hz))
        simp only [List.map_cons, List.flatten_cons, List.length_append, List.length_cons]
        omega
    have h3 := h2 xs (fun y hy => hg y (List.mem_cons_of_mem _ hy))
    simp only [List.length_cons] at hl
    omega
theorem back_35 {ys : List Wd} (hg : ∀ y ∈ ys, Good y) : 35 ∉ joinL ys := by
  unfold joinL
  rw [parts_good hg]
  cases ys with
  | nil => simp [Lib.join]
  | cons x xs =>
    rw [List.map_cons, join_rest]
    intro h
    rcases List.mem_append.1 h with h | h
    · exact (hg x List.mem_cons_self).n35 h
    · obtain ⟨t, ht, h2⟩ := List.mem_flatten.1 h
      simp only [List.map_map, List.mem_map] at ht
      obtain ⟨y, hy, rfl⟩ := ht
      rcases List.mem_cons.1 h2 with h2 | h2
      · exact absurd h2 (by decide)
      · exact (hg y (List.mem_cons_of_mem _ hy)).n35 h2
end Lx
/-- What Words answers of a text that was joined. -/
theorem back_words {ys : List Lx.Wd} (hg : ∀ y ∈ ys, Lx.Good y) (hl : ys.length ≤ 100) : ∃ ws, wordsR (st (Lx.joinL ys)) = (ws ++ [endW (st (Lx.joinL ys))], 0, 0) ∧ ws.map Lx.key = ys.map Lx.key := by
  obtain ⟨ws, h1, h2⟩ := Lx.back_cut hg
  refine ⟨ws, ?_, h2⟩
  unfold wordsR
  rw [if_neg (by rw [st_size]; have := Lx.back_size hg hl; omega), bl_st, h1]
theorem key_at {ws ys : List Lx.Wd} (h : ws.map Lx.key = ys.map Lx.key) {k : Nat} (hk : k < ys.length) : ∃ hk2 : k < ws.length, ws[k].kind = ys[k].kind ∧ ws[k].text = ys[k].text ∧ ws[k].num = ys[k].num := by
  have hl : ws.length = ys.length := by simpa using congrArg List.length h
  refine ⟨by omega, ?_⟩
  have h1 := congrArg (·[k]?) h
  simp only [List.getElem?_map, List.getElem?_eq_getElem hk, List.getElem?_eq_getElem (show k < ws.length by omega), Option.map_some, Option.some.injEq] at h1
  unfold Lx.key at h1
  injection h1 with h1 h2
  injection h2 with h2 h3
  exact ⟨h1, h2, h3⟩
theorem back_again {ws ys : List Lx.Wd} (s : ByteArray) (h : ws.map Lx.key = ys.map Lx.key) : Lx.joinL (ws ++ [endW s]) = Lx.joinL ys := by
  unfold Lx.joinL
  rw [Lx.parts_snoc, Lx.parts_key h]
  have e : Lx.part (endW s) = none := if_pos rfl
  rw [e]
  simp
end Go.Proofs.YtmpdobpnnejmmaaDoor
