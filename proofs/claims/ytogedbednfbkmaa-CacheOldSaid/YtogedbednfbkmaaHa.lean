/- Slices of texts that a call holds, at whatever offset: cut, appended to. Conditions: those that each theorem names. -/
import Derived.Test.YtogedbednfbkmaaGa
import Derived.Deep.AppendSrc
import Derived.Laws.AppendOwn
import Derived.BigRegion
namespace Go.Proofs.Ytogedbednfbkmaa
open Go.RowKit Go.Maps

/-- The block of a slice's address. -/
def at_blk (A : Option Addr) (q : Nat) : Prop := ∃ p, A = some p ∧ p.block = q
/-- A slice of texts in a block that is known whole, with its spare. -/
structure Us (w : World) (A : Option Addr) (n c : Nat) (xs : List ByteArray) : Prop where
  len : xs.length = n
  is_ : (A = none ∧ n = 0 ∧ c = 0) ∨ ∃ g o cs, A = some ⟨g, o, none⟩ ∧ Blk w g 9 cs ∧ n ≤ c ∧ o + c ≤ cs.size ∧ c ≤ maxLen ∧ ∀ j, j < n → cs[o + j]? = some (.string (xs.getD j .empty))
section
variable {w w' : World} {A : Option Addr} {n c : Nat} {xs : List ByteArray}
theorem Us.nil (w : World) : Us w none 0 0 [] := ⟨rfl, .inl ⟨rfl, rfl, rfl⟩⟩
theorem Us.kp {S : Nat → Prop} (h : Us w A n c xs) (hk : Kp S w w') (hn : ∀ q, at_blk A q → ¬ S q) : Us w' A n c xs := by
  refine ⟨h.len, h.is_.imp id ?_⟩
  rintro ⟨g, o, cs, e, hB, r⟩
  exact ⟨g, o, cs, e, hB.kp hk (hn g ⟨_, e, rfl⟩), r⟩
theorem Us.below (h : Us w A n c xs) (hb : Below w.heap.size w w') : Us w' A n c xs := h.kp (Kp.of_below hb fun _ => False) (fun _ _ => id)
theorem Us.lt (h : Us w A n c xs) {q : Nat} (hq : at_blk A q) : q < w.heap.size := by
  obtain ⟨p, rfl, rfl⟩ := hq
  rcases h.is_ with ⟨e, _⟩ | ⟨g, o, cs, e, hB, _⟩
  · cases e
  · injection e with e
    subst e
    exact hB.lt
theorem Us.rd (h : Us w A n c xs) (hn : n ≤ 100000) : RdT w A n xs := by
  refine ⟨h.len, by omega, fun h0 => ?_⟩
  rcases h.is_ with ⟨e, e2, _⟩ | ⟨g, o, cs, e, hB, h1, h2, _, h3⟩
  · omega
  · exact ⟨g, o, e, fun j hj => by rw [hB.cell]; exact h3 j hj⟩
theorem Us.le (h : Us w A n c xs) : n ≤ c ∧ c ≤ maxLen := by
  rcases h.is_ with ⟨e, e2, e3⟩ | ⟨g, o, cs, e, hB, h1, h2, h4, h3⟩
  · subst e2 e3; exact ⟨Nat.le_refl _, by unfold maxLen; omega⟩
  · exact ⟨h1, h4⟩
theorem Us.some_ (h : Us w A n c xs) (hn : 0 < n) : ∃ g o, A = some ⟨g, o, none⟩ := by
  rcases h.is_ with ⟨e, e2, _⟩ | ⟨g, o, cs, e, _⟩
  · omega
  · exact ⟨g, o, e⟩
/-- s[i:]. -/
theorem Us.drop {g o : Nat} (h : Us w (some ⟨g, o, none⟩) n c xs) (i : Nat) (hi : i ≤ n) : Us w (some ⟨g, o + i, none⟩) (n - i) (c - i) (xs.drop i) := by
  have hl := h.len
  refine ⟨by simp [hl], .inr ?_⟩
  rcases h.is_ with ⟨e, _⟩ | ⟨g', o', cs, e, hB, h1, h2, h4, h3⟩
  · cases e
  · injection e with e
    injection e with e1 e2
    subst e1 e2
    refine ⟨g, o + i, cs, rfl, hB, by omega, by omega, by omega, fun j hj => ?_⟩
    have := h3 (i + j) (by omega)
    rw [Nat.add_assoc, this]
    simp [List.getD_eq_getElem?_getD, List.getElem?_drop]
/-- s[i:], i the whole capacity: the address is the slice's own. -/
theorem Us.cut0 {g o : Nat} (h : Us w (some ⟨g, o, none⟩) n n xs) : Us w (some ⟨g, o, none⟩) 0 0 (xs.drop n) := by
  have hl := h.len
  refine ⟨by simp [hl], .inr ?_⟩
  rcases h.is_ with ⟨e, _⟩ | ⟨g', o', cs, e, hB, h1, h2, h4, h3⟩
  · cases e
  · exact ⟨g', o', cs, e, hB, Nat.le_refl _, by omega, Nat.zero_le _, fun j hj => absurd hj (Nat.not_lt_zero j)⟩
theorem Us.empty (w : World) : Us (w.alloc (.cells #[] 9)) (some ⟨w.heap.size, 0, none⟩) 0 0 [] :=
  ⟨rfl, .inr ⟨_, 0, #[], rfl, Blk.new w 9 #[], Nat.le_refl _, Nat.le_refl _, Nat.zero_le _, fun j hj => absurd hj (Nat.not_lt_zero j)⟩⟩
theorem Us.take (h : Us w A n c xs) (i : Nat) (hi : i ≤ n) : Us w A i c (xs.take i) := by
  have hl := h.len
  refine ⟨by simp [hl]; omega, ?_⟩
  rcases h.is_ with ⟨e, e2, e3⟩ | ⟨g', o', cs, e, hB, h1, h2, h4, h3⟩
  · exact .inl ⟨e, by omega, e3⟩
  · refine .inr ⟨g', o', cs, e, hB, by omega, h2, h4, fun j hj => ?_⟩
    rw [h3 j (by omega)]
    simp [List.getD_eq_getElem?_getD, List.getElem?_take, hj]
theorem Us.src (h : Us w A n c xs) : Src Try.prog 1 28 (.slice A n c) n (xs.map .string) w := by
  have hl := h.len
  have hone : ∀ u ∈ xs.map Value.string, u.oneCell' = true := fun u hu => by
    obtain ⟨x, _, rfl⟩ := List.mem_map.1 hu
    rfl
  rcases h.is_ with ⟨e, e2, e3⟩ | ⟨g', o', cs, e, hB, h1, h2, h4, h3⟩
  · subst e e2 e3
    have : xs = [] := List.eq_nil_of_length_eq_zero hl
    subst this
    exact Src.ofNil w Try.underlying28 0
  · subst e
    refine Src.ofSlice w Try.underlying28 _ n c _ (by simp [hl]) (fun j u hu => ?_) hone
    have hj : j < n := by
      have := (List.getElem?_eq_some_iff.1 hu).1
      simpa [hl] using this
    rw [Addr.add_lit, hB.cell, h3 j hj, ← hu]
    exact (map_at _ xs j .empty (by omega)).symm
theorem blk_setCells {g : Nat} {t : TypeId} : ∀ (vs : List Value) (o : Nat) (w : World) (cs : Array Value), Blk w g t cs → ∃ cs', Blk (w.setCells g o vs) g t cs' ∧ cs'.size = cs.size ∧ ∀ j, cs'[j]? = if o ≤ j ∧ j < o + vs.length ∧ j < cs.size then vs[j - o]? else cs[j]?
  | [], o, w, cs, h => ⟨cs, h, rfl, fun j => by rw [if_neg (by simp; omega)]⟩
  | v :: r, o, w, cs, h => by
    obtain ⟨cs', h1, h2, h3⟩ := blk_setCells r (o + 1) _ _ (h.set_ o v)
    refine ⟨cs', h1, by simpa using h2, fun j => ?_⟩
    rw [h3 j]
    simp only [Array.size_setIfInBounds, List.length_cons, Array.getElem?_setIfInBounds]
    by_cases e : o = j
    · subst e
      rw [if_neg (by omega), if_pos rfl]
      by_cases hl : o < cs.size
      · rw [if_pos hl, if_pos (by omega)]; simp
      · rw [if_neg hl, if_neg (by omega), Array.getElem?_eq_none (by omega)]
    · by_cases h4 : o + 1 ≤ j ∧ j < o + 1 + r.length ∧ j < cs.size
      · rw [if_pos h4, if_pos (by omega), show j - o = (j - (o + 1)) + 1 by omega]; simp
      · rw [if_neg h4, if_neg e, if_neg (by omega)]
theorem kp_setCells {S : Nat → Prop} {g : Nat} (hg : S g) : ∀ (vs : List Value) (o : Nat) (w : World), Kp S w (w.setCells g o vs)
  | [], o, w => Kp.refl S w
  | v :: r, o, w => ((Kp.refl S w).setCell (p := ⟨g, o, none⟩) (.inl hg) v).trans (kp_setCells hg r (o + 1) _) (fun k hk => .inl hk)

/-- An append onto such a slice, of whatever. -/
theorem run_append_us (h : Us w A n c xs) (ty : TypeId) (x : Value) (m : Nat) (ys : List ByteArray) (hs : Src Try.prog 1 28 x m (ys.map .string) w) (hsm : n + m ≤ 100000) :
    ∃ A' c' w', (Builtin.append_ #[28, 28] ty #[.slice A n c, x]).run Try.prog w = .ok (.slice A' (n + m) c') w' ∧ Us w' A' (n + m) c' (xs ++ ys) ∧ Kp (at_blk A) w w' ∧ ∀ q, at_blk A' q → at_blk A q ∨ w.heap.size ≤ q := by
  obtain ⟨i0, hi0, hz0, hz1, hz2⟩ := info_parts Try.info9
  have hl := h.len
  have hyl : ys.length = m := by have := hs.newsLen; simpa using this
  by_cases hroom : n + m ≤ c
  · rcases h.is_ with ⟨e, e2, e3⟩ | ⟨g, o, cs, e, hB, h1, h2, h4, h3⟩
    · subst e e2 e3
      have hm : m = 0 := by omega
      subst hm
      have : xs = [] := List.eq_nil_of_length_eq_zero hl
      subst this
      have : ys = [] := List.eq_nil_of_length_eq_zero hyl
      subst this
      refine ⟨none, 0, w, ?_, Us.nil w, Kp.refl _ w, fun q hq => .inl hq⟩
      have hc2 := hs.cells
      have hln := hs.len
      rw [hz1.symm] at hc2
      rcases hs.kind with ⟨e', hk⟩ | hk <;> simp [Builtin.append_, run_underlying Try.underlying28, run_underlying hk, sizeOf, typeInfo, hi0, hln, hc2, storeCells]
    · subst e
      obtain ⟨cs', k1, k2, k3⟩ := blk_setCells (ys.map .string) (o + n) w cs hB
      have hr := run_append_room_src w 28 28 ty 9 i0 Try.underlying28 hi0 g o n c x m (ys.map .string) (by rw [hz1]; exact hs) hroom (fun j hj => by
        rw [hz1, Nat.mul_one, hB.cell, Array.getElem?_eq_getElem (by simp at hj; omega)]; rfl) (fun j hj => hB.frozen _)
      rw [hz1, Nat.mul_one] at hr
      refine ⟨_, c, _, hr, ⟨by simp [hl, hyl], .inr ⟨g, o, cs', rfl, k1, hroom, by omega, h4, fun j hj => ?_⟩⟩, kp_setCells ⟨_, rfl, rfl⟩ _ _ _, fun q hq => .inl hq⟩
      rw [k3]
      by_cases hjn : j < n
      · rw [if_neg (by omega), h3 j hjn]
        simp [List.getD_eq_getElem?_getD, List.getElem?_append_left (show j < xs.length by omega)]
      · rw [if_pos (by simp; omega), show o + j - (o + n) = j - n by omega, map_at _ ys (j - n) .empty (by omega)]
        simp [List.getD_eq_getElem?_getD, List.getElem?_append_right (show xs.length ≤ j by omega), hl]
  · have hold : (Builtin.firstCells i0.size n (.slice A n c)).run Try.prog w.drew = .ok (xs.map Value.string).toArray w.drew := by
      have := h.src.cellsD
      rw [hz1]; exact this
    have hr := run_append_grow_src w 28 28 ty 9 i0 _ Try.underlying28 hi0 hz0 A n c (xs.map .string) hold x m (ys.map .string) (by rw [hz1]; exact hs) (by omega) (by omega) (growslice_fits (by omega) (by rw [hz2]; omega))
    have hge := grownCap_ge w (n + m) c 9
    have hle := grownCap_le_maxLen w (n + m) c 9 (by unfold maxLen; omega)
    refine ⟨_, _, _, hr, ⟨by simp [hl, hyl], .inr ⟨w.heap.size, 0, _, rfl, heap_alloc_new w.drew _, hge, ?_, hle, fun j hj => ?_⟩⟩, ((Kp.refl _ w).drew).alloc _, fun q hq => .inr ?_⟩
    · have hz : (Value.string ⟨#[]⟩).cells.size = 1 := rfl
      rw [Array.size_append, size_zeroCells, hz]
      simp [hl, hyl]
      omega
    · rw [Nat.zero_add, Array.getElem?_append_left (by simp [hl, hyl]; omega), List.getElem?_toArray, ← List.map_append]
      exact map_at _ (xs ++ ys) j .empty (by simp; omega)
    · obtain ⟨p, e, rfl⟩ := hq
      injection e with e
      rw [← e]; exact Nat.le_refl _

theorem wpList_append_us {ops : Array Oper} {rest : List Oper} {o : Oper} {a : Act} {Q : Exit → Act → World → Prop} (hgd : o.guard = none) (s x : Operand)
    (ho : o.op = .call { callee := .builtin .append, args := #[s, x], argTypes := #[28, 28] }) (h : Us w A n c xs) (hs : a.eval s = .slice A n c)
    (xv : Value) (m : Nat) (ys : List ByteArray) (hx : a.eval x = xv) (hsrc : Src Try.prog 1 28 xv m (ys.map .string) w) (hsm : n + m ≤ 100000)
    (hK : ∀ A' c' w', Us w' A' (n + m) c' (xs ++ ys) → Kp (at_blk A) w w' → (∀ q, at_blk A' q → at_blk A q ∨ w.heap.size ≤ q) → wpList Try.prog ops Q rest (a.put o.dst (.slice A' (n + m) c')) w') : wpList Try.prog ops Q (o :: rest) a w := by
  refine wpList_plain hgd fun K hK2 => ?_
  obtain ⟨A', c', w', hr, h2, h3, h4⟩ := run_append_us h o.type xv m ys hsrc hsm
  unfold Oper.wp execOp
  simp only [ho, resolve, invoke, builtin, Sem.run_bind, Sem.run_pure, Result.andThen_ok, List.map_toArray, List.map_cons, List.map_nil, hs, hx, hr]
  exact hK2 _ _ (hK A' c' w' h2 h3 h4)
theorem step_append_us {ops : Array Oper} {o : Oper} {a : Act} {K : Act → World → Prop} {Q : Exit → Act → World → Prop} {E : Prop} (hgd : o.guard = none) (s x : Operand)
    (ho : o.op = .call { callee := .builtin .append, args := #[s, x], argTypes := #[28, 28] }) (h : Us w A n c xs) (hs : a.eval s = .slice A n c)
    (xv : Value) (m : Nat) (ys : List ByteArray) (hx : a.eval x = xv) (hsrc : Src Try.prog 1 28 xv m (ys.map .string) w) (hsm : n + m ≤ 100000)
    (hK : ∀ A' c' w', Us w' A' (n + m) c' (xs ++ ys) → Kp (at_blk A) w w' → (∀ q, at_blk A' q → at_blk A q ∨ w.heap.size ≤ q) → K (a.put o.dst (.slice A' (n + m) c')) w') :
    if Region.wanted o (yielded ops a.tmps) = true then Oper.wp Try.prog o a w K Q else E := by
  have hw : Region.wanted o (yielded ops a.tmps) = true := by simp [Region.wanted, hgd]
  rw [if_pos hw]
  obtain ⟨A', c', w', hr, h2, h3, h4⟩ := run_append_us h o.type xv m ys hsrc hsm
  unfold Oper.wp execOp
  simp only [ho, resolve, invoke, builtin, Sem.run_bind, Sem.run_pure, Result.andThen_ok, List.map_toArray, List.map_cons, List.map_nil, hs, hx, hr]
  exact hK A' c' w' h2 h3 h4
/-- A text alone, laid to be appended. -/
theorem src_one (w : World) (k : ByteArray) : Src Try.prog 1 28 (.slice (some ⟨w.heap.size, 0, none⟩) 1 1) 1 ([k].map .string) (w.alloc (.cells #[.string k] 9)) := by
  refine Src.ofSlice _ Try.underlying28 _ 1 1 _ rfl (fun j u hu => ?_) (fun u hu => by simp at hu; subst hu; rfl)
  match j, hu with
  | 0, hu =>
    simp at hu
    subst hu
    rw [add_at, World.cell?_alloc_at _ _ _ _ rfl]
    rfl
end
section
variable {X Y : Nat → Prop} {B cb : Nat} {w0 w w' : World} {c : Cs}
/-- Blocks of X turn, new ones come; those of Y are fenced off. -/
theorem Hc.turn (h : Hc X B w0 w cb c) (hk : Kp X w w') (hB : ∀ q, X q → B ≤ q) (hY : ∀ q, Y q → X q ∨ w.heap.size ≤ q) : Hc Y B w0 w' cb c := by
  obtain ⟨F, h1, h2⟩ := h.isC
  exact ⟨⟨F, h1.kp hk (fun q hq x => (h2 q hq).2.2 x), fun q hq => ⟨(h2 q hq).1, Nat.lt_of_lt_of_le (h2 q hq).2.1 hk.size, fun y => (hY q y).elim (h2 q hq).2.2 (fun z => by have := h2 q hq; omega)⟩⟩, h.below.trans (hk.toBelow h.le (fun k hk2 x => by have := hB k x; omega)), Nat.le_trans h.le hk.size⟩
end
end Go.Proofs.Ytogedbednfbkmaa
