/- Words for the laws: what an argument reads as, a local array, and plain facts on a heap's items. Conditions: those that each theorem names. -/
import Derived.Test.YtkoacfkglfgalaaU
namespace Go.Proofs.Ytkoacfkglfgalaa
open Go.RowKit Go.Maps

/-- A block of n cells, cell j holding f j. -/
def Fn (w : World) (g : Nat) (t : TypeId) (n : Nat) (f : Nat → Value) : Prop := ∃ cs, w.heap[g]? = some (.cells cs t (0, 0)) ∧ cs.size = n ∧ ∀ j, j < n → cs[j]? = some (f j)
section
variable {w w' : World} {g n : Nat} {t : TypeId} {f : Nat → Value}
theorem Fn.lt (h : Fn w g t n f) : g < w.heap.size := by
  obtain ⟨cs, h1, _⟩ := h
  exact Blk.lt (t := t) h1
theorem Fn.cell (h : Fn w g t n f) (j : Nat) (hj : j < n) : w.cell? ⟨g, j, none⟩ = some (f j) := by
  obtain ⟨cs, h1, h2, h3⟩ := h
  rw [Blk.cell (t := t) h1]
  exact h3 j hj
theorem Fn.frozen (h : Fn w g t n f) (j : Nat) : w.frozen? ⟨g, j, none⟩ = false := by
  obtain ⟨cs, h1, h2, h3⟩ := h
  exact Blk.frozen (t := t) h1 j
theorem Fn.kp {S : Nat → Prop} (h : Fn w g t n f) (hk : Kp S w w') (hn : ¬ S g) : Fn w' g t n f := by
  have := h.lt
  obtain ⟨cs, h1, h2, h3⟩ := h
  exact ⟨cs, (hk.block g this hn).trans h1, h2, h3⟩
theorem Fn.below (h : Fn w g t n f) (hk : Below w.heap.size w w') : Fn w' g t n f := h.kp (Kp.of_below hk fun _ => False) id
theorem Fn.set_ (h : Fn w g t n f) (j : Nat) (u : Value) : Fn (w.setCell ⟨g, j, none⟩ u) g t n (fun k => if k = j then u else f k) := by
  obtain ⟨cs, h1, h2, h3⟩ := h
  refine ⟨cs.setIfInBounds j u, Blk.set_ (t := t) h1 j u, by simpa using h2, fun k hk => ?_⟩
  rw [Array.getElem?_setIfInBounds]
  show _ = some (if k = j then u else f k)
  by_cases e : k = j
  · subst e; simp [h2, hk]
  · rw [if_neg (fun x => e x.symm), if_neg e]; exact h3 k hk
theorem Fn.far (h : Fn w g t n f) {p : Addr} (hp : g ≠ p.block) (u : Value) : Fn (w.setCell p u) g t n f := by
  obtain ⟨cs, h1, h2, h3⟩ := h
  exact ⟨cs, Blk.far (t := t) h1 hp u, h2, h3⟩
theorem Fn.congr {f' : Nat → Value} (h : Fn w g t n f) (he : ∀ j, j < n → f j = f' j) : Fn w g t n f' := by
  obtain ⟨cs, h1, h2, h3⟩ := h
  exact ⟨cs, h1, h2, fun j hj => by rw [h3 j hj, he j hj]⟩
theorem Fn.new (w : World) (t : TypeId) (cs : Array Value) (f : Nat → Value) (h : ∀ j, j < cs.size → cs[j]? = some (f j)) : Fn (w.alloc (.cells cs t)) w.heap.size t cs.size f := ⟨cs, heap_alloc_new w _, rfl, h⟩
theorem Fn.zero (w : World) (t : TypeId) (m : Nat) (v : Value) : Fn (w.alloc (.cells (Array.replicate m v) t)) w.heap.size t m (fun _ => v) := by
  have := Fn.new w t (Array.replicate m v) (fun _ => v) (fun j hj => by simp at hj; simp [hj])
  simpa using this
theorem Fn.ne_ {g' n' : Nat} {t' : TypeId} {f' : Nat → Value} (h : Fn w g t n f) (h' : Fn w g' t' n' f') (hne : t ≠ t') : g ≠ g' := by
  obtain ⟨cs, h1, _⟩ := h
  obtain ⟨cs', h1', _⟩ := h'
  exact Blk.ne_ (t := t) (t' := t') h1 h1' hne
end

/-- A heap of the call's own: its blocks from B on, none of X among them; below B nothing has turned since w0. -/
structure Hp (X : Nat → Prop) (B : Nat) (w0 w : World) (hb : Nat) (S : List Item) : Prop where
  isH : ∃ F, IsH F w hb S ∧ ∀ q, F q → B ≤ q ∧ q < w.heap.size ∧ ¬ X q
  below : Below B w0 w
  le : B ≤ w.heap.size
section
variable {F X Y : Nat → Prop} {B hb : Nat} {w0 w w' : World} {S S' : List Item}
theorem IsH.blocks (h : IsH F w hb S) : IsH (fun q => F q ∧ q < w.heap.size) w hb S := by
  obtain ⟨rb, mb, L, hM, hh, hp⟩ := h.body
  obtain ⟨sv, D, hR, hI, hq⟩ := hM.start
  refine ⟨h.srt, rb, mb, L, ⟨hM.good, Kp.refl _ _, ⟨hM.fh, hR.head.lt⟩, ⟨hM.fr, hR.row.lt⟩, ⟨hM.fm, hR.map.lt⟩, sv, D, hR, hI, fun q hs => .inl ⟨hq q hs, ?_⟩⟩, hh, hp⟩
  exact (hR.own.lt q hs).2
theorem Hp.left (h : Hp X B w0 w hb S) (hF : ∀ q, F q → B ≤ q ∧ q < w.heap.size ∧ ¬ X q) (hX : ∀ q, X q → q < w.heap.size) (l : Left F w hb S' w') : Hp X B w0 w' hb S' :=
  ⟨⟨_, l.isH.blocks, fun q hq => by
    obtain ⟨h1, h2⟩ := hq
    rcases h1 with h1 | h1
    · have := hF q h1; exact ⟨this.1, h2, this.2.2⟩
    · exact ⟨Nat.le_trans h.le h1, h2, fun x => by have := hX q x; omega⟩⟩,
   h.below.trans (l.kp.toBelow h.le (fun k hk x => by have := hF k x; omega)), Nat.le_trans h.le l.kp.size⟩
theorem Hp.after (h : Hp X B w0 w hb S) (b : Below w.heap.size w w') : Hp X B w0 w' hb S := by
  obtain ⟨F, h1, h2⟩ := h.isH
  exact ⟨⟨F, h1.below b, fun q hq => ⟨(h2 q hq).1, Nat.lt_of_lt_of_le (h2 q hq).2.1 b.size, (h2 q hq).2.2⟩⟩, h.below.trans (b.mono h.le), Nat.le_trans h.le b.size⟩
theorem Hp.set_ (h : Hp X B w0 w hb S) {p : Addr} (hp : X p.block) (hB : B ≤ p.block) (u : Value) : Hp X B w0 (w.setCell p u) hb S := by
  obtain ⟨F, h1, h2⟩ := h.isH
  have hs : (w.setCell p u).heap.size = w.heap.size := by simp [World.setCell]
  exact ⟨⟨F, h1.kp ((Kp.refl (fun q => q = p.block) w).setCell (.inl rfl) u) (fun q hq e => (h2 q hq).2.2 (e ▸ hp)), fun q hq => by rw [hs]; exact h2 q hq⟩, h.below.setCell hB u, by rw [hs]; exact h.le⟩
theorem Hp.drew (h : Hp X B w0 w hb S) : Hp X B w0 w.drew hb S := h.after (Below.refl _ w).drew
theorem Hp.start (h : IsH (fun q => B ≤ q) w hb S) (hX : ∀ q, X q → w.heap.size ≤ q) (b : Below B w0 w) (hB : B ≤ w.heap.size) : Hp X B w0 w hb S :=
  ⟨⟨_, h.blocks, fun q hq => ⟨hq.1, hq.2, fun x => by have := hX q x; omega⟩⟩, b, hB⟩
theorem Fn.left {g n : Nat} {t : TypeId} {f : Nat → Value} (h : Fn w g t n f) (hF : ∀ q, F q → B ≤ q ∧ q < w.heap.size ∧ ¬ X q) (hg : X g) (l : Left F w hb S' w') : Fn w' g t n f := h.kp l.kp (fun x => (hF g x).2.2 hg)
end

/-- A slice of pairs that reads as xs. -/
structure RdP (w : World) (A : Option Addr) (n : Nat) (xs : List (Int × Int)) : Prop where
  len : xs.length = n
  low : n ≤ 100000000000000
  cells : 0 < n → ∃ b off, A = some ⟨b, off, none⟩ ∧ ∀ j, j < n → w.cell? ⟨b, off + j * 2, none⟩ = some (.int .i64 (xs.getD j (0, 0)).1) ∧ w.cell? ⟨b, off + j * 2 + 1, none⟩ = some (.int .i64 (xs.getD j (0, 0)).2)
theorem RdP.below {w w' : World} {A : Option Addr} {n : Nat} {xs : List (Int × Int)} (h : RdP w A n xs) (hb : Below w.heap.size w w') : RdP w' A n xs :=
  ⟨h.len, h.low, fun h0 => by
    obtain ⟨b, off, e, hc⟩ := h.cells h0
    exact ⟨b, off, e, fun j hj => ⟨below_cell hb (hc j hj).1, below_cell hb (hc j hj).2⟩⟩⟩

/-! ### plain facts -/
theorem mem_ins {x p : Item} {l : List Item} : p ∈ ins x l ↔ p = x ∨ p ∈ l := by
  rw [(ins_perm x l).mem_iff]; simp
theorem mem_outS {id : Int} {p : Item} {S : List Item} : p ∈ outS id S ↔ p ∈ S ∧ p.1 ≠ id := by
  unfold outS
  rw [List.mem_filter]
  simp
theorem mem_putS {id r : Int} {p : Item} {S : List Item} : p ∈ putS id r S ↔ p = (id, r) ∨ (p ∈ S ∧ p.1 ≠ id) := by
  unfold putS
  rw [mem_ins, mem_outS]
theorem hasS_mem {id : Int} {S : List Item} : hasS id S = true ↔ ∃ p ∈ S, p.1 = id := by
  rw [hasS_iff]; simp
theorem hasS_put {id r j : Int} {S : List Item} : hasS j (putS id r S) = (j == id || hasS j S) := by
  rw [Bool.eq_iff_iff, hasS_mem, Bool.or_eq_true, hasS_mem, beq_iff_eq]
  constructor
  · rintro ⟨p, hp, rfl⟩
    rcases mem_putS.1 hp with rfl | ⟨h1, h2⟩
    · exact .inl rfl
    · exact .inr ⟨p, h1, rfl⟩
  · rintro (rfl | ⟨p, hp, rfl⟩)
    · exact ⟨_, mem_putS.2 (.inl rfl), rfl⟩
    · by_cases e : p.1 = id
      · exact ⟨_, mem_putS.2 (.inl rfl), e.symm⟩
      · exact ⟨p, mem_putS.2 (.inr ⟨hp, e⟩), rfl⟩
theorem len_outS {id : Int} {S : List Item} (g : Good S) : (outS id S).length = if hasS id S = true then S.length - 1 else S.length := by
  by_cases h : id ∈ S.map (·.1)
  · rw [if_pos (by rw [hasS_iff]; exact decide_eq_true h)]
    obtain ⟨p, hp, rfl⟩ := List.mem_map.1 h
    obtain ⟨i, hi, e⟩ := List.mem_iff_getElem.1 hp
    have h2 : (S.eraseIdx i ++ [S[i]]).Perm S := by
      have : (S[i] :: S.eraseIdx i).Perm S := by
        rw [List.eraseIdx_eq_take_drop_succ]
        have e : S = S.take i ++ S[i] :: S.drop (i + 1) := by rw [← List.drop_eq_getElem_cons hi, List.take_append_drop]
        conv => rhs; rw [e]
        exact List.perm_middle.symm
      exact List.perm_append_comm.trans this
    have h3 := (out_of h2 g).length_eq
    rw [e] at h3
    rw [← h3, List.length_eraseIdx]
    simp [hi]
  · rw [if_neg (by rw [hasS_iff]; simpa using h), outS_none h]
theorem len_putS {id r : Int} {S : List Item} (g : Good S) : (putS id r S).length = if hasS id S = true then S.length else S.length + 1 := by
  unfold putS
  rw [(ins_perm _ _).length_eq, List.length_cons, len_outS g]
  split
  · rename_i h
    obtain ⟨p, hp, _⟩ := hasS_mem.1 h
    have := List.length_pos_of_mem hp
    omega
  · rfl
theorem hasS_of_ge {S : List Item} {n : Int} (h : ∀ p ∈ S, p.1 < n) {j : Int} (hj : n ≤ j) : hasS j S = false := by
  cases e : hasS j S with
  | false => rfl
  | true =>
    obtain ⟨p, hp, rfl⟩ := hasS_mem.1 e
    have := h p hp
    omega
end Go.Proofs.Ytkoacfkglfgalaa
