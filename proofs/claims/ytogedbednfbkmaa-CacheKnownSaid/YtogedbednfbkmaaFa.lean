/- A cache beside local arrays; CacheOrder, plainly. Conditions: those that each theorem names. -/
import Derived.Test.YtogedbednfbkmaaEa
namespace Go.Proofs.Ytogedbednfbkmaa
open Go.RowKit Go.Maps

/-- A block of n cells, cell j holding f j. -/
def Fn (w : World) (g : Nat) (t : TypeId) (n : Nat) (f : Nat → Value) : Prop := ∃ cs, w.heap[g]? = some (.cells cs t (0, 0)) ∧ cs.size = n ∧ ∀ j, j < n → cs[j]? = some (f j)
section
variable {w w' : World} {g n : Nat} {t : TypeId} {f : Nat → Value}
theorem Fn.lt (h : Fn w g t n f) : g < w.heap.size := by
  obtain ⟨cs, h1, _⟩ := h
  exact Blk.lt (t := t) h1
theorem Fn.cell (h : Fn w g t n f) (j : Nat) (hj : j < n) : w.cell? ⟨g, j, none⟩ = some (f j) := by
  obtain ⟨cs, h1, h2, h3⟩ := h
  rw [Blk.cell (t := t) h1]
  exact h3 j hj
theorem Fn.frozen (h : Fn w g t n f) (j : Nat) : w.frozen? ⟨g, j, none⟩ = false := by
  obtain ⟨cs, h1, h2, h3⟩ := h
  exact Blk.frozen (t := t) h1 j
theorem Fn.kp {S : Nat → Prop} (h : Fn w g t n f) (hk : Kp S w w') (hn : ¬ S g) : Fn w' g t n f := by
  have := h.lt
  obtain ⟨cs, h1, h2, h3⟩ := h
  exact ⟨cs, (hk.block g this hn).trans h1, h2, h3⟩
theorem Fn.below (h : Fn w g t n f) (hk : Below w.heap.size w w') : Fn w' g t n f := h.kp (Kp.of_below hk fun _ => False) id
theorem Fn.set_ (h : Fn w g t n f) (j : Nat) (u : Value) : Fn (w.setCell ⟨g, j, none⟩ u) g t n (fun k => if k = j then u else f k) := by
  obtain ⟨cs, h1, h2, h3⟩ := h
  refine ⟨cs.setIfInBounds j u, Blk.set_ (t := t) h1 j u, by simpa using h2, fun k hk => ?_⟩
  rw [Array.getElem?_setIfInBounds]
  show _ = some (if k = j then u else f k)
  by_cases e : k = j
  · subst e; simp [h2, hk]
  · rw [if_neg (fun x => e x.symm), if_neg e]; exact h3 k hk
theorem Fn.zero (w : World) (t : TypeId) (m : Nat) (v : Value) : Fn (w.alloc (.cells (Array.replicate m v) t)) w.heap.size t m (fun _ => v) :=
  ⟨_, heap_alloc_new w _, by simp, fun j hj => by simp [hj]⟩
theorem Fn.congr {f' : Nat → Value} (h : Fn w g t n f) (he : ∀ j, j < n → f j = f' j) : Fn w g t n f' := by
  obtain ⟨cs, h1, h2, h3⟩ := h
  exact ⟨cs, h1, h2, fun j hj => by rw [h3 j hj, he j hj]⟩
end

/-- A cache of the call's own: its blocks from B on, none of X among them; below B nothing has turned since w0. -/
structure Hc (X : Nat → Prop) (B : Nat) (w0 w : World) (cb : Nat) (c : Cs) : Prop where
  isC : ∃ F, IsC F w cb c ∧ ∀ q, F q → B ≤ q ∧ q < w.heap.size ∧ ¬ X q
  below : Below B w0 w
  le : B ≤ w.heap.size
section
variable {F X Y : Nat → Prop} {B cb : Nat} {w0 w w' : World} {c c' : Cs}
theorem Hc.ok (h : Hc X B w0 w cb c) : Ok c := by
  obtain ⟨F, h1, _⟩ := h.isC
  exact h1.ok
theorem Hc.left (h : Hc X B w0 w cb c) (hF : ∀ q, F q → B ≤ q ∧ q < w.heap.size ∧ ¬ X q) (hX : ∀ q, X q → q < w.heap.size) (l : Left F w cb c' w') : Hc X B w0 w' cb c' ∧ Kp (fun q => ¬ X q) w w' :=
  ⟨⟨⟨_, l.isC.blocks, fun q hq => by
    obtain ⟨h1, h2⟩ := hq
    rcases h1 with h1 | h1
    · have := hF q h1; exact ⟨this.1, h2, this.2.2⟩
    · exact ⟨Nat.le_trans h.le h1, h2, fun x => by have := hX q x; omega⟩⟩,
   h.below.trans (l.kp.toBelow h.le (fun k hk x => by have := hF k x; omega)), Nat.le_trans h.le l.kp.size⟩, l.kp.mono fun q hq => (hF q hq).2.2⟩
theorem Hc.after (h : Hc X B w0 w cb c) (b : Below w.heap.size w w') : Hc X B w0 w' cb c := by
  obtain ⟨F, h1, h2⟩ := h.isC
  exact ⟨⟨F, h1.below b, fun q hq => ⟨(h2 q hq).1, Nat.lt_of_lt_of_le (h2 q hq).2.1 b.size, (h2 q hq).2.2⟩⟩, h.below.trans (b.mono h.le), Nat.le_trans h.le b.size⟩
theorem Hc.set_ (h : Hc X B w0 w cb c) {p : Addr} (hp : X p.block) (hB : B ≤ p.block) (u : Value) : Hc X B w0 (w.setCell p u) cb c := by
  obtain ⟨F, h1, h2⟩ := h.isC
  have hs : (w.setCell p u).heap.size = w.heap.size := by simp [World.setCell]
  exact ⟨⟨F, h1.kp ((Kp.refl (fun q => q = p.block) w).setCell (.inl rfl) u) (fun q hq e => (h2 q hq).2.2 (e ▸ hp)), fun q hq => by rw [hs]; exact h2 q hq⟩, h.below.setCell hB u, by rw [hs]; exact h.le⟩
/-- New blocks, and those of X, are fenced off. -/
theorem Hc.fence (h : Hc X B w0 w cb c) (b : Below w.heap.size w w') (hY : ∀ q, Y q → X q ∨ w.heap.size ≤ q) : Hc Y B w0 w' cb c := by
  obtain ⟨F, h1, h2⟩ := h.isC
  exact ⟨⟨F, h1.below b, fun q hq => ⟨(h2 q hq).1, Nat.lt_of_lt_of_le (h2 q hq).2.1 b.size, fun y => (hY q y).elim (h2 q hq).2.2 (fun z => by have := h2 q hq; omega)⟩⟩, h.below.trans (b.mono h.le), Nat.le_trans h.le b.size⟩
theorem Hc.start (h : IsC (fun q => w.heap.size ≤ q) w' cb c) (b : Below w.heap.size w w') : Hc (fun _ => False) w.heap.size w w' cb c := ⟨⟨_, h.blocks, fun _q hq => ⟨hq.1, hq.2, id⟩⟩, b, b.size⟩
theorem Hc.put (h : Hc X B w0 w cb c) (hX : ∀ q, X q → q < w.heap.size) {k : ByteArray} {A : Option Addr} {n cc : Nat} {xs : List Int} (hk : k.size ≤ 1000000) (hs : Small c) (hrd : RdB w A n cc xs) (hn : n ≤ cc) (hn2 : n ≤ 1000000000) (cost : Int) :
    Calls Try.prog 14 #[.pointer (some ⟨cb, 0, none⟩), .string k, .slice A n cc, .int .i64 cost] w fun e w' => e = .returned (.int .i64 (putC c k xs cost).1) ∧ Hc X B w0 w' cb (putC c k xs cost).2 ∧ Kp (fun q => ¬ X q) w w' := by
  obtain ⟨F, h1, h2⟩ := h.isC
  exact (put_c h1 hk hs hrd hn hn2 cost).mono fun e w' ⟨he, hl⟩ => ⟨he, h.left h2 hX hl⟩
theorem Hc.get (h : Hc X B w0 w cb c) (hX : ∀ q, X q → q < w.heap.size) {k : ByteArray} (hk : k.size ≤ maxLen) (hs : Small c) :
    Calls Try.prog 13 #[.pointer (some ⟨cb, 0, none⟩), .string k] w fun e w' => ∃ A m c1 b, e = .returned (.tuple #[.slice A m c1, .bool b]) ∧ Hc X B w0 w' cb (getC c k).2 ∧ Kp (fun q => ¬ X q) w w' := by
  obtain ⟨F, h1, h2⟩ := h.isC
  cases hg : getE k c.S with
  | none => exact (get_no h1 hk hs hg).mono fun e w' ⟨he, hl⟩ => ⟨none, 0, 0, false, he, h.left h2 hX hl⟩
  | some x =>
    refine (get_yes h1 hk hs hg).mono fun e w' ⟨v, he, ⟨B', A, c', hv, hB, hown, hI⟩, hkp⟩ => ?_
    subst hv
    exact ⟨A, _, c', true, he, h.left h2 hX ⟨hI.mono (fun q hq _ => hq.1), hkp⟩⟩
theorem Hc.has (h : Hc X B w0 w cb c) (k : ByteArray) (hk : k.size ≤ maxLen) : Calls Try.prog 16 #[.pointer (some ⟨cb, 0, none⟩), .string k] w fun e w' => e = .returned (.bool (hasE k c.S)) ∧ w = w' := by
  obtain ⟨F, h1, h2⟩ := h.isC
  exact has_c h1 k hk
theorem Hc.keys (h : Hc X B w0 w cb c) : Calls Try.prog 19 #[.pointer (some ⟨cb, 0, none⟩)] w fun e w' => ∃ A c', e = .returned (.slice A c.S.length c') ∧ w'.ownsRow w.heap.size 9 1 (.slice A c.S.length c') c.S.length ((keysC c).map .string) ∧ Below w.heap.size w w' := by
  obtain ⟨F, h1, h2⟩ := h.isC
  exact keys_c h1
theorem Hc.size (h : Hc X B w0 w cb c) : Calls Try.prog 20 #[.pointer (some ⟨cb, 0, none⟩)] w fun e w' => e = .returned (.int .i64 (szS c.S)) ∧ w = w' := by
  obtain ⟨F, h1, h2⟩ := h.isC
  exact size_is h1
theorem Hc.len (h : Hc X B w0 w cb c) : Calls Try.prog 17 #[.pointer (some ⟨cb, 0, none⟩)] w fun e w' => e = .returned (.int .i64 c.S.length) ∧ w = w' := by
  obtain ⟨F, h1, h2⟩ := h.isC
  exact len_is h1
end

/-! ### plainly -/
/-- Each entry's size stands at its key's number. -/
def Sized (sz : Nat → Int) (S : List En) : Prop := ∀ e ∈ S, ∃ j, j < 12 ∧ e.key = keyB j ∧ sz j = szE e
theorem keyB_inj {i j : Nat} (hi : i < 12) (hj : j < 12) (h : keyB i = keyB j) : i = j := by
  have h1 : digitAt i = digitAt j := by
    unfold keyB at h
    have h2 := congrArg Array.toList (congrArg ByteArray.data h)
    simp at h2
    exact h2
  have hall : ∀ i, i < 12 → ∀ j, j < 12 → digitAt i = digitAt j → i = j := by decide
  exact hall i hi j hj h1
theorem sized_put {sz : Nat → Int} {c : Cs} {j : Nat} {v : List Int} {cost : Int} (h : Sized sz c.S) (hj : j < 12) (hb : badE (keyB j) cost = false) (hr : ¬ ((keyB j).size + v.length : Int) > c.room) : Sized (fun k => if k = j then ((v.length + 2 : Nat) : Int) else sz k) (putC c (keyB j) v cost).2.S := by
  unfold putC
  rw [if_neg (by rw [hb]; simp), if_neg hr]
  obtain ⟨P, e⟩ := evict_suffix c.room ((keyB j).size + v.length) c.level c.thrown (outE (keyB j) c.S)
  intro y hy
  rcases List.mem_cons.1 ((insE_perm _ _).mem_iff.1 hy) with h1 | h1
  · refine ⟨j, hj, by rw [h1], ?_⟩
    rw [h1]
    show (if j = j then ((v.length + 2 : Nat) : Int) else sz j) = ((2 + v.length : Nat) : Int)
    rw [if_pos rfl]; omega
  · have h2 : y ∈ outE (keyB j) c.S := by rw [e]; exact List.mem_append.2 (.inr h1)
    obtain ⟨h3, h4⟩ := mem_outE.1 h2
    obtain ⟨i, hi, h5, h6⟩ := h y h3
    refine ⟨i, hi, h5, ?_⟩
    have : i ≠ j := fun e => h4 (by rw [h5, e])
    show (if i = j then _ else sz i) = _
    rw [if_neg this]; exact h6
theorem sized_get {sz : Nat → Int} {c : Cs} {k : ByteArray} (h : Sized sz c.S) : Sized sz (getC c k).2.S := by
  unfold getC
  cases hg : getE k c.S with
  | none => exact h
  | some x =>
    intro y hy
    rcases List.mem_cons.1 ((insE_perm _ _).mem_iff.1 hy) with h1 | h1
    · obtain ⟨j, hj, h2, h3⟩ := h x (getE_some hg).1
      exact ⟨j, hj, by rw [h1]; exact h2, by rw [h1]; exact h3⟩
    · exact h y (mem_outE.1 h1).1
end Go.Proofs.Ytogedbednfbkmaa
