/- Two heaps of a call's own, side by side. Conditions: those that each theorem names. -/
import Derived.Test.YtkoacfkglfgalaaV
namespace Go.Proofs.Ytkoacfkglfgalaa
open Go.RowKit Go.Maps

/-- Two heaps of the call's own: their blocks from B on, none of X among them, and none in common; below B nothing has turned since w0. -/
structure Tp (X : Nat → Prop) (B : Nat) (w0 w : World) (ha hb : Nat) (S T : List Item) : Prop where
  isH : ∃ F G, IsH F w ha S ∧ IsH G w hb T ∧ (∀ q, F q → B ≤ q ∧ q < w.heap.size ∧ ¬ X q ∧ ¬ G q) ∧ (∀ q, G q → B ≤ q ∧ q < w.heap.size ∧ ¬ X q)
  below : Below B w0 w
  le : B ≤ w.heap.size
  old : ∀ q, X q → q < w.heap.size
section
variable {X Y : Nat → Prop} {B ha hb : Nat} {w0 w w' : World} {S T S' : List Item}
theorem Tp.swap (h : Tp X B w0 w ha hb S T) : Tp X B w0 w hb ha T S := by
  obtain ⟨F, G, h1, h2, h3, h4⟩ := h.isH
  exact ⟨⟨G, F, h2, h1, fun q hq => ⟨(h4 q hq).1, (h4 q hq).2.1, (h4 q hq).2.2, fun hf => (h3 q hf).2.2.2 hq⟩, fun q hq => ⟨(h3 q hq).1, (h3 q hq).2.1, (h3 q hq).2.2.1⟩⟩, h.below, h.le, h.old⟩
theorem Tp.srt (h : Tp X B w0 w ha hb S T) : Srt S := by
  obtain ⟨F, G, h1, _⟩ := h.isH
  exact h1.srt
theorem Tp.good (h : Tp X B w0 w ha hb S T) : Good S := by
  obtain ⟨F, G, h1, _⟩ := h.isH
  exact h1.good
/-- What a call on the first heap leaves. -/
structure TpL (X : Nat → Prop) (B : Nat) (w0 w : World) (ha hb : Nat) (S T : List Item) (w' : World) : Prop where
  tp : Tp X B w0 w' ha hb S T
  kp : Kp (fun q => B ≤ q ∧ ¬ X q) w w'
theorem Tp.on {F G : Nat → Prop} (h : Tp X B w0 w ha hb S T) (h2 : IsH G w hb T) (h3 : ∀ q, F q → B ≤ q ∧ q < w.heap.size ∧ ¬ X q ∧ ¬ G q) (h4 : ∀ q, G q → B ≤ q ∧ q < w.heap.size ∧ ¬ X q) (l : Left F w ha S' w') :
    TpL X B w0 w ha hb S' T w' := by
  refine ⟨⟨⟨_, G, l.isH.blocks, h2.kp l.kp (fun q hq hf => (h3 q hf).2.2.2 hq), fun q hq => ?_, fun q hq => ⟨(h4 q hq).1, Nat.lt_of_lt_of_le (h4 q hq).2.1 l.kp.size, (h4 q hq).2.2⟩⟩, h.below.trans (l.kp.toBelow h.le (fun k hk x => by have := h3 k x; omega)), Nat.le_trans h.le l.kp.size, fun q hq => Nat.lt_of_lt_of_le (h.old q hq) l.kp.size⟩, l.kp.mono (fun q hq => ⟨(h3 q hq).1, (h3 q hq).2.2.1⟩)⟩
  obtain ⟨h5, h6⟩ := hq
  rcases h5 with h5 | h5
  · exact ⟨(h3 q h5).1, h6, (h3 q h5).2.2.1, (h3 q h5).2.2.2⟩
  · exact ⟨Nat.le_trans h.le h5, h6, fun x => by have := h.old q x; omega, fun x => by have := h4 q x; omega⟩
theorem Tp.after (h : Tp X B w0 w ha hb S T) (b : Below w.heap.size w w') : Tp X B w0 w' ha hb S T := by
  obtain ⟨F, G, h1, h2, h3, h4⟩ := h.isH
  exact ⟨⟨F, G, h1.below b, h2.below b, fun q hq => ⟨(h3 q hq).1, Nat.lt_of_lt_of_le (h3 q hq).2.1 b.size, (h3 q hq).2.2⟩, fun q hq => ⟨(h4 q hq).1, Nat.lt_of_lt_of_le (h4 q hq).2.1 b.size, (h4 q hq).2.2⟩⟩, h.below.trans (b.mono h.le), Nat.le_trans h.le b.size, fun q hq => Nat.lt_of_lt_of_le (h.old q hq) b.size⟩
theorem Tp.drew (h : Tp X B w0 w ha hb S T) : Tp X B w0 w.drew ha hb S T := h.after (Below.refl _ w).drew
theorem Tp.set_ (h : Tp X B w0 w ha hb S T) {p : Addr} (hp : X p.block) (hB : B ≤ p.block) (u : Value) : Tp X B w0 (w.setCell p u) ha hb S T := by
  obtain ⟨F, G, h1, h2, h3, h4⟩ := h.isH
  have hs : (w.setCell p u).heap.size = w.heap.size := by simp [World.setCell]
  have hk := (Kp.refl (fun q => q = p.block) w).setCell (.inl rfl) u
  exact ⟨⟨F, G, h1.kp hk (fun q hq e => (h3 q hq).2.2.1 (e ▸ hp)), h2.kp hk (fun q hq e => (h4 q hq).2.2 (e ▸ hp)), fun q hq => by rw [hs]; exact h3 q hq, fun q hq => by rw [hs]; exact h4 q hq⟩, h.below.setCell hB u, by rw [hs]; exact h.le, fun q hq => by rw [hs]; exact h.old q hq⟩
/-- A block that is neither heap's: it joins X. -/
theorem Tp.fence (h : Tp X B w0 w ha hb S T) (hY : ∀ q, Y q → q < w.heap.size) (hn : ∀ q, Y q → X q ∨ q < B) : Tp Y B w0 w ha hb S T := by
  obtain ⟨F, G, h1, h2, h3, h4⟩ := h.isH
  exact ⟨⟨F, G, h1, h2, fun q hq => ⟨(h3 q hq).1, (h3 q hq).2.1, fun y => (hn q y).elim (h3 q hq).2.2.1 (fun z => by have := h3 q hq; omega), (h3 q hq).2.2.2⟩, fun q hq => ⟨(h4 q hq).1, (h4 q hq).2.1, fun y => (hn q y).elim (h4 q hq).2.2 (fun z => by have := h4 q hq; omega)⟩⟩, h.below, h.le, hY⟩
/-- A new block joins X. -/
theorem Tp.alloc (h : Tp X B w0 w ha hb S T) (o : Obj) (hY : ∀ q, Y q → X q ∨ q = w.heap.size) : Tp Y B w0 (w.alloc o) ha hb S T := by
  have hA := h.after ((Below.refl _ w).alloc (Nat.le_refl _) o)
  obtain ⟨F, G, h1, h2, h3, h4⟩ := h.isH
  have b := (Below.refl w.heap.size w).alloc (Nat.le_refl _) o
  refine ⟨⟨F, G, h1.below b, h2.below b, fun q hq => ⟨(h3 q hq).1, Nat.lt_of_lt_of_le (h3 q hq).2.1 b.size, fun y => ?_, (h3 q hq).2.2.2⟩, fun q hq => ⟨(h4 q hq).1, Nat.lt_of_lt_of_le (h4 q hq).2.1 b.size, fun y => ?_⟩⟩, hA.below, hA.le, fun q hq => ?_⟩
  · have := h3 q hq
    rcases hY q y with x | x
    · exact this.2.2.1 x
    · omega
  · have := h4 q hq
    rcases hY q y with x | x
    · exact this.2.2 x
    · omega
  · rcases hY q hq with x | x
    · exact Nat.lt_of_lt_of_le (h.old q x) b.size
    · subst x; simp
/-- Two new heaps. -/
theorem Tp.start {w1 : World} (hB : B ≤ w.heap.size) (hb0 : Below B w0 w) (h1 : IsH (fun q => w.heap.size ≤ q) w1 ha []) (b1 : Below w.heap.size w w1) (h2 : IsH (fun q => w1.heap.size ≤ q) w' hb []) (b2 : Below w1.heap.size w1 w') :
    Tp (fun _ => False) B w0 w' ha hb [] [] :=
  ⟨⟨_, _, (h1.blocks).below b2, h2.blocks, fun q hq => ⟨Nat.le_trans hB hq.1, Nat.lt_of_lt_of_le hq.2 b2.size, id, fun x => by have := x.1; have := hq.2; omega⟩, fun q hq => ⟨Nat.le_trans hB (Nat.le_trans b1.size hq.1), hq.2, id⟩⟩, (hb0.trans (b1.mono hB)).trans (b2.mono (Nat.le_trans hB b1.size)), Nat.le_trans hB (Nat.le_trans b1.size b2.size), fun _ h => h.elim⟩

theorem Tp.put (h : Tp X B w0 w ha hb S T) (id r : Int) : Calls Try.prog 12 #[.pointer (some ⟨ha, 0, none⟩), .int .i64 id, .int .i64 r] w fun e w' => e = .returned (.int .i64 (putE id r)) ∧ TpL X B w0 w ha hb (putR id r S) T w' := by
  obtain ⟨F, G, h1, h2, h3, h4⟩ := h.isH
  exact (put_any h1 id r).mono fun e w' ⟨he, hl⟩ => ⟨he, h.on h2 h3 h4 hl⟩
theorem Tp.pop (h : Tp X B w0 w ha hb S T) : Calls Try.prog 14 #[.pointer (some ⟨ha, 0, none⟩)] w fun e w' => e = .returned (.tuple #[.int .i64 (popI S), .int .i64 (popK S), .int .i64 (popE S)]) ∧ TpL X B w0 w ha hb S.tail T w' := by
  obtain ⟨F, G, h1, h2, h3, h4⟩ := h.isH
  exact (pop_any h1).mono fun e w' ⟨he, hl⟩ => ⟨he, h.on h2 h3 h4 hl⟩
theorem Tp.remove (h : Tp X B w0 w ha hb S T) (id : Int) (hw : Wf id) : Calls Try.prog 19 #[.pointer (some ⟨ha, 0, none⟩), .int .i64 id] w fun e w' => e = .returned (.int .i64 (remE id S)) ∧ TpL X B w0 w ha hb (outS id S) T w' := by
  obtain ⟨F, G, h1, h2, h3, h4⟩ := h.isH
  exact (remove_any h1 id hw).mono fun e w' ⟨he, hl⟩ => ⟨he, h.on h2 h3 h4 hl⟩
theorem Tp.rank (h : Tp X B w0 w ha hb S T) (id : Int) (hw : Wf id) : Calls Try.prog 18 #[.pointer (some ⟨ha, 0, none⟩), .int .i64 id] w fun e w' => e = .returned (.tuple #[.int .i64 (rankS id S), .bool (hasS id S)]) ∧ w = w' := by
  obtain ⟨F, G, h1, _⟩ := h.isH
  exact rank_any h1 id hw
theorem Tp.len (h : Tp X B w0 w ha hb S T) : Calls Try.prog 13 #[.pointer (some ⟨ha, 0, none⟩)] w fun e w' => e = .returned (.int .i64 S.length) ∧ w = w' := by
  obtain ⟨F, G, h1, _⟩ := h.isH
  exact hlen_c h1
theorem Tp.ids (h : Tp X B w0 w ha hb S T) : Calls Try.prog 17 #[.pointer (some ⟨ha, 0, none⟩)] w fun e w' => ∃ A c, e = .returned (.slice A S.length c) ∧ w'.ownsRow w.heap.size 3 1 (.slice A S.length c) S.length ((idsS S).map (.int .i64)) ∧ Below w.heap.size w w' := by
  obtain ⟨F, G, h1, _⟩ := h.isH
  exact ids_c h1
theorem TpL.swap (h : TpL X B w0 w hb ha T S w') : TpL X B w0 w ha hb S T w' := ⟨h.tp.swap, h.kp⟩
end

/-- Two sorted lists of the same items are one. -/
theorem srt_ext : ∀ {S T : List Item}, Srt S → Srt T → (∀ p, p ∈ S ↔ p ∈ T) → S = T
  | [], [], _, _, _ => rfl
  | [], y :: T, _, _, h => absurd ((h y).2 (by simp)) (by simp)
  | x :: S, [], _, _, h => absurd ((h x).1 (by simp)) (by simp)
  | x :: S, y :: T, hs, ht, h => by
    have hs1 := List.pairwise_cons.1 hs
    have ht1 := List.pairwise_cons.1 ht
    have asym : ∀ a b : Item, ltI a b = true → ltI b a = true → False := fun a b h1 h2 => by
      simp [ltI] at h1 h2
      omega
    have hxy : x = y := by
      have h1 := (h x).1 (by simp)
      have h2 := (h y).2 (by simp)
      rcases List.mem_cons.1 h1 with e | h1
      · exact e
      · rcases List.mem_cons.1 h2 with e | h2
        · exact e.symm
        · exact (asym _ _ (hs1.1 y h2) (ht1.1 x h1)).elim
    subst hxy
    congr 1
    refine srt_ext hs1.2 ht1.2 (fun p => ⟨fun hp => ?_, fun hp => ?_⟩)
    · rcases List.mem_cons.1 ((h p).1 (by simp [hp])) with e | h1
      · subst e; exact (asym _ _ (hs1.1 p hp) (hs1.1 p hp)).elim
      · exact h1
    · rcases List.mem_cons.1 ((h p).2 (by simp [hp])) with e | h1
      · subst e; exact (asym _ _ (ht1.1 p hp) (ht1.1 p hp)).elim
      · exact h1
theorem putR_ok {id r : Int} {S : List Item} (h : 0 ≤ id ∧ id ≤ 9999 ∧ 0 ≤ r ∧ r ≤ 9007199254740991) : putR id r S = putS id r S := by
  unfold putR okP
  rw [if_pos (decide_eq_true h)]
theorem len_put_le {id r : Int} {S : List Item} (g : Good S) : (putS id r S).length ≤ S.length + 1 := by
  rw [len_putS g]
  split <;> omega
end Go.Proofs.Ytkoacfkglfgalaa
