/- HeapPlays: the walk. Conditions: what its argument reads as. -/
import Derived.Test.YtkoacfkglfgalaaRe
import Derived.Test.YtkoacfkglfgalaaRf
import Derived.Test.YtkoacfkglfgalaaR
namespace Go.Proofs.Ytkoacfkglfgalaa
open Go.RowKit Go.Maps

/-- A slice of triples that reads as f. -/
structure RdD (w : World) (A : Option Addr) (n : Nat) (f : Nat → Nat → Int) : Prop where
  low : n ≤ 100000000000000
  wf : ∀ j l, j < n → l < 3 → Wf (f j l)
  cells : 0 < n → ∃ b off, A = some ⟨b, off, none⟩ ∧ ∀ j, j < n → ∀ l, l < 3 → w.cell? ⟨b, off + j * 3 + l, none⟩ = some (.int .i64 (f j l))
theorem RdD.below {w w' : World} {A : Option Addr} {n : Nat} {f : Nat → Nat → Int} (h : RdD w A n f) (hb : Below w.heap.size w w') : RdD w' A n f :=
  ⟨h.low, h.wf, fun h0 => by
    obtain ⟨b, off, e, hc⟩ := h.cells h0
    exact ⟨b, off, e, fun j hj l hl => below_cell hb (hc j hj l hl)⟩⟩

theorem putR_len (id r : Int) (S : List Item) : (putR id r S).length ≤ S.length + 1 := by
  unfold putR
  split
  · unfold putS
    rw [(ins_perm _ _).length_eq, List.length_cons]
    have : (outS id S).length ≤ S.length := List.length_filter_le _ _
    omega
  · omega
theorem outS_len (id : Int) (S : List Item) : (outS id S).length ≤ S.length := List.length_filter_le _ _

section
variable {B D hb mb : Nat} {w0 w w' wd : World} {S T S' T' : List Item}
/-- The same two heaps, seen from a later world on. -/
theorem Pq.rebase (h : Pq (fun q => B ≤ q) w0 w hb mb S T) (hB : B ≤ w0.heap.size) (b : Below w.heap.size w wd) : Pq (fun q => B ≤ q ∧ q < w.heap.size) wd wd hb mb S T := by
  have hk := h.kp.size
  obtain ⟨F, G, h1, h2, h3, h4⟩ := h.isH
  refine ⟨⟨F, G, h1.below b, h2.below b, fun q hq => ?_, fun q hq => ?_⟩, Kp.refl _ _⟩
  · obtain ⟨h5, h6, h7⟩ := h3 q hq
    exact ⟨.inl ⟨by rcases h5 with h5 | h5 <;> omega, h6⟩, Nat.lt_of_lt_of_le h6 b.size, h7⟩
  · obtain ⟨h5, h6⟩ := h4 q hq
    exact ⟨.inl ⟨by rcases h5 with h5 | h5 <;> omega, h6⟩, Nat.lt_of_lt_of_le h6 b.size⟩
theorem Pq.unbase (h0 : Pq (fun q => B ≤ q) w0 w hb mb S T) (hB : B ≤ w0.heap.size) (b : Below w.heap.size w wd) {hb' mb' : Nat} (h : Pq (fun q => B ≤ q ∧ q < w.heap.size) wd w' hb' mb' S' T') : Pq (fun q => B ≤ q) w0 w' hb' mb' S' T' := by
  have hk := h0.kp.size
  have hbs := b.size
  obtain ⟨F, G, h1, h2, h3, h4⟩ := h.isH
  refine ⟨⟨F, G, h1, h2, fun q hq => ?_, fun q hq => ?_⟩, (h0.kp.below b).trans h.kp (fun q hq => .inl hq.1)⟩
  · obtain ⟨h5, h6, h7⟩ := h3 q hq
    exact ⟨.inl (by rcases h5 with ⟨h5, _⟩ | h5 <;> omega), h6, h7⟩
  · obtain ⟨h5, h6⟩ := h4 q hq
    exact ⟨.inl (by rcases h5 with ⟨h5, _⟩ | h5 <;> omega), h6⟩

/-- A new heap and a new reference heap. -/
theorem Pq.start {w1 w2 : World} (hN : IsH (fun q => w.heap.size ≤ q) w1 hb []) (b1 : Below w.heap.size w w1) (hM : Rf (fun q => w1.heap.size ≤ q) w2 mb []) (b2 : Below w1.heap.size w1 w2) : Pq (fun q => w.heap.size ≤ q) w w2 hb mb [] [] := by
  have k1 := b1.size
  have k2 := b2.size
  exact ⟨⟨_, _, hN.blocks.below b2, hM.blocks, fun q hq => ⟨.inl hq.1, by have := hq.2; omega, fun x => by have := x.1; have := hq.2; omega⟩, fun q hq => ⟨.inl (by have := hq.1; omega), hq.2⟩⟩, Kp.of_below (b1.trans (b2.mono k1)) _⟩

theorem Pq.rcopy {U : Nat → Prop} (h : Pq U w0 w hb mb S T) (hT : T.length ≤ 1000) : Calls Try.prog 25 #[.pointer (some ⟨mb, 0, none⟩)] w fun e w' => ∃ mb', e = .returned (.pointer (some ⟨mb', 0, none⟩)) ∧ Rf (fun q => w.heap.size ≤ q) w' mb' T ∧ Below w.heap.size w w' := by
  obtain ⟨F, G, h1, h2, h3, h4⟩ := h.isH
  exact rcopy_c h2 hT
theorem Pq.copy {U : Nat → Prop} (h : Pq U w0 w hb mb S T) : Calls Try.prog 26 #[.pointer (some ⟨hb, 0, none⟩)] w fun e w' => ∃ hb', e = .returned (.pointer (some ⟨hb', 0, none⟩)) ∧ IsH (fun q => w.heap.size ≤ q) w' hb' S ∧ Below w.heap.size w w' := by
  obtain ⟨F, G, h1, h2, h3, h4⟩ := h.isH
  exact copy_c h1

/-- Both are copied: the old heap beside the new reference heap, the new heap beside the old reference heap. -/
theorem Pq.copied {U : Nat → Prop} {w1 w2 : World} {hb' mb' : Nat} (h : Pq U w0 w hb mb S S) (hR : Rf (fun q => w.heap.size ≤ q) w1 mb' S) (b1 : Below w.heap.size w w1) (hI : IsH (fun q => w1.heap.size ≤ q) w2 hb' S) (b2 : Below w1.heap.size w1 w2) :
    ∃ V, Pq V w2 w2 hb mb' S S ∧ ∀ w3, Kp V w2 w3 → Pq U w0 w3 hb' mb S S := by
  have k0 := h.kp.size
  have k1 := b1.size
  have k2 := b2.size
  have b12 : Below w.heap.size w w2 := b1.trans (b2.mono k1)
  obtain ⟨F, G, h1, h2, h3, h4⟩ := h.isH
  have hR' := (hR.blocks).below b2
  refine ⟨fun q => F q ∨ (w.heap.size ≤ q ∧ q < w1.heap.size), ⟨⟨F, _, h1.below b12, hR', fun q hq => ?_, fun q hq => ?_⟩, Kp.refl _ _⟩, fun w3 hk => ?_⟩
  · obtain ⟨h5, h6, h7⟩ := h3 q hq
    exact ⟨.inl (.inl hq), by omega, fun x => by have := x.1; omega⟩
  · exact ⟨.inl (.inr hq), by have := hq.2; omega⟩
  · have hs := hk.size
    have hI' : IsH (fun q => w1.heap.size ≤ q ∧ q < w2.heap.size) w3 hb' S := hI.blocks.kp hk (fun q hq x => by
      rcases x with x | x
      · have := (h3 q x).2.1; omega
      · omega)
    have hG' : Rf G w3 mb S := (h2.below b12).kp hk (fun q hq x => by
      rcases x with x | x
      · exact (h3 q x).2.2 hq
      · have := (h4 q hq).2; omega)
    refine ⟨⟨_, G, hI', hG', fun q hq => ⟨.inr (by omega), by omega, fun x => by have := (h4 q x).2; omega⟩, fun q hq => ⟨(h4 q hq).1, by have := (h4 q hq).2; omega⟩⟩, ?_⟩
    refine (h.kp.below b12).trans hk (fun q x => ?_)
    rcases x with x | x
    · exact (h3 q x).1
    · exact .inr (by omega)
end
end Go.Proofs.Ytkoacfkglfgalaa
