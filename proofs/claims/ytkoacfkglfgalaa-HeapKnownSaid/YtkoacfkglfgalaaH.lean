/- What a push, and a pop, does to the row's memory. Conditions: those that each theorem names. -/
import Derived.Test.YtkoacfkglfgalaaD
namespace Go.Proofs.Ytkoacfkglfgalaa
open Go.RowKit Go.Maps
section
variable {w w' w1 : World} {hb rb mb n n' : Nat} {sv : Value} {D D' : DataW Unit} {L : List (Int × Int)}

theorem RowIs.pushed (h : RowIs w hb rb mb n sv D L) {L' : List (Int × Int)} {g cap m : Nat} {xs : List Value} (hk : Kp (fun q => sv.ownBlock = some q) w w1) (hown : w1.ownsRow 0 65 2 (.slice (some ⟨g, 0, none⟩) m cap) m xs)
    (hm : m = L'.length) (hx : xs = flat L') (hat : sv.ownBlock = some g ∨ w.heap.size ≤ g) :
    RowIs (w1.setCell ⟨rb, 0, none⟩ (.slice (some ⟨g, 0, none⟩) m cap)) hb rb mb n (.slice (some ⟨g, 0, none⟩) m cap) D L' ∧ Kp (fun q => q = rb ∨ sv.ownBlock = some q) w (w1.setCell ⟨rb, 0, none⟩ (.slice (some ⟨g, 0, none⟩) m cap)) := by
  have hgr : g ≠ rb := by
    rcases hat with e | e
    · exact (h.own_ne e).2.1
    · have := h.row.lt; omega
  have hhr : hb ≠ rb := h.head.ne_ h.row (by decide)
  refine ⟨⟨(h.head.kp hk (fun e => (h.own_ne e).1 rfl)).far hhr _, ?_, ?_, (map_kp h.map hk (fun e => (h.own_ne e).2.2 rfl)).setCell (Ne.symm (blk_map_ne h.row h.map)) _⟩, ?_⟩
  · have := (h.row.kp hk (fun e => (h.own_ne e).2.1 rfl)).set_ 0 (.slice (some ⟨g, 0, none⟩) m cap)
    simpa using this
  · subst hm hx
    exact own_kp hown ((Kp.refl (fun q => q = rb) w1).setCell (p := ⟨rb, 0, none⟩) (.inl rfl) _) (fun k hk2 e => by
      have : g = k := by simpa [Value.ownBlock] using hk2
      exact hgr (this.trans e))
  · exact (hk.mono (fun q hq => .inr hq)).setCell (p := ⟨rb, 0, none⟩) (.inl (.inl rfl)) _

theorem RowIs.popped {x : Int × Int} {g cap : Nat} (h : RowIs w hb rb mb n (.slice (some ⟨g, 0, none⟩) (L.length + 1) cap) D (L ++ [x])) :
    RowIs (w.setCell ⟨rb, 0, none⟩ (.slice (some ⟨g, 0, none⟩) L.length cap)) hb rb mb n (.slice (some ⟨g, 0, none⟩) L.length cap) D L := by
  have hgr : g ≠ rb := (h.own_ne rfl).2.1
  have hhr : hb ≠ rb := h.head.ne_ h.row (by decide)
  refine ⟨h.head.far hhr _, ?_, ?_, h.map.setCell (Ne.symm (blk_map_ne h.row h.map)) _⟩
  · have := h.row.set_ 0 (.slice (some ⟨g, 0, none⟩) L.length cap)
    simpa using this
  · have ho : w.ownsRow 0 65 2 (.slice (some ⟨g, 0, none⟩) L.length cap) L.length (flat L) := by
      obtain ⟨h1, h2⟩ := h.own
      refine ⟨flat_length L, ?_⟩
      rcases h2 with ⟨hv, _⟩ | ⟨g', cap', cur, hv, hg, hh, hn, hc, hs, ht⟩
      · cases hv
      · injection hv with hv1 hv2 hv3
        injection hv1 with hv1
        injection hv1 with hv1
        subst hv1 hv3
        refine .inr ⟨g, cap, cur, rfl, hg, hh, by simp at hn; omega, hc, hs, ?_⟩
        have e : (flat (L ++ [x])).take (L.length * 2) = flat L := by
          rw [flat_append, List.take_append_of_le_length (by rw [flat_length]; exact Nat.le_refl _), ← flat_length, List.take_length]
        rw [← e, ← ht, List.take_take]
        congr 1
        simp
    exact own_kp ho ((Kp.refl (fun q => q = rb) w).setCell (p := ⟨rb, 0, none⟩) (.inl rfl) _) (fun k hk2 e => by
      have : g = k := by simpa [Value.ownBlock] using hk2
      exact hgr (this.trans e))
theorem RowIs.alloc (h : RowIs w hb rb mb n sv D L) (o : Obj) : RowIs (w.alloc o) hb rb mb n sv D L := h.kp ((Kp.refl (fun _ => False) w).alloc o) id id id (fun _ _ => id)
end
end Go.Proofs.Ytkoacfkglfgalaa
