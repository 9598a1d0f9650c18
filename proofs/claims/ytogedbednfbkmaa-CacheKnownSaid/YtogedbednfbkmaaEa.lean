/- CacheCounts: plain facts. No program is named here. -/
import Derived.Test.YtogedbednfbkmaaDb
namespace Go.Proofs.Ytogedbednfbkmaa
open Go.RowKit Go.Maps

/-- A slice of structs of k whole numbers that reads as f. -/
structure RdS (w : World) (A : Option Addr) (n k : Nat) (f : Nat → Nat → Int) : Prop where
  low : n ≤ 100000000000000
  cells : 0 < n → ∃ b off, A = some ⟨b, off, none⟩ ∧ ∀ j, j < n → ∀ l, l < k → w.cell? ⟨b, off + j * k + l, none⟩ = some (.int .i64 (f j l))
theorem RdS.below {w w' : World} {A : Option Addr} {n k : Nat} {f : Nat → Nat → Int} (h : RdS w A n k f) (hb : Below w.heap.size w w') : RdS w' A n k f :=
  ⟨h.low, fun h0 => by
    obtain ⟨b, off, e, hc⟩ := h.cells h0
    exact ⟨b, off, e, fun j hj l hl => below_cell hb (hc j hj l hl)⟩⟩

theorem evict_count (room n : Int) : ∀ (lv th : Int) (S : List En), (evict room n lv th S).2.1 + (evict room n lv th S).2.2.length = th + S.length
  | lv, th, [] => rfl
  | lv, th, x :: S => by
    unfold evict
    split
    · have := evict_count room n x.worth (th + 1) S
      simp only [List.length_cons]
      omega
    · rfl
theorem outE_count (k : ByteArray) : ∀ (S : List En), (S.map En.key).Nodup → (outE k S).length + (if hasE k S = true then 1 else 0) = S.length
  | [], _ => rfl
  | a :: S, h => by
    simp only [List.map_cons, List.nodup_cons] at h
    have ih := outE_count k S h.2
    rw [outE_cons]
    by_cases e : a.key = k
    · rw [if_pos e]
      have h1 : hasE k (a :: S) = true := hasE_iff.2 (by simp [e])
      have h2 : hasE k S = false := hasE_not.2 (by rw [← e]; exact h.1)
      rw [h1, if_pos rfl]
      rw [h2] at ih
      simp at ih ⊢
      exact ih
    · rw [if_neg e]
      have h1 : hasE k (a :: S) = hasE k S := by
        unfold hasE
        simp [e]
      rw [h1]
      simp only [List.length_cons]
      omega
/-- What a put that is let in does to the counts. -/
theorem put_counts {c : Cs} {k : ByteArray} {v : List Int} {cost : Int} (ho : Ok c) (hb : badE k cost = false) (hr : ¬ (k.size + v.length : Int) > c.room) :
    (putC c k v cost).1 = 0 ∧ (putC c k v cost).2.found = c.found ∧ (putC c k v cost).2.missed = c.missed ∧ (putC c k v cost).2.uses = c.uses + 1 ∧ (putC c k v cost).2.room = c.room ∧
      (putC c k v cost).2.thrown + (putC c k v cost).2.S.length + (if hasE k c.S = true then 1 else 0) = c.thrown + c.S.length + 1 := by
  unfold putC
  rw [if_neg (by rw [hb]; simp), if_neg hr]
  refine ⟨rfl, rfl, rfl, rfl, rfl, ?_⟩
  have h1 := evict_count c.room (k.size + v.length) c.level c.thrown (outE k c.S)
  have h2 := outE_count k c.S ho.gd.once
  have h3 : ∀ (x : En) (T : List En), ((insE x T).length : Int) = T.length + 1 := fun x T => by rw [(insE_perm x T).length_eq, List.length_cons]; rfl
  show (evict c.room (k.size + v.length) c.level c.thrown (outE k c.S)).2.1 + ((insE _ (evict c.room (k.size + v.length) c.level c.thrown (outE k c.S)).2.2).length : Int) + _ = _
  rw [h3]
  split at h2 <;> simp_all <;> omega
theorem get_counts_none {c : Cs} {k : ByteArray} (h : getE k c.S = none) : (getC c k).2 = { c with missed := c.missed + 1 } := by unfold getC; rw [h]
theorem get_counts_some {c : Cs} {k : ByteArray} {x : En} (ho : Ok c) (h : getE k c.S = some x) :
    (getC c k).2.found = c.found + 1 ∧ (getC c k).2.missed = c.missed ∧ (getC c k).2.uses = c.uses + 1 ∧ (getC c k).2.room = c.room ∧ (getC c k).2.thrown = c.thrown ∧ (getC c k).2.S.length = c.S.length := by
  have e : (getC c k).2 = useE { c with found := c.found + 1 } x (outE k c.S) := by unfold getC; rw [h]
  rw [e]
  refine ⟨rfl, rfl, rfl, rfl, rfl, ?_⟩
  obtain ⟨hx, hk⟩ := getE_some h
  have h2 := outE_count k c.S ho.gd.once
  rw [hasE_iff.2 (List.mem_map.2 ⟨x, hx, hk⟩), if_pos rfl] at h2
  show (insE _ (outE k c.S)).length = _
  rw [(insE_perm _ _).length_eq, List.length_cons]
  exact h2
theorem drop_counts {c : Cs} {k : ByteArray} (ho : Ok c) : (dropC c k).2.S.length + (if (dropC c k).1 = true then 1 else 0) = c.S.length := outE_count k c.S ho.gd.once
end Go.Proofs.Ytogedbednfbkmaa
