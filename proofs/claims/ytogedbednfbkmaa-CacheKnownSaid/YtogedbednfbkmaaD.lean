/- The row of entries: its method Swap. Conditions: those that each theorem names. -/
import Derived.Test.YtogedbednfbkmaaC
namespace Go.Proofs.Ytogedbednfbkmaa
open Go.RowKit Go.Maps

theorem own_set {w : World} {base : Nat} {e : TypeId} {size n m cap g : Nat} {xs : List Value} (h : w.ownsRow base e size (.slice (some ⟨g, 0, none⟩) m cap) n xs) (j : Nat) (_hj : j < xs.length) (u : Value) :
    (w.setCell ⟨g, j, none⟩ u).ownsRow base e size (.slice (some ⟨g, 0, none⟩) m cap) n (xs.set j u) := by
  obtain ⟨h1, h2⟩ := h
  refine ⟨by simpa using h1, ?_⟩
  rcases h2 with ⟨hv, _⟩ | ⟨g', cap', cur, hv, hg, hh, hn, hc, hs, ht⟩
  · cases hv
  · injection hv with hv1 hv2 hv3
    injection hv1 with hv1
    injection hv1 with hv1
    subst hv1
    refine .inr ⟨g, cap', cur.setIfInBounds j u, by rw [hv2, hv3], hg, ?_, hn, hc, by simpa using hs, ?_⟩
    · simp [World.setCell, Array.getElem?_modify, hh]
    · rw [Array.toList_setIfInBounds, List.take_set, ht]
theorem own_frozen {w : World} {base : Nat} {e : TypeId} {size n m cap g : Nat} {xs : List Value} (h : w.ownsRow base e size (.slice (some ⟨g, 0, none⟩) m cap) n xs) (j : Nat) : w.frozen? ⟨g, j, none⟩ = false := by
  rcases h.2 with ⟨hv, _⟩ | ⟨g', cap', cur, hv, hg, hh, _⟩
  · cases hv
  · injection hv with hv1 hv2 hv3
    injection hv1 with hv1
    injection hv1 with hv1
    subst hv1
    exact Blk.frozen (t := e) hh j

/-- The world behind a Swap: the row rg, the entries x at i, y at k. -/
def swapW (w : World) (rg i k gx gy : Nat) : World :=
  ((((w.setCell ⟨rg, i, none⟩ (ptr gy)).setCell ⟨rg, k, none⟩ (ptr gx)).drew.setCell ⟨gy, 5, none⟩ (.int .i64 i)).setCell ⟨gx, 5, none⟩ (.int .i64 k)).drew

section
variable {w : World} {cb : Nat} {h : Hd} {L : List Me} {rg cap : Nat}
theorem sw_map {α β : Type} [Inhabited α] [Inhabited β] (f : α → β) (L : List α) (i k : Nat) (hi : i < L.length) (hk : k < L.length) : (sw L i k).map f = ((L.map f).set i (f (L[k]'hk))).set k (f (L[i]'hi)) := by
  simp [sw, List.map_set, List.getD_eq_getElem?_getD, hi, hk]
theorem sw_get {L : List Me} {i k : Nat} (hi : i < L.length) (hk : k < L.length) (j : Nat) (hj : j < (sw L i k).length) : (sw L i k)[j] = if j = i then L[k] else if j = k then L[i] else L[j]'(by rw [sw_length] at hj; exact hj) := by
  have hj' : j < L.length := by rw [sw_length] at hj; exact hj
  have := sw_at L i k j hi hk
  simp only [List.getD_eq_getElem?_getD, List.getElem?_eq_getElem hj, List.getElem?_eq_getElem hk, List.getElem?_eq_getElem hi, List.getElem?_eq_getElem hj', Option.getD_some] at this
  exact this

theorem RowIs.swap (r : RowIs w cb h (.slice (some ⟨rg, 0, none⟩) L.length cap) L) (i k : Nat) (hi : i < L.length) (hk : k < L.length) :
    RowIs (swapW w rg i k (L[i]'hi).g (L[k]'hk).g) cb h (.slice (some ⟨rg, 0, none⟩) L.length cap) (sw L i k) := by
  obtain ⟨n1, n2⟩ := r.own_ne (k := rg) rfl
  have ci := r.head_ne (List.getElem_mem hi)
  have ck := r.head_ne (List.getElem_mem hk)
  have hlen := sw_length L i k
  refine ⟨?_, ?_, fun j hj => ?_, ?_⟩
  · exact (((((r.head.far (Ne.symm n1) _).far (Ne.symm n1) _).drew).far ck _).far ci _).drew
  · rw [hlen, sw_map (fun m => ptr m.g) L i k hi hk]
    have o1 := own_set r.own i (by simpa using hi) (ptr (L[k]'hk).g)
    have o2 := own_set o1 k (by simpa using hk) (ptr (L[i]'hi).g)
    have k2 := ((Kp.refl (fun q => q = (L[k]'hk).g ∨ q = (L[i]'hi).g) ((w.setCell ⟨rg, i, none⟩ (ptr (L[k]'hk).g)).setCell ⟨rg, k, none⟩ (ptr (L[i]'hi).g))).drew.setCell (p := ⟨(L[k]'hk).g, 5, none⟩) (.inl (.inl rfl)) (.int .i64 i)).setCell (p := ⟨(L[i]'hi).g, 5, none⟩) (.inl (.inr rfl)) (.int .i64 k)
    refine own_kp o2 k2.drew (fun q hq x => ?_)
    have : rg = q := by simpa [Value.ownBlock] using hq
    subst this
    rcases x with x | x
    · exact n2 _ (List.getElem_mem hk) x
    · exact n2 _ (List.getElem_mem hi) x
  · have hj' : j < L.length := by rw [← hlen]; exact hj
    rw [sw_get hi hk j hj]
    have base : ∀ (q : Nat) (hq : q < L.length), Ent ((w.setCell ⟨rg, i, none⟩ (ptr (L[k]'hk).g)).setCell ⟨rg, k, none⟩ (ptr (L[i]'hi).g)).drew (L[q]'hq) q := fun q hq =>
      (((r.ents q hq).far (Ne.symm (n2 _ (List.getElem_mem hq))) _).far (Ne.symm (n2 _ (List.getElem_mem hq))) _).drew
    by_cases e1 : j = i
    · subst e1
      rw [if_pos rfl]
      by_cases e2 : k = j
      · subst e2
        have := ((((base k hk).set_ 5 (.int .i64 k)).set_ 5 (.int .i64 k))).drew
        simpa [swapW, Ent] using this
      · have := ((((base k hk).set_ 5 (.int .i64 j)).far (p := ⟨(L[j]'hi).g, 5, none⟩) (r.g_ne hk hi e2) (.int .i64 k))).drew
        simpa [swapW, Ent] using this
    · rw [if_neg e1]
      by_cases e2 : j = k
      · subst e2
        rw [if_pos rfl]
        have := ((((base i hi).far (p := ⟨(L[j]'hk).g, 5, none⟩) (r.g_ne hi hk (Ne.symm e1)) (.int .i64 i)).set_ 5 (.int .i64 j))).drew
        simpa [swapW, Ent] using this
      · rw [if_neg e2]
        exact ((((base j hj').far (p := ⟨(L[k]'hk).g, 5, none⟩) (r.g_ne hj' hk e2) (.int .i64 i)).far (p := ⟨(L[i]'hi).g, 5, none⟩) (r.g_ne hj' hi e1) (.int .i64 k))).drew
  · exact ((sw_perm L i k hi hk).map Me.g).nodup_iff.2 r.nd
theorem swapW_kp (w : World) (rg i k gx gy : Nat) : Kp (fun q => q = rg ∨ q = gx ∨ q = gy) w (swapW w rg i k gx gy) :=
  (((((Kp.refl (fun q => q = rg ∨ q = gx ∨ q = gy) w).setCell (p := ⟨rg, i, none⟩) (.inl (.inl rfl)) _).setCell (p := ⟨rg, k, none⟩) (.inl (.inl rfl)) _).drew.setCell (p := ⟨gy, 5, none⟩) (.inl (.inr (.inr rfl))) _).setCell (p := ⟨gx, 5, none⟩) (.inl (.inr (.inl rfl))) _).drew

set_option maxHeartbeats 1000000 in
set_option maxRecDepth 100000 in
theorem swap_c (r : RowIs w cb h (.slice (some ⟨rg, 0, none⟩) L.length cap) L) (i k : Nat) (hi : i < L.length) (hk : k < L.length) (hne : i ≠ k) :
    Calls Try.prog 92 #[.slice (some ⟨rg, 0, none⟩) L.length cap, .int .i64 i, .int .i64 k] w fun e w' => e = .returned (.tuple #[]) ∧ w' = swapW w rg i k (L[i]'hi).g (L[k]'hk).g := by
  obtain ⟨g', cap', hv, hg, hc⟩ := r.item hi
  injection hv with q1 q2 q3
  injection q1 with q1
  injection q1 with q1
  subst q1
  have ri := hc i hi
  have rk := hc k hk
  have fr := own_frozen r.own
  obtain ⟨n1, n2⟩ := r.own_ne (k := rg) rfl
  have ei := r.ents i hi
  have ek := r.ents k hk
  have ni := n2 _ (List.getElem_mem hi)
  have nk := n2 _ (List.getElem_mem hk)
  have b1 : (0 : Int) ≤ (i : Int) := by omega
  have b2 : (i : Int) < (L.length : Int) := by omega
  have b3 : (0 : Int) ≤ (k : Int) := by omega
  have b4 : (k : Int) < (L.length : Int) := by omega
  have fi := ei.frozen 5
  have fk := ek.frozen 5
  have xi := ei.cell 5
  have xk := ek.cell 5
  have nx := r.g_ne hi hk hne
  generalize L[i].g = gx at *
  generalize L[k].g = gy at *
  have m1 : ¬ (i = k) := hne
  have m2 : ¬ (k = i) := fun e => hne e.symm
  clear r hc n2 ei ek
  go_enter Try.func92, Try.ntmps92
  go_wp2
  go_region
  have e0 : ((w.setCell ⟨rg, i, none⟩ (ptr gy)).setCell ⟨rg, k, none⟩ (ptr gx)).drew.cell? ⟨rg, i, none⟩ = some (.pointer (some ⟨gy, 0, none⟩)) := by
    unfold ptr; go_simp
  have e1 : ((w.setCell ⟨rg, i, none⟩ (ptr gy)).setCell ⟨rg, k, none⟩ (ptr gx)).drew.cell? ⟨rg, k, none⟩ = some (.pointer (some ⟨gx, 0, none⟩)) := by
    unfold ptr; go_simp
  have e2 : ((w.setCell ⟨rg, i, none⟩ (ptr gy)).setCell ⟨rg, k, none⟩ (ptr gx)).drew.cell? ⟨gx, 5, none⟩ = some (.int .i64 i) := by
    go_simp
  have e3 : ((w.setCell ⟨rg, i, none⟩ (ptr gy)).setCell ⟨rg, k, none⟩ (ptr gx)).drew.cell? ⟨gy, 5, none⟩ = some (.int .i64 k) := by
    go_simp
  have e4 : ((w.setCell ⟨rg, i, none⟩ (ptr gy)).setCell ⟨rg, k, none⟩ (ptr gx)).drew.frozen? ⟨gx, 5, none⟩ = false := by
    go_simp
  have e5 : ((w.setCell ⟨rg, i, none⟩ (ptr gy)).setCell ⟨rg, k, none⟩ (ptr gx)).drew.frozen? ⟨gy, 5, none⟩ = false := by
    go_simp
  change Exit.then _ _ _ _ (((w.setCell ⟨rg, i, none⟩ (ptr gy)).setCell ⟨rg, k, none⟩ (ptr gx)).drew)
  have HW := hid_ (show swapW w rg i k gx gy = ((((w.setCell ⟨rg, i, none⟩ (ptr gy)).setCell ⟨rg, k, none⟩ (ptr gx)).drew.setCell ⟨gy, 5, none⟩ (.int .i64 i)).setCell ⟨gx, 5, none⟩ (.int .i64 k)).drew from rfl)
  generalize ((w.setCell ⟨rg, i, none⟩ (ptr gy)).setCell ⟨rg, k, none⟩ (ptr gx)).drew = W1 at *
  clear ri rk fr xi xk fi fk
  go_wp2
  go_region
  go_wp2
  go_returns
  exact ⟨rfl, HW.out.symm⟩
end
end Go.Proofs.Ytogedbednfbkmaa
