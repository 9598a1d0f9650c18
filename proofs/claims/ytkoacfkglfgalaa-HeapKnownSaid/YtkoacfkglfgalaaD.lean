/- The row of items: its method Swap. Conditions: those that each theorem names. -/
import Derived.Test.YtkoacfkglfgalaaC
namespace Go.Proofs.Ytkoacfkglfgalaa
open Go.RowKit Go.Maps

theorem own_set {w : World} {base : Nat} {e : TypeId} {size n m cap g : Nat} {xs : List Value} (h : w.ownsRow base e size (.slice (some ⟨g, 0, none⟩) m cap) n xs) (j : Nat) (hj : j < xs.length) (u : Value) :
    (w.setCell ⟨g, j, none⟩ u).ownsRow base e size (.slice (some ⟨g, 0, none⟩) m cap) n (xs.set j u) := by
  obtain ⟨h1, h2⟩ := h
  refine ⟨by simpa using h1, ?_⟩
  rcases h2 with ⟨hv, _⟩ | ⟨g', cap', cur, hv, hg, hh, hn, hc, hs, ht⟩
  · cases hv
  · injection hv with hv1 hv2 hv3
    injection hv1 with hv1
    injection hv1 with hv1
    subst hv1
    refine .inr ⟨g, cap', cur.setIfInBounds j u, by rw [hv2, hv3], hg, ?_, hn, hc, by simpa using hs, ?_⟩
    · simp [World.setCell, Array.getElem?_modify, hh]
    · rw [Array.toList_setIfInBounds, List.take_set, ht]

theorem flat_set : ∀ (L : List (Int × Int)) (i : Nat) (p : Int × Int), flat (L.set i p) = ((flat L).set (i * 2) (.int .i64 p.1)).set (i * 2 + 1) (.int .i64 p.2)
  | [], i, p => by simp [flat]
  | a :: L, 0, p => by simp [flat_cons]
  | a :: L, i + 1, p => by
    rw [List.set_cons_succ, flat_cons, flat_cons, flat_set L i p, show (i + 1) * 2 = i * 2 + 1 + 1 by omega]
    simp

def swapL (L : List (Int × Int)) (i k : Nat) : List (Int × Int) := (L.set i (L.getD k (0, 0))).set k (L.getD i (0, 0))
theorem swapL_length (L : List (Int × Int)) (i k : Nat) : (swapL L i k).length = L.length := by simp [swapL]

/-- A world in which two items have changed places. -/
def swapW (w : World) (g i k : Nat) (x y : Int × Int) : World :=
  ((((w.setCell ⟨g, i * 2, none⟩ (.int .i64 y.1)).setCell ⟨g, i * 2 + 1, none⟩ (.int .i64 y.2)).setCell ⟨g, k * 2, none⟩ (.int .i64 x.1)).setCell ⟨g, k * 2 + 1, none⟩ (.int .i64 x.2)).drew

section
variable {w w' : World} {hb rb mb n n' : Nat} {sv : Value} {D D' : DataW Unit} {L : List (Int × Int)}
/-- The map alone has turned. -/
theorem RowIs.turn (h : RowIs w hb rb mb n sv D L) (hm : MapIs w' mb n' D') (hk : Kp (fun q => q = mb) w w') : RowIs w' hb rb mb n' sv D' L :=
  ⟨h.head.kp hk (blk_map_ne h.head h.map), h.row.kp hk (blk_map_ne h.row h.map), own_kp h.own hk (fun k hv e => by
    subst e
    obtain ⟨_, _, hh, _⟩ := h.map
    rcases h.own.2 with ⟨h1, _⟩ | ⟨g, _, _, h1, _, h2, _⟩
    · rw [h1] at hv; simp [Value.ownBlock] at hv
    · rw [h1] at hv
      have : g = k := by simpa [Value.ownBlock] using hv
      subst this
      rw [h2] at hh
      cases hh), hm⟩
theorem RowIs.drew (h : RowIs w hb rb mb n sv D L) : RowIs w.drew hb rb mb n sv D L := ⟨h.head.drew, h.row.drew, h.own, h.map.drew⟩
theorem RowIs.own_ne (h : RowIs w hb rb mb n sv D L) {k : Nat} (hk : sv.ownBlock = some k) : k ≠ hb ∧ k ≠ rb ∧ k ≠ mb := by
  refine ⟨fun e => own_blk_ne h.own h.head (by decide) (e ▸ hk), fun e => own_blk_ne h.own h.row (by decide) (e ▸ hk), fun e => ?_⟩
  subst e
  obtain ⟨_, _, hh, _⟩ := h.map
  rcases h.own.2 with ⟨h1, _⟩ | ⟨g, _, _, h1, _, h2, _⟩
  · rw [h1] at hk; simp [Value.ownBlock] at hk
  · rw [h1] at hk
    have : g = k := by simpa [Value.ownBlock] using hk
    subst this
    rw [h2] at hh
    cases hh

theorem RowIs.swap (h : RowIs w hb rb mb n sv D L) {g cap : Nat} (hv : sv = .slice (some ⟨g, 0, none⟩) L.length cap) (i k : Nat) (hi : i < L.length) (hk : k < L.length) :
    RowIs (swapW w g i k (L[i]'hi) (L[k]'hk)) hb rb mb n sv D (swapL L i k) := by
  have hgk : sv.ownBlock = some g := by rw [hv]; rfl
  obtain ⟨g1, g2, g3⟩ := h.own_ne hgk
  have e1 : L.getD k (0, 0) = L[k] := by simp [List.getD_eq_getElem?_getD, hk]
  have e2 : L.getD i (0, 0) = L[i] := by simp [List.getD_eq_getElem?_getD, hi]
  have hown := h.own
  have hl := flat_length L
  subst hv
  have o1 := own_set hown (i * 2) (by omega) (.int .i64 (L[k]).1)
  have o2 := own_set o1 (i * 2 + 1) (by simp; omega) (.int .i64 (L[k]).2)
  have o3 := own_set o2 (k * 2) (by simp; omega) (.int .i64 (L[i]).1)
  have o4 := own_set o3 (k * 2 + 1) (by simp; omega) (.int .i64 (L[i]).2)
  refine ⟨((((h.head.far ?_ _).far ?_ _).far ?_ _).far ?_ _).drew, ((((h.row.far ?_ _).far ?_ _).far ?_ _).far ?_ _).drew, ?_, ((((h.map.setCell ?_ _).setCell ?_ _).setCell ?_ _).setCell ?_ _).drew⟩
  iterate 4 exact fun e => g1 e.symm
  iterate 4 exact fun e => g2 e.symm
  · rw [swapL_length, swapL, e1, e2, flat_set, flat_set]
    exact o4
  iterate 4 exact fun e => g3 e.symm
theorem swapW_kp (w : World) (g i k : Nat) (x y : Int × Int) : Kp (fun q => q = g) w (swapW w g i k x y) :=
  ((((((Kp.refl (fun q => q = g) w).setCell (p := ⟨g, i * 2, none⟩) (.inl rfl) _).setCell (p := ⟨g, i * 2 + 1, none⟩) (.inl rfl) _).setCell (p := ⟨g, k * 2, none⟩) (.inl rfl) _).setCell (p := ⟨g, k * 2 + 1, none⟩) (.inl rfl) _)).drew
end

set_option maxHeartbeats 1000000 in
set_option maxRecDepth 100000 in
theorem swap_ne {hb rb mb n : Nat} {sv : Value} {D : DataW Unit} {L : List (Int × Int)} {w : World} (h : RowIs w hb rb mb n sv D L) (i k : Nat) (hi : i < L.length) (hk : k < L.length) (hne : i ≠ k)
    (wi : Wf (L[i]'hi).1) (wk : Wf (L[k]'hk).1) (wfi : Wf i) (wfk : Wf k) (hn : n + 1 < maxLen) :
    Calls Try.prog 96 #[.pointer (some ⟨rb, 0, none⟩), .int .i64 i, .int .i64 k] w fun e w' => e = .returned (.tuple #[]) ∧
      RowIs w' hb rb mb (n + 2) sv ((D.put (.int .i64 (L[k]'hk).1) (i64 i)).put (.int .i64 (L[i]'hi).1) (i64 k)) (swapL L i k) ∧ Kp (fun q => q = mb ∨ sv.ownBlock = some q) w w' := by
  have c0 := h.row.cell 0
  obtain ⟨g, cap, hv, hg, hc⟩ := h.item hi
  obtain ⟨i0, i1⟩ := hc i hi
  obtain ⟨k0, k1⟩ := hc k hk
  have hS := h.swap hv i k hi hk
  have hgk : sv.ownBlock = some g := by rw [hv]; rfl
  have hkp0 := swapW_kp w g i k L[i] L[k]
  have hf : ∀ j, w.frozen? ⟨g, j, none⟩ = false := by
    rcases h.own.2 with ⟨h1, _⟩ | ⟨g', _, _, h1, _, h2, _⟩
    · rw [h1] at hv; cases hv
    · rw [h1] at hv
      injection hv with hv
      injection hv with hv
      injection hv with hv
      subst hv
      exact fun j => Blk.frozen h2 j
  have hrg : rb ≠ g := fun e => own_blk_ne h.own h.row (by decide) (e ▸ hgk)
  have hrm := blk_map_ne h.row h.map
  have hgm := (h.own_ne hgk).2.2
  rw [hv] at c0
  generalize hx : L[i] = x at *
  generalize hy : L[k] = y at *
  have hLi : (swapL L i k)[i]? = some y := by
    simp only [swapL, List.getD_eq_getElem?_getD, List.getElem?_eq_getElem hk, List.getElem?_eq_getElem hi, Option.getD_some, hx, hy]
    rw [List.getElem?_set_ne (Ne.symm hne), List.getElem?_set_self hi]
  have hLk : (swapL L i k)[k]? = some x := by
    simp only [swapL, List.getD_eq_getElem?_getD, List.getElem?_eq_getElem hk, List.getElem?_eq_getElem hi, Option.getD_some, hx, hy]
    rw [List.getElem?_set_self (by simpa using hk)]
  obtain ⟨x1, x2⟩ := x
  obtain ⟨y1, y2⟩ := y
  have b1 : ¬ (i : Int) < 0 := by omega
  have b0 : (0 : Int) ≤ (i : Int) := by omega
  have b2 : (i : Int) < (L.length : Int) := by omega
  have b3 : (0 : Int) ≤ (k : Int) := by omega
  have b4 : (k : Int) < (L.length : Int) := by omega
  have hlen := swapL_length L i k
  have HX := hid_ hx
  have HY := hid_ hy
  have HL := hid_ hlen
  have HLi := hid_ hLi
  have HLk := hid_ hLk
  have HV := hid_ hv
  have HS := hid_ hS
  have HK := hid_ hkp0
  have HG := hid_ hgk
  have HN := hid_ hn
  have HW := hid_ (And.intro wi (And.intro wk (And.intro wfi wfk)))
  have n1 : ¬ (i * 2 = k * 2) := by omega
  have n2 : ¬ (i * 2 = k * 2 + 1) := by omega
  have n3 : ¬ (i * 2 + 1 = k * 2) := by omega
  have n4 : ¬ (i * 2 + 1 = k * 2 + 1) := by omega
  have n5 : ¬ (k * 2 = i * 2) := by omega
  have n6 : ¬ (k * 2 = i * 2 + 1) := by omega
  have n7 : ¬ (k * 2 + 1 = i * 2) := by omega
  have n8 : ¬ (k * 2 + 1 = i * 2 + 1) := by omega
  clear hx hy hlen hLi hLk hv hS hkp0 hgk hn h hc wi wk wfi wfk
  go_enter Try.func96, Try.ntmps96
  go_wp2
  go_region
  change Exit.then _ _ _ _ (swapW w g i k (x1, x2) (y1, y2))
  have R1 := HS.out
  have K0 := HK.out
  generalize swapW w g i k (x1, x2) (y1, y2) = W1 at R1 K0 ⊢
  have e0 := R1.row.cell 0
  have e2 := R1.row.cell 2
  rw [HV.out] at e0
  unfold movedV at e2
  obtain ⟨wi, wk, wfi, wfk⟩ := HW.out
  obtain ⟨g', cap', hv', _, hc'⟩ := R1.item (i := i) (by rw [HL.out]; omega)
  rw [HV.out] at hv'
  injection hv' with q1 q2 q3
  injection q1 with q1
  injection q1 with q1
  subst q1
  have gi := (List.getElem?_eq_some_iff.1 HLi.out)
  have gk := (List.getElem?_eq_some_iff.1 HLk.out)
  obtain ⟨hi', ei⟩ := gi
  obtain ⟨hk', ek⟩ := gk
  obtain ⟨j0, j1⟩ := hc' i hi'
  obtain ⟨l0, l1⟩ := hc' k hk'
  rw [ei] at j0 j1
  rw [ek] at l0 l1
  have HR := hid_ R1
  have HK1 := hid_ K0
  clear R1 K0 hc' q2 q3 ei ek hi' hk' c0 i0 i1 k0 k1 hf
  go_wp2
  go_region_held3 (fun W => W.cell? ⟨rb, 0, none⟩ = some (.slice (some ⟨g, 0, none⟩) L.length cap) ∧ W.cell? ⟨rb, 2, none⟩ = some (.func (.func 31) #[.pointer (some ⟨hb, 0, none⟩)] #[]) ∧ W.cell? ⟨g, i * 2, none⟩ = some (.int .i64 y1) ∧ W.cell? ⟨g, i * 2 + 1, none⟩ = some (.int .i64 y2) ∧ W.cell? ⟨g, k * 2, none⟩ = some (.int .i64 x1) ∧ W.cell? ⟨g, k * 2 + 1, none⟩ = some (.int .i64 x2))
    ((repeat' apply And.intro) <;> first | (go_keep; done))
    (first | (go_at_call 31; refine (moved_in hb mb n _ D y1 y2 i _ HR.out.head.drew HR.out.map.drew wk b0 wfi (by have := HN.out; omega)).mono ?_; (rintro e w2 ⟨rfl, hm2, hk2⟩; have r0 := hk2.cell e0 hrm; have r2 := hk2.cell e2 hrm; have r3 := hk2.cell j0 hgm; have r4 := hk2.cell j1 hgm; have r5 := hk2.cell l0 hgm; have r6 := hk2.cell l1 hgm)))
  have R2 := hid_ (HR.out.drew.turn hm2 hk2)
  have HK2 := hid_ (((HK1.out.drew.mono (S' := fun q => q = mb ∨ q = g) (fun _ h => .inr h)).trans hk2 (fun _ h => .inl (.inl h))))
  clear hm2 hk2 e0 e2 j0 j1 l0 l1
  go_wp2
  go_region_held3 (fun W => W.cell? ⟨rb, 0, none⟩ = some (.slice (some ⟨g, 0, none⟩) L.length cap) ∧ W.cell? ⟨rb, 2, none⟩ = some (.func (.func 31) #[.pointer (some ⟨hb, 0, none⟩)] #[]) ∧ W.cell? ⟨g, k * 2, none⟩ = some (.int .i64 x1) ∧ W.cell? ⟨g, k * 2 + 1, none⟩ = some (.int .i64 x2))
    ((repeat' apply And.intro) <;> first | (go_keep; done))
    (first | (go_at_call 31; refine (moved_in hb mb _ _ _ x1 x2 k _ R2.out.head.drew R2.out.map.drew wi b3 wfk HN.out).mono ?_; (rintro e w3 ⟨rfl, hm3, hk3⟩; have t0 := hk3.cell r0 hrm; have t2 := hk3.cell r2 hrm; have t3 := hk3.cell r5 hgm; have t4 := hk3.cell r6 hgm)))
  have R3 := hid_ (R2.out.drew.turn hm3 hk3)
  have HK3 := hid_ ((HK2.out.drew.trans hk3 (fun _ h => .inl (.inl h))))
  clear hm3 hk3
  go_wp2
  go_returns
  exact ⟨rfl, R3.out, HK3.out.mono (fun q hq => hq.imp id (fun h => by rw [HG.out, h]))⟩
end Go.Proofs.Ytkoacfkglfgalaa
