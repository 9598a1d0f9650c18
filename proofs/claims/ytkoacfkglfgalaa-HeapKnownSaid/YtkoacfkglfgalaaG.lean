/- The row of items: Swap of an item with itself. Conditions: those that each theorem names. -/
import Derived.Test.YtkoacfkglfgalaaD
namespace Go.Proofs.Ytkoacfkglfgalaa
open Go.RowKit Go.Maps

set_option maxHeartbeats 1000000 in
set_option maxRecDepth 100000 in
theorem swap_eq {hb rb mb n : Nat} {sv : Value} {D : DataW Unit} {L : List (Int × Int)} {w : World} (h : RowIs w hb rb mb n sv D L) (i : Nat) (hi : i < L.length)
    (wi : Wf (L[i]'hi).1) (wfi : Wf i) (hn : n + 1 < maxLen) :
    Calls Try.prog 96 #[.pointer (some ⟨rb, 0, none⟩), .int .i64 i, .int .i64 i] w fun e w' => e = .returned (.tuple #[]) ∧
      RowIs w' hb rb mb (n + 2) sv ((D.put (.int .i64 (L[i]'hi).1) (i64 i)).put (.int .i64 (L[i]'hi).1) (i64 i)) L ∧ Kp (fun q => q = mb ∨ sv.ownBlock = some q) w w' := by
  have c0 := h.row.cell 0
  obtain ⟨g, cap, hv, hg, hc⟩ := h.item hi
  obtain ⟨i0, i1⟩ := hc i hi
  have hS := h.swap hv i i hi hi
  have eLL : swapL L i i = L := by
    simp only [swapL, List.set_set]
    apply List.ext_getElem?
    intro j
    by_cases hj : j = i
    · subst hj; simp [hi]
    · rw [List.getElem?_set_ne (fun e => hj e.symm)]
  rw [eLL] at hS
  have hgk : sv.ownBlock = some g := by rw [hv]; rfl
  have hkp0 := swapW_kp w g i i L[i] L[i]
  have hf : ∀ j, w.frozen? ⟨g, j, none⟩ = false := by
    rcases h.own.2 with ⟨h1, _⟩ | ⟨g', _, _, h1, _, h2, _⟩
    · rw [h1] at hv; cases hv
    · rw [h1] at hv
      injection hv with hv
      injection hv with hv
      injection hv with hv
      subst hv
      exact fun j => Blk.frozen h2 j
  have hrg : rb ≠ g := fun e => own_blk_ne h.own h.row (by decide) (e ▸ hgk)
  have hrm := blk_map_ne h.row h.map
  have hgm := (h.own_ne hgk).2.2
  rw [hv] at c0
  generalize hx : L[i] = x at *
  obtain ⟨x1, x2⟩ := x
  have b1 : ¬ (i : Int) < 0 := by omega
  have b0 : (0 : Int) ≤ (i : Int) := by omega
  have b2 : (i : Int) < (L.length : Int) := by omega
  have HX := hid_ hx
  have HV := hid_ hv
  have HS := hid_ hS
  have HK := hid_ hkp0
  have HG := hid_ hgk
  have HN := hid_ hn
  have HW := hid_ (And.intro wi wfi)
  clear hx hv hS hkp0 hgk hn h hc wi wfi eLL
  go_enter Try.func96, Try.ntmps96
  go_wp2
  go_region
  change Exit.then _ _ _ _ (swapW w g i i (x1, x2) (x1, x2))
  have R1 := HS.out
  have K0 := HK.out
  generalize swapW w g i i (x1, x2) (x1, x2) = W1 at R1 K0 ⊢
  have e0 := R1.row.cell 0
  have e2 := R1.row.cell 2
  rw [HV.out] at e0
  unfold movedV at e2
  obtain ⟨wi, wfi⟩ := HW.out
  obtain ⟨g', cap', hv', _, hc'⟩ := R1.item hi
  rw [HV.out] at hv'
  injection hv' with q1 q2 q3
  injection q1 with q1
  injection q1 with q1
  subst q1
  obtain ⟨j0, j1⟩ := hc' i hi
  rw [HX.out] at j0 j1
  have HR := hid_ R1
  have HK1 := hid_ K0
  clear R1 K0 hc' q2 q3 c0 i0 i1 hf
  go_wp2
  go_region_held3 (fun W => W.cell? ⟨rb, 0, none⟩ = some (.slice (some ⟨g, 0, none⟩) L.length cap) ∧ W.cell? ⟨rb, 2, none⟩ = some (.func (.func 31) #[.pointer (some ⟨hb, 0, none⟩)] #[]) ∧ W.cell? ⟨g, i * 2, none⟩ = some (.int .i64 x1) ∧ W.cell? ⟨g, i * 2 + 1, none⟩ = some (.int .i64 x2))
    ((repeat' apply And.intro) <;> first | (go_keep; done))
    (first | (go_at_call 31; refine (moved_in hb mb n _ D x1 x2 i _ HR.out.head.drew HR.out.map.drew wi b0 wfi (by have := HN.out; omega)).mono ?_; (rintro e w2 ⟨rfl, hm2, hk2⟩; have r0 := hk2.cell e0 hrm; have r2 := hk2.cell e2 hrm; have r3 := hk2.cell j0 hgm; have r4 := hk2.cell j1 hgm)))
  have R2 := hid_ (HR.out.drew.turn hm2 hk2)
  have HK2 := hid_ (((HK1.out.drew.mono (S' := fun q => q = mb ∨ q = g) (fun _ h => .inr h)).trans hk2 (fun _ h => .inl (.inl h))))
  clear hm2 hk2 e0 e2 j0 j1
  go_wp2
  go_region_held3 (fun W => W.cell? ⟨rb, 0, none⟩ = some (.slice (some ⟨g, 0, none⟩) L.length cap) ∧ W.cell? ⟨rb, 2, none⟩ = some (.func (.func 31) #[.pointer (some ⟨hb, 0, none⟩)] #[]) ∧ W.cell? ⟨g, i * 2, none⟩ = some (.int .i64 x1) ∧ W.cell? ⟨g, i * 2 + 1, none⟩ = some (.int .i64 x2))
    ((repeat' apply And.intro) <;> first | (go_keep; done))
    (first | (go_at_call 31; refine (moved_in hb mb _ _ _ x1 x2 i _ R2.out.head.drew R2.out.map.drew wi b0 wfi HN.out).mono ?_; (rintro e w3 ⟨rfl, hm3, hk3⟩; have t0 := hk3.cell r0 hrm; have t2 := hk3.cell r2 hrm; have t3 := hk3.cell r3 hgm; have t4 := hk3.cell r4 hgm)))
  have R3 := hid_ (R2.out.drew.turn hm3 hk3)
  have HK3 := hid_ ((HK2.out.drew.trans hk3 (fun _ h => .inl (.inl h))))
  clear hm3 hk3
  go_wp2
  go_returns
  exact ⟨rfl, R3.out, HK3.out.mono (fun q hq => hq.imp id (fun h => by rw [HG.out, h]))⟩
end Go.Proofs.Ytkoacfkglfgalaa
