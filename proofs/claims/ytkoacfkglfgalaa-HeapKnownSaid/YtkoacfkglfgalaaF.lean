/- The row of items: its method Pop. Conditions: those that each theorem names. -/
import Derived.Test.YtkoacfkglfgalaaH
namespace Go.Proofs.Ytkoacfkglfgalaa
open Go.RowKit Go.Maps

set_option maxHeartbeats 1000000 in
set_option maxRecDepth 100000 in
theorem popm_c {hb rb mb n : Nat} {sv : Value} {D : DataW Unit} {L : List (Int × Int)} {w : World} {x : Int × Int} (h : RowIs w hb rb mb n sv D (L ++ [x])) (hid : Wf x.1) (hL : L.length ≤ 100000) :
    Calls Try.prog 94 #[.pointer (some ⟨rb, 0, none⟩)] w fun e w' => e = .returned (.iface 65 (.agg #[.int .i64 x.1, .int .i64 x.2])) ∧
      ∃ sv', RowIs w' hb rb mb n sv' (D.del (.int .i64 x.1)) L ∧ Kp (fun q => q = mb ∨ q = rb) w w' ∧ sv'.ownBlock = sv.ownBlock := by
  have c0 := h.row.cell 0
  have c2 := h.row.cell 2
  have f0 := h.row.frozen 0
  have lr := h.row.lt
  have hrm := blk_map_ne h.row h.map
  have hl1 : L.length < (L ++ [x]).length := by simp
  obtain ⟨g, cap, hv, hg, hc⟩ := h.item hl1
  obtain ⟨i0, i1⟩ := hc L.length hl1
  have ex : (L ++ [x])[L.length] = x := by simp
  rw [ex] at i0 i1
  have hgk : sv.ownBlock = some g := by rw [hv]; rfl
  obtain ⟨hgh, hgr, hgm⟩ := h.own_ne hgk
  have hcap : L.length + 1 ≤ cap ∧ cap ≤ maxLen := by
    rcases h.own.2 with ⟨h1, _⟩ | ⟨_, cap', _, h1, _, _, h2, h3, _⟩
    · rw [h1] at hv; cases hv
    · rw [h1] at hv
      injection hv with _ _ hv
      subst hv
      exact ⟨by simpa using h2, h3⟩
  obtain ⟨hcap1, hcap2⟩ := hcap
  rw [hv] at c0
  simp only [List.length_append, List.length_cons, List.length_nil, Nat.zero_add] at c0
  obtain ⟨x1, x2⟩ := x
  have hwm1 : Wf (-1) := by decide
  have HH := hid_ h
  have HV := hid_ hv
  have HG := hid_ hgk
  have HC := hid_ hcap2
  generalize hlen : L.length = len at *
  have HLen := hid_ hlen
  clear h hv hgk hlen hcap2 hc ex hl1
  unfold movedV at c2
  have q1 : IntKind.i64.wrap ((len : Int) + 1 - 1) = (len : Int) := by rw [show (len : Int) + 1 - 1 = len by omega]; exact IntWalk.i64_in _ (by omega)
  have q4 : IntKind.i64.wrap (len : Int) = (len : Int) := IntWalk.i64_in _ (by omega)
  have q2 : (0 : Int) ≤ (len : Int) := by omega
  have q3 : (len : Int) < (len : Int) + 1 := by omega
  go_enter Try.func94, Try.ntmps94
  go_wp2
  go_region_held3 (fun W => W.cell? ⟨rb, 0, none⟩ = some (.slice (some ⟨g, 0, none⟩) (len + 1) cap) ∧ W.cell? ⟨g, len * 2, none⟩ = some (.int .i64 x1) ∧ W.cell? ⟨g, len * 2 + 1, none⟩ = some (.int .i64 x2))
    ((repeat' apply And.intro) <;> first | (go_keep; done) | (go_simp; done))
    (first | fail)
  all_goals go_wp2
  all_goals go_region
  have R0 : RowIs w hb rb mb n (.slice (some ⟨g, 0, none⟩) (L.length + 1) cap) D (L ++ [(x1, x2)]) := by
    have := HV.out ▸ HH.out
    simpa using this
  have R1 := hid_ ((R0.popped.alloc (.cells #[.int .i64 x1, .int .i64 x2] 65)).drew.drew)
  rw [HLen.out] at R1
  have K1 := hid_ (((((Kp.refl (fun q => q = rb) w).setCell (p := ⟨rb, 0, none⟩) (.inl rfl) (.slice (some ⟨g, 0, none⟩) len cap)).alloc (.cells #[.int .i64 x1, .int .i64 x2] 65)).drew.drew))
  have B1 := hid_ (Blk.new (w.setCell ⟨rb, 0, none⟩ (.slice (some ⟨g, 0, none⟩) len cap)) 65 #[.int .i64 x1, .int .i64 x2]).drew.drew
  have hsz : (w.setCell ⟨rb, 0, none⟩ (.slice (some ⟨g, 0, none⟩) len cap)).heap.size = w.heap.size := by simp [World.setCell]
  rw [hsz] at B1
  generalize ((w.setCell ⟨rb, 0, none⟩ (.slice (some ⟨g, 0, none⟩) len cap)).alloc (.cells #[.int .i64 x1, .int .i64 x2] 65)).drew.drew = W1 at R1 K1 B1 ⊢
  have e2 := R1.out.row.cell 2
  unfold movedV at e2
  have b0 := B1.out.cell 0
  have b1 := B1.out.cell 1
  have hmt := R0.map.lt
  have hbm : w.heap.size ≠ mb := by omega
  have hm1 : (-1 : Int) < 0 := by omega
  clear R0 hsz c0 c2 f0 i0 i1
  all_goals go_wp2
  go_region_held3 (fun W => W.cell? ⟨rb, 2, none⟩ = some (.func (.func 31) #[.pointer (some ⟨hb, 0, none⟩)] #[]) ∧ W.cell? ⟨w.heap.size, 0, none⟩ = some (.int .i64 x1) ∧ W.cell? ⟨w.heap.size, 1, none⟩ = some (.int .i64 x2))
    ((repeat' apply And.intro) <;> first | (go_keep; done))
    (first | (go_at_call 31; refine (moved_out hb mb n _ D x1 x2 (-1) _ R1.out.head.drew R1.out.map.drew hid hm1).mono ?_; (rintro e w2 ⟨rfl, hm2, hk2⟩; have r2 := hk2.cell e2 hrm; have r0 := hk2.cell b0 hbm; have r1 := hk2.cell b1 hbm)))
  have R2 := hid_ (R1.out.drew.turn hm2 hk2)
  have K2 := hid_ ((K1.out.drew.mono (S' := fun q => q = mb ∨ q = rb) (fun _ h => .inr h)).trans hk2 (fun _ h => .inl (.inl h)))
  clear hm2 hk2
  go_wp2
  go_ret
  exact ⟨rfl, _, R2.out, K2.out, by rw [HV.out]; rfl⟩
end Go.Proofs.Ytkoacfkglfgalaa
