/- The row of items: its method Push. Conditions: those that each theorem names. -/
import Derived.Test.YtkoacfkglfgalaaH
import Derived.Deep.RegionLaw
namespace Go.Proofs.Ytkoacfkglfgalaa
open Go.RowKit Go.Maps

theorem assert_item (id r : Int) (W : World) : (Instr.typeAssert (.iface 65 (.agg #[.int .i64 id, .int .i64 r])) 20 65 false).run Try.prog W = .ok (.agg #[.int .i64 id, .int .i64 r]) W := by kernel_rfl

theorem Try.info65 : (Try.prog.info? 65).map (fun i => (i.zero, i.size, i.bytes)) = some (some (.agg #[.int .i64 0, .int .i64 0]), 2, 16) := by kernel_rfl

set_option maxHeartbeats 1000000 in
set_option maxRecDepth 100000 in
theorem push_c {hb rb mb n : Nat} {sv : Value} {D : DataW Unit} {L : List (Int × Int)} {w : World} (h : RowIs w hb rb mb n sv D L) (id r : Int) (hid : Wf id) (hn : n < maxLen) (hL : L.length ≤ 100000) :
    Calls Try.prog 95 #[.pointer (some ⟨rb, 0, none⟩), .iface 65 (.agg #[.int .i64 id, .int .i64 r])] w fun e w' => e = .returned (.tuple #[]) ∧
      ∃ sv', RowIs w' hb rb mb (n + 1) sv' (D.put (.int .i64 id) (i64 L.length)) (L ++ [(id, r)]) ∧ Kp (fun q => q = mb ∨ q = rb ∨ sv.ownBlock = some q) w w' ∧ (∀ q, sv'.ownBlock = some q → sv.ownBlock = some q ∨ w.heap.size ≤ q) := by
  obtain ⟨i0, hi0, hz0, hz1, hz2⟩ := info_parts Try.info65
  have c0 := h.row.cell 0
  have f0 := h.row.frozen 0
  have lr := h.row.lt
  have hrm := blk_map_ne h.row h.map
  have hro : some rb ≠ sv.ownBlock := fun e => (h.own_ne e.symm).2.1 rfl
  have hown := ((World.ownsRow.alloc h.own (o := .cells #[.int .i64 id, .int .i64 r] 65)).drew)
  have hmax : L.length + 1 ≤ maxLen := by unfold maxLen; omega
  have hby : (L.length + 1) * 16 ≤ 140737488355328 := by omega
  have HH := hid_ h
  have HN := hid_ hn
  have HO := hid_ hown
  have HM := hid_ hmax
  obtain ⟨A, c, hv⟩ : ∃ A c, sv = .slice A L.length c := by
    rcases h.own.2 with ⟨hv, h0⟩ | ⟨g, cap, _, hv, _⟩
    · exact ⟨none, 0, by rw [hv, h0]⟩
    · exact ⟨_, _, hv⟩
  subst hv
  generalize hlen : L.length = len at *
  have HLen := hid_ hlen
  clear h hn hown hmax hlen
  have hta := assert_item id r
  have f0' : ((w.alloc (.cells #[.int .i64 id, .int .i64 r] 65)).drew).frozen? ⟨rb, 0, none⟩ = false := (World.frozen?_alloc_past _ _ _ lr).trans f0
  have c0' : ((w.alloc (.cells #[.int .i64 id, .int .i64 r] 65)).drew).cell? ⟨rb, 0, none⟩ = some (.slice A len c) := (World.cell?_alloc_past _ _ _ lr).trans c0
  go_enter Try.func95, Try.ntmps95
  go_wp2
  go_region_law (refine step_append_lies _ (by rfl) _ _ _ (by rfl) 0 65 i0 _ 2 16 Try.underlying67 hi0 hz0 hz1 hz2 rfl (by omega) (.slice A len c) len (flat L) (by rfl) HO.out ⟨w.heap.size, 0, none⟩ 1 1 [.int .i64 id, .int .i64 r] (by rfl) (by rfl) (World.news_of_block (cs := #[.int .i64 id, .int .i64 r]) (t := 65) (fr := (0, 0)) (heap_alloc_new w _)) (by simp [Value.oneCell']) (by omega) HM.out hby (Nat.zero_le _) (w.heap.size + 1) (by simp) ?_; intro g cap w1 hown1 hgrow hat hlt; have k0 := hgrow.cell (a := ⟨rb, 0, none⟩) c0' hro; have k1 := (World.frozen?_of_block (a := ⟨rb, 0, none⟩) (hgrow.block rb (by simp; omega) hro)).trans f0')
  all_goals
    obtain ⟨R1, K1⟩ := HH.out.pushed (L' := L ++ [(id, r)]) (((Kp.refl (fun q => (Value.slice A len c).ownBlock = some q) w).alloc (.cells #[.int .i64 id, .int .i64 r] 65)).drew.grown hgrow (fun q hq => .inl hq)) hown1 (by simp [HLen.out]) (by simp [flat]) (hat.imp (fun e => e) (fun e => by omega))
    have e0 := R1.row.cell 0
    have e2 := R1.row.cell 2
    unfold movedV at e2
    have hgr : rb ≠ mb := hrm
    have q0 : IntKind.i64.wrap ((len : Int) + 1 - 1) = (len : Int) := by rw [show (len : Int) + 1 - 1 = len by omega]; exact IntWalk.i64_in _ (by omega)
    have q1 : IntKind.i64.wrap (len : Int) = (len : Int) := IntWalk.i64_in _ (by omega)
    have wfl : Wf len := WalkArith.wf_i64 (by omega)
    have b0 : (0 : Int) ≤ (len : Int) := by omega
    have HR := hid_ R1
    have HK := hid_ K1
    have HAt := hid_ hat
    have HWl := hid_ wfl
    clear R1 K1 hat wfl hgrow hown1 k0 k1 c0 c0' f0 f0' hlt
    generalize w1.setCell ⟨rb, 0, none⟩ (.slice (some ⟨g, 0, none⟩) (len + 1) cap) = W1 at HR HK e0 e2 ⊢
    go_wp2
    go_region_held3 (fun W => W.cell? ⟨rb, 0, none⟩ = some (.slice (some ⟨g, 0, none⟩) (len + 1) cap) ∧ W.cell? ⟨rb, 2, none⟩ = some (.func (.func 31) #[.pointer (some ⟨hb, 0, none⟩)] #[]))
      ((repeat' apply And.intro) <;> first | (go_keep; done))
      (first | (go_at_call 31; refine (moved_in hb mb n _ D id r len _ HR.out.head.drew HR.out.map.drew hid b0 HWl.out HN.out).mono ?_; (rintro e w2 ⟨rfl, hm2, hk2⟩; have r0 := hk2.cell e0 hrm; have r2 := hk2.cell e2 hrm)))
    have R2 := hid_ (HR.out.drew.turn hm2 hk2)
    have K2 := hid_ ((HK.out.drew.mono (S' := fun q => q = mb ∨ q = rb ∨ (Value.slice A len c).ownBlock = some q) (fun _ h => .inr h)).trans hk2 (fun _ h => .inl (.inl h)))
    clear hm2 hk2
    go_wp2
    go_returns
    exact ⟨rfl, _, R2.out, K2.out, fun q hq => by
      have : g = q := by simpa [Value.ownBlock] using hq
      subst this
      exact HAt.out.imp (fun e => e) (fun e => by omega)⟩
end Go.Proofs.Ytkoacfkglfgalaa
