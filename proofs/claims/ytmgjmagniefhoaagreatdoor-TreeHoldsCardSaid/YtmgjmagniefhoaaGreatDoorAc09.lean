/- TreeHolds, walked. Conditions: those that each theorem names. -/
import Derived.Test.YtmgjmagniefhoaaGreatDoorAc08
import Derived.Test.YtmgjmagniefhoaaGreatDoorAc04
import Derived.Test.YtmgjmagniefhoaaGreatDoorAc06
import Derived.Test.YtmgjmagniefhoaaGreatDoorAc07
import Derived.Test.YtmgjmagniefhoaaGreatDoorAa24
namespace Go.Proofs.YtmgjmagniefhoaaGreatDoor
open Go.RowKit Go.Maps
set_option maxHeartbeats 16000000 in
set_option maxRecDepth 100000 in
theorem holds_c {w : World} (hE : Env w) {iv tv fv nv iv' tv' fv' nv' : Value} {m k : Tr.Md} {fx fy : List Fx} {nx ny : List Nx} (ha : MZ0 w iv tv fv nv m fx nx) (hb : MZ0 w iv' tv' fv' nv' k fy ny) :
    Calls Tryz.prog 5 #[.agg #[.string (st m.name), iv, tv, fv, nv], .agg #[.string (st k.name), iv', tv', fv', nv']] w fun e w' => e = .returned (.bool true) ∧ Below w.heap.size w w' := by
  obtain ⟨Ai, c1, rfl⟩ := ha.i.1.form
  obtain ⟨At, c2, rfl⟩ := ha.t.1.form
  obtain ⟨Af, c3, rfl⟩ := ha.f.1.form
  obtain ⟨An, c4, rfl⟩ := ha.n.1.form
  obtain ⟨Bi, d1, rfl⟩ := hb.i.1.form
  obtain ⟨Bt, d2, rfl⟩ := hb.t.1.form
  obtain ⟨Bf, d3, rfl⟩ := hb.f.1.form
  obtain ⟨Bn, d4, rfl⟩ := hb.n.1.form
  have hB1 := (Blk.new w 31 #[.string (st m.name), .slice Ai m.imports.length c1, .slice At m.types.length c2, .slice Af m.fns.length c3, .slice An m.nodes.length c4]).alloc (.cells #[.string (st k.name), .slice Bi k.imports.length d1, .slice Bt k.types.length d2, .slice Bf k.fns.length d3, .slice Bn k.nodes.length d4] 31)
  have hB2 := Blk.new (w.alloc (.cells #[.string (st m.name), .slice Ai m.imports.length c1, .slice At m.types.length c2, .slice Af m.fns.length c3, .slice An m.nodes.length c4] 31)) 31 #[.string (st k.name), .slice Bi k.imports.length d1, .slice Bt k.types.length d2, .slice Bf k.fns.length d3, .slice Bn k.nodes.length d4]
  rw [alloc_sz] at hB2
  have hW := (below_alloc w (.cells #[.string (st m.name), .slice Ai m.imports.length c1, .slice At m.types.length c2, .slice Af m.fns.length c3, .slice An m.nodes.length c4] 31)).alloc (by simp) (.cells #[.string (st k.name), .slice Bi k.imports.length d1, .slice Bt k.types.length d2, .slice Bf k.fns.length d3, .slice Bn k.nodes.length d4] 31)
  have hsz : ((w.alloc (.cells #[.string (st m.name), .slice Ai m.imports.length c1, .slice At m.types.length c2, .slice Af m.fns.length c3, .slice An m.nodes.length c4] 31)).alloc (.cells #[.string (st k.name), .slice Bi k.imports.length d1, .slice Bt k.types.length d2, .slice Bf k.fns.length d3, .slice Bn k.nodes.length d4] 31)).heap.size = w.heap.size + 2 := by rw [alloc_sz, alloc_sz]
  have HB1 := hid_ hB1
  have HB2 := hid_ hB2
  have HW := hid_ hW
  have Hsz := hid_ hsz
  have HA := hid_ (ha.below hW)
  have HK := hid_ (hb.below hW)
  have EV := hid_ (fun (W' : World) (hb : Below w.heap.size w W') => hE.below hb)
  clear hB1 hB2 hW hsz ha hb hE
  go_enter Tryz.func5, Tryz.ntmps5
  go_upto_region 1 with fail
  generalize (w.alloc (.cells #[.string (st m.name), .slice Ai m.imports.length c1, .slice At m.types.length c2, .slice Af m.fns.length c3, .slice An m.nodes.length c4] 31)).alloc (.cells #[.string (st k.name), .slice Bi k.imports.length d1, .slice Bt k.types.length d2, .slice Bf k.fns.length d3, .slice Bn k.nodes.length d4] 31) = W0 at *
  have HFB := hid_ (fun (W' : World) (hb : Below W0.heap.size W0 W') => (show W'.cell? ⟨w.heap.size, 0, none⟩ = some (.string (st m.name)) ∧ W'.cell? ⟨w.heap.size, 1, none⟩ = some (.slice Ai m.imports.length c1) ∧ W'.cell? ⟨w.heap.size, 2, none⟩ = some (.slice At m.types.length c2) ∧ W'.cell? ⟨w.heap.size, 3, none⟩ = some (.slice Af m.fns.length c3) ∧ W'.cell? ⟨w.heap.size, 4, none⟩ = some (.slice An m.nodes.length c4) ∧ W'.cell? ⟨w.heap.size + 1, 0, none⟩ = some (.string (st k.name)) ∧ W'.cell? ⟨w.heap.size + 1, 1, none⟩ = some (.slice Bi k.imports.length d1) ∧ W'.cell? ⟨w.heap.size + 1, 2, none⟩ = some (.slice Bt k.types.length d2) ∧ W'.cell? ⟨w.heap.size + 1, 3, none⟩ = some (.slice Bf k.fns.length d3) ∧ W'.cell? ⟨w.heap.size + 1, 4, none⟩ = some (.slice Bn k.nodes.length d4) from by
    have h := HB1.out.kp (Kp.of_below hb fun _ => False) id
    have h' := HB2.out.kp (Kp.of_below hb fun _ => False) id
    exact ⟨h.cell 0, h.cell 1, h.cell 2, h.cell 3, h.cell 4, h'.cell 0, h'.cell 1, h'.cell 2, h'.cell 3, h'.cell 4⟩))
  have RB := hid_ (show Below W0.heap.size W0 W0.drew from (Below.refl _ _).drew)
  have HP := hid_ (HFB.out _ RB.out)
  refine wp_regionL (fun W' : World => W'.cell? ⟨w.heap.size, 0, none⟩ = some (.string (st m.name)) ∧ W'.cell? ⟨w.heap.size, 1, none⟩ = some (.slice Ai m.imports.length c1) ∧ W'.cell? ⟨w.heap.size, 2, none⟩ = some (.slice At m.types.length c2) ∧ W'.cell? ⟨w.heap.size, 3, none⟩ = some (.slice Af m.fns.length c3) ∧ W'.cell? ⟨w.heap.size, 4, none⟩ = some (.slice An m.nodes.length c4) ∧ W'.cell? ⟨w.heap.size + 1, 0, none⟩ = some (.string (st k.name)) ∧ W'.cell? ⟨w.heap.size + 1, 1, none⟩ = some (.slice Bi k.imports.length d1) ∧ W'.cell? ⟨w.heap.size + 1, 2, none⟩ = some (.slice Bt k.types.length d2) ∧ W'.cell? ⟨w.heap.size + 1, 3, none⟩ = some (.slice Bf k.fns.length d3) ∧ W'.cell? ⟨w.heap.size + 1, 4, none⟩ = some (.slice Bn k.nodes.length d4)) [4] (by kernel_rfl) ?_
  refine wpAnyL_take [0, 1, 3, 4] (i := 0) (v := ?va0) rfl (by kernel_rfl) (by kernel_rfl) (by kernel_rfl) (by kernel_rfl) (by kernel_rfl) (by kernel_rfl) (fun _ _ _ h => h) HP.out (Or.inl ⟨by rfl, ?hya0⟩) ?resta0
  case hya0 => (intro w hw; obtain ⟨hw0, hw1, hw2, hw3, hw4, hw5, hw6, hw7, hw8, hw9⟩ := hw; go_simp; with_reducible rfl)
  try simp only [Act.put, List.getElem_toArray, List.getElem_cons_zero, List.setIfInBounds_toArray, List.set_cons_zero, List.set_cons_succ]
  refine wpAnyL_take [2, 3, 4] (i := 2) (v := ?va2) rfl (by kernel_rfl) (by kernel_rfl) (by kernel_rfl) (by kernel_rfl) (by kernel_rfl) (by kernel_rfl) (fun _ _ _ h => h) HP.out (Or.inl ⟨by rfl, ?hya2⟩) ?resta2
  case hya2 => (intro w hw; obtain ⟨hw0, hw1, hw2, hw3, hw4, hw5, hw6, hw7, hw8, hw9⟩ := hw; go_simp; with_reducible rfl)
  try simp only [Act.put, List.getElem_toArray, List.getElem_cons_succ, List.getElem_cons_zero, List.setIfInBounds_toArray, List.set_cons_zero, List.set_cons_succ]
  refine wpAnyL_step (i := 1) (by kernel_rfl) rfl (fun K hK => ?_)
  go_simp
  go_at_call 15
  refine (cutM_c (HA.out.below RB.out)).mono ?_
  intro e w1 hE2
  obtain ⟨ia, ta, fa, na, ma, fxa, nxa, rfl, hza, hb⟩ := hE2
  have HZa := hid_ hza
  have HSza := hid_ RB.out.size
  have RB := hid_ (RB.out.trans (hb.mono RB.out.size))
  clear hb hza HP
  refine hK.out _ _ (fun _ => HFB.out _ RB.out) ?_
  clear hK K
  have HP := hid_ (HFB.out _ RB.out)
  try simp only [Act.put, List.getElem_toArray, List.getElem_cons_succ, List.getElem_cons_zero, List.setIfInBounds_toArray, List.set_cons_zero, List.set_cons_succ]
  refine wpAnyL_step (i := 3) (by kernel_rfl) rfl (fun K hK => ?_)
  go_simp
  go_at_call 15
  refine (cutM_c (HK.out.below RB.out)).mono ?_
  intro e w3 hE2
  obtain ⟨ib, tb, fb, nb, mb, fxb, nxb, rfl, hzb, hb⟩ := hE2
  have HZb := hid_ hzb
  have HSzb := hid_ RB.out.size
  have RB := hid_ (RB.out.trans (hb.mono RB.out.size))
  have HBl := hid_ hb
  clear hb hzb HP
  refine hK.out _ _ (fun _ => HFB.out _ RB.out) ?_
  clear hK K
  have HP := hid_ (HFB.out _ RB.out)
  try simp only [Act.put, List.getElem_toArray, List.getElem_cons_succ, List.getElem_cons_zero, List.setIfInBounds_toArray, List.set_cons_zero, List.set_cons_succ]
  obtain ⟨Ji, e1, rfl⟩ := (HZa.out _ (Kp.refl _ _)).i.1.form
  obtain ⟨Jt, e2, rfl⟩ := (HZa.out _ (Kp.refl _ _)).t.1.form
  obtain ⟨Jf, e3, rfl⟩ := (HZa.out _ (Kp.refl _ _)).f.1.form
  obtain ⟨Jn, e4, rfl⟩ := (HZa.out _ (Kp.refl _ _)).n.1.form
  obtain ⟨Li, g1, rfl⟩ := (HZb.out _ (Kp.refl _ _)).i.1.form
  obtain ⟨Lt, g2, rfl⟩ := (HZb.out _ (Kp.refl _ _)).t.1.form
  obtain ⟨Lf, g3, rfl⟩ := (HZb.out _ (Kp.refl _ _)).f.1.form
  obtain ⟨Ln, g4, rfl⟩ := (HZb.out _ (Kp.refl _ _)).n.1.form
  have HB1 := hid_ (HB1.out.kp (Kp.of_below RB.out fun _ => False) id)
  have HB2 := hid_ (HB2.out.kp (Kp.of_below RB.out fun _ => False) id)
  have z0 : w3.cell? ⟨w.heap.size, 0, none⟩ = some (.string (st m.name)) := HB1.out.cell 0
  have f0 := HB1.out.frozen 0
  have z1 : w3.cell? ⟨w.heap.size, 1, none⟩ = some (.slice Ai m.imports.length c1) := HB1.out.cell 1
  have f1 := HB1.out.frozen 1
  have z2 : w3.cell? ⟨w.heap.size, 2, none⟩ = some (.slice At m.types.length c2) := HB1.out.cell 2
  have f2 := HB1.out.frozen 2
  have z3 : w3.cell? ⟨w.heap.size, 3, none⟩ = some (.slice Af m.fns.length c3) := HB1.out.cell 3
  have f3 := HB1.out.frozen 3
  have z4 : w3.cell? ⟨w.heap.size, 4, none⟩ = some (.slice An m.nodes.length c4) := HB1.out.cell 4
  have f4 := HB1.out.frozen 4
  refine wpAnyL_step (i := 4) (by kernel_rfl) rfl (fun K hK => ?_)
  go_simp
  clear z0 z1 z2 z3 z4 f0 f1 f2 f3 f4
  refine hK.out _ _ (tillL_off (s := 4) (by simp) (by kernel_rfl)) ?_
  clear hK K
  try simp only [Act.put, List.getElem_toArray, List.getElem_cons_succ, List.getElem_cons_zero, List.setIfInBounds_toArray, List.set_cons_zero, List.set_cons_succ]
  have HX := hid_ (show Blk (((((w3.setCell ⟨w.heap.size, 0, none⟩ (.string (st ma.name))).setCell ⟨w.heap.size, 1, none⟩ (.slice Ji ma.imports.length e1)).setCell ⟨w.heap.size, 2, none⟩ (.slice Jt ma.types.length e2)).setCell ⟨w.heap.size, 3, none⟩ (.slice Jf ma.fns.length e3)).setCell ⟨w.heap.size, 4, none⟩ (.slice Jn ma.nodes.length e4)) (w.heap.size) 31 #[.string (st ma.name), .slice Ji ma.imports.length e1, .slice Jt ma.types.length e2, .slice Jf ma.fns.length e3, .slice Jn ma.nodes.length e4] from (((((HB1.out.set_ 0 (.string (st ma.name))).set_ 1 (.slice Ji ma.imports.length e1)).set_ 2 (.slice Jt ma.types.length e2)).set_ 3 (.slice Jf ma.fns.length e3)).set_ 4 (.slice Jn ma.nodes.length e4)))
  have HY := hid_ (show Blk (((((w3.setCell ⟨w.heap.size, 0, none⟩ (.string (st ma.name))).setCell ⟨w.heap.size, 1, none⟩ (.slice Ji ma.imports.length e1)).setCell ⟨w.heap.size, 2, none⟩ (.slice Jt ma.types.length e2)).setCell ⟨w.heap.size, 3, none⟩ (.slice Jf ma.fns.length e3)).setCell ⟨w.heap.size, 4, none⟩ (.slice Jn ma.nodes.length e4)) (w.heap.size + 1) 31 #[.string (st k.name), .slice Bi k.imports.length d1, .slice Bt k.types.length d2, .slice Bf k.fns.length d3, .slice Bn k.nodes.length d4] from (((((HB2.out.far (p := ⟨w.heap.size, 0, none⟩) (by show w.heap.size + 1 ≠ w.heap.size; omega) (.string (st ma.name))).far (p := ⟨w.heap.size, 1, none⟩) (by show w.heap.size + 1 ≠ w.heap.size; omega) (.slice Ji ma.imports.length e1)).far (p := ⟨w.heap.size, 2, none⟩) (by show w.heap.size + 1 ≠ w.heap.size; omega) (.slice Jt ma.types.length e2)).far (p := ⟨w.heap.size, 3, none⟩) (by show w.heap.size + 1 ≠ w.heap.size; omega) (.slice Jf ma.fns.length e3)).far (p := ⟨w.heap.size, 4, none⟩) (by show w.heap.size + 1 ≠ w.heap.size; omega) (.slice Jn ma.nodes.length e4)))
  have HKp4 := hid_ ((((((Kp.refl (fun q => q = w.heap.size ∨ q = w.heap.size + 1) w3).setCell (p := ⟨w.heap.size, 0, none⟩) (.inl (.inl rfl)) (.string (st ma.name))).setCell (p := ⟨w.heap.size, 1, none⟩) (.inl (.inl rfl)) (.slice Ji ma.imports.length e1)).setCell (p := ⟨w.heap.size, 2, none⟩) (.inl (.inl rfl)) (.slice Jt ma.types.length e2)).setCell (p := ⟨w.heap.size, 3, none⟩) (.inl (.inl rfl)) (.slice Jf ma.fns.length e3)).setCell (p := ⟨w.heap.size, 4, none⟩) (.inl (.inl rfl)) (.slice Jn ma.nodes.length e4))
  clear HB1 HB2
  have HB1 := HX
  have HB2 := HY
  clear HX HY
  generalize (((((w3.setCell ⟨w.heap.size, 0, none⟩ (.string (st ma.name))).setCell ⟨w.heap.size, 1, none⟩ (.slice Ji ma.imports.length e1)).setCell ⟨w.heap.size, 2, none⟩ (.slice Jt ma.types.length e2)).setCell ⟨w.heap.size, 3, none⟩ (.slice Jf ma.fns.length e3)).setCell ⟨w.heap.size, 4, none⟩ (.slice Jn ma.nodes.length e4)) = W4 at *
  have z0 : W4.cell? ⟨w.heap.size + 1, 0, none⟩ = some (.string (st k.name)) := HB2.out.cell 0
  have f0 := HB2.out.frozen 0
  have z1 : W4.cell? ⟨w.heap.size + 1, 1, none⟩ = some (.slice Bi k.imports.length d1) := HB2.out.cell 1
  have f1 := HB2.out.frozen 1
  have z2 : W4.cell? ⟨w.heap.size + 1, 2, none⟩ = some (.slice Bt k.types.length d2) := HB2.out.cell 2
  have f2 := HB2.out.frozen 2
  have z3 : W4.cell? ⟨w.heap.size + 1, 3, none⟩ = some (.slice Bf k.fns.length d3) := HB2.out.cell 3
  have f3 := HB2.out.frozen 3
  have z4 : W4.cell? ⟨w.heap.size + 1, 4, none⟩ = some (.slice Bn k.nodes.length d4) := HB2.out.cell 4
  have f4 := HB2.out.frozen 4
  refine wpAnyL_step (i := 5) (by kernel_rfl) rfl (fun K hK => ?_)
  go_simp
  clear z0 z1 z2 z3 z4 f0 f1 f2 f3 f4
  refine hK.out _ _ (tillL_off (s := 4) (by simp) (by kernel_rfl)) ?_
  clear hK K
  try simp only [Act.put, List.getElem_toArray, List.getElem_cons_succ, List.getElem_cons_zero, List.setIfInBounds_toArray, List.set_cons_zero, List.set_cons_succ]
  have HX := hid_ (show Blk (((((W4.setCell ⟨w.heap.size + 1, 0, none⟩ (.string (st mb.name))).setCell ⟨w.heap.size + 1, 1, none⟩ (.slice Li mb.imports.length g1)).setCell ⟨w.heap.size + 1, 2, none⟩ (.slice Lt mb.types.length g2)).setCell ⟨w.heap.size + 1, 3, none⟩ (.slice Lf mb.fns.length g3)).setCell ⟨w.heap.size + 1, 4, none⟩ (.slice Ln mb.nodes.length g4)) (w.heap.size + 1) 31 #[.string (st mb.name), .slice Li mb.imports.length g1, .slice Lt mb.types.length g2, .slice Lf mb.fns.length g3, .slice Ln mb.nodes.length g4] from (((((HB2.out.set_ 0 (.string (st mb.name))).set_ 1 (.slice Li mb.imports.length g1)).set_ 2 (.slice Lt mb.types.length g2)).set_ 3 (.slice Lf mb.fns.length g3)).set_ 4 (.slice Ln mb.nodes.length g4)))
  have HY := hid_ (show Blk (((((W4.setCell ⟨w.heap.size + 1, 0, none⟩ (.string (st mb.name))).setCell ⟨w.heap.size + 1, 1, none⟩ (.slice Li mb.imports.length g1)).setCell ⟨w.heap.size + 1, 2, none⟩ (.slice Lt mb.types.length g2)).setCell ⟨w.heap.size + 1, 3, none⟩ (.slice Lf mb.fns.length g3)).setCell ⟨w.heap.size + 1, 4, none⟩ (.slice Ln mb.nodes.length g4)) (w.heap.size) 31 #[.string (st ma.name), .slice Ji ma.imports.length e1, .slice Jt ma.types.length e2, .slice Jf ma.fns.length e3, .slice Jn ma.nodes.length e4] from (((((HB1.out.far (p := ⟨w.heap.size + 1, 0, none⟩) (by show w.heap.size ≠ w.heap.size + 1; omega) (.string (st mb.name))).far (p := ⟨w.heap.size + 1, 1, none⟩) (by show w.heap.size ≠ w.heap.size + 1; omega) (.slice Li mb.imports.length g1)).far (p := ⟨w.heap.size + 1, 2, none⟩) (by show w.heap.size ≠ w.heap.size + 1; omega) (.slice Lt mb.types.length g2)).far (p := ⟨w.heap.size + 1, 3, none⟩) (by show w.heap.size ≠ w.heap.size + 1; omega) (.slice Lf mb.fns.length g3)).far (p := ⟨w.heap.size + 1, 4, none⟩) (by show w.heap.size ≠ w.heap.size + 1; omega) (.slice Ln mb.nodes.length g4)))
  have HKp5 := hid_ ((((((Kp.refl (fun q => q = w.heap.size ∨ q = w.heap.size + 1) W4).setCell (p := ⟨w.heap.size + 1, 0, none⟩) (.inl (.inr rfl)) (.string (st mb.name))).setCell (p := ⟨w.heap.size + 1, 1, none⟩) (.inl (.inr rfl)) (.slice Li mb.imports.length g1)).setCell (p := ⟨w.heap.size + 1, 2, none⟩) (.inl (.inr rfl)) (.slice Lt mb.types.length g2)).setCell (p := ⟨w.heap.size + 1, 3, none⟩) (.inl (.inr rfl)) (.slice Lf mb.fns.length g3)).setCell (p := ⟨w.heap.size + 1, 4, none⟩) (.inl (.inr rfl)) (.slice Ln mb.nodes.length g4))
  clear HB1 HB2
  have HB2 := HX
  have HB1 := HY
  clear HX HY
  generalize (((((W4.setCell ⟨w.heap.size + 1, 0, none⟩ (.string (st mb.name))).setCell ⟨w.heap.size + 1, 1, none⟩ (.slice Li mb.imports.length g1)).setCell ⟨w.heap.size + 1, 2, none⟩ (.slice Lt mb.types.length g2)).setCell ⟨w.heap.size + 1, 3, none⟩ (.slice Lf mb.fns.length g3)).setCell ⟨w.heap.size + 1, 4, none⟩ (.slice Ln mb.nodes.length g4)) = W5 at *
  refine wpAnyL_done (by kernel_rfl) ?_ _
  have HKp := hid_ (HKp4.out.trans HKp5.out (fun q h => .inl h))
  have hsz := Hsz.out
  have HSm := hid_ (show ∀ q, q = w.heap.size ∨ q = w.heap.size + 1 → q < W0.heap.size from fun q h => by omega)
  have MB := hid_ (HZb.out W5 (HKp.out.mono fun q h => Nat.lt_of_lt_of_le (HSm.out q h) HSzb.out))
  have MA := hid_ (HZa.out W5 ((Kp.of_below HBl.out _).trans HKp.out (fun q h => .inl (Nat.lt_of_lt_of_le (HSm.out q h) HSza.out))))
  have RB := hid_ ((HW.out.trans (RB.out.mono HW.out.size)).trans (HKp.out.toBelow (Nat.le_trans HW.out.size RB.out.size) (fun q hq e => by omega)))
  clear hsz HFB HKp4 HKp5 HZa HZb HA HK HBl HP
  have z0 : W5.cell? ⟨w.heap.size, 0, none⟩ = some (.string (st ma.name)) := HB1.out.cell 0
  have z1 : W5.cell? ⟨w.heap.size, 1, none⟩ = some (.slice Ji ma.imports.length e1) := HB1.out.cell 1
  have z2 : W5.cell? ⟨w.heap.size, 2, none⟩ = some (.slice Jt ma.types.length e2) := HB1.out.cell 2
  have z3 : W5.cell? ⟨w.heap.size, 3, none⟩ = some (.slice Jf ma.fns.length e3) := HB1.out.cell 3
  have z4 : W5.cell? ⟨w.heap.size, 4, none⟩ = some (.slice Jn ma.nodes.length e4) := HB1.out.cell 4
  go_wp2_with fail
  refine (rcopy_c MA.out.weak).mono ?_
  rintro e w6 ⟨i6, t6, f6, n6, fx6, nx6, rfl, hhi, hb⟩
  obtain ⟨Wi, w1', rfl⟩ := own_form hhi.i
  obtain ⟨Wt, w2', rfl⟩ := own_form hhi.t
  obtain ⟨Wf, w3', rfl⟩ := own_form hhi.f
  obtain ⟨Wn, w4', rfl⟩ := own_form hhi.n
  clear z0 z1 z2 z3 z4
  have HWas := hid_ hhi
  have HB1 := hid_ (HB1.out.kp (Kp.of_below hb fun _ => False) id)
  have HB2 := hid_ (HB2.out.kp (Kp.of_below hb fun _ => False) id)
  have MA := hid_ (MA.out.below hb)
  have MB := hid_ (MB.out.below hb)
  have RB := hid_ (RB.out.trans (hb.mono RB.out.size))
  clear hb hhi
  go_upto_region 3 with fail
  have HBw := hid_ (below_alloc w6 (.cells #[.string (st ma.name), .slice Wi ma.imports.length w1', .slice Wt ma.types.length w2', .slice Wf ma.fns.length w3', .slice Wn ma.nodes.length w4'] 31))
  have HB5 := hid_ (Blk.new w6 31 #[.string (st ma.name), .slice Wi ma.imports.length w1', .slice Wt ma.types.length w2', .slice Wf ma.fns.length w3', .slice Wn ma.nodes.length w4'])
  have HWas := hid_ (HWas.out.below HBw.out)
  have HB1 := hid_ (HB1.out.kp (Kp.of_below HBw.out fun _ => False) id)
  have HB2 := hid_ (HB2.out.kp (Kp.of_below HBw.out fun _ => False) id)
  have MA := hid_ (MA.out.below HBw.out)
  have MB := hid_ (MB.out.below HBw.out)
  have RB := hid_ (RB.out.trans (HBw.out.mono RB.out.size))
  generalize w6.alloc (.cells #[.string (st ma.name), .slice Wi ma.imports.length w1', .slice Wt ma.types.length w2', .slice Wf ma.fns.length w3', .slice Wn ma.nodes.length w4'] 31) = W7 at *
  generalize w6.heap.size = p5 at *
  clear HBw
  have z0 : W7.cell? ⟨w.heap.size, 0, none⟩ = some (.string (st ma.name)) := HB1.out.cell 0
  have z1 : W7.cell? ⟨w.heap.size, 1, none⟩ = some (.slice Ji ma.imports.length e1) := HB1.out.cell 1
  have z2 : W7.cell? ⟨w.heap.size, 2, none⟩ = some (.slice Jt ma.types.length e2) := HB1.out.cell 2
  have z3 : W7.cell? ⟨w.heap.size, 3, none⟩ = some (.slice Jf ma.fns.length e3) := HB1.out.cell 3
  have z4 : W7.cell? ⟨w.heap.size, 4, none⟩ = some (.slice Jn ma.nodes.length e4) := HB1.out.cell 4
  have A7 := hid_ (And.intro MA.out (And.intro HWas.out (And.intro HB1.out (And.intro HB5.out RB.out))))
  go_wp2_with fail
  refine (tcopy_c MA.out).mono ?_
  rintro e w8 ⟨i8, t8, f8, n8, fx8, nx8, rfl, hhi, hb⟩
  obtain ⟨Ci, k1', rfl⟩ := own_form hhi.i
  obtain ⟨Ct, k2', rfl⟩ := own_form hhi.t
  obtain ⟨Cf, k3', rfl⟩ := own_form hhi.f
  obtain ⟨Cn, k4', rfl⟩ := own_form hhi.n
  clear z0 z1 z2 z3 z4
  have HCo := hid_ hhi
  have HBase := hid_ RB.out.size
  have HB1 := hid_ (HB1.out.kp (Kp.of_below hb fun _ => False) id)
  have HB2 := hid_ (HB2.out.kp (Kp.of_below hb fun _ => False) id)
  have HB5 := hid_ (HB5.out.kp (Kp.of_below hb fun _ => False) id)
  have HWas := hid_ (HWas.out.below hb)
  have MA := hid_ (MA.out.below hb)
  have MB := hid_ (MB.out.below hb)
  have RB := hid_ (RB.out.trans (hb.mono RB.out.size))
  have HB78 := hid_ hb
  clear hb hhi
  go_upto_region 4 with fail
  have HBw := hid_ (below_alloc w8 (.cells #[.string (st ma.name), .slice Ci ma.imports.length k1', .slice Ct ma.types.length k2', .slice Cf ma.fns.length k3', .slice Cn ma.nodes.length k4'] 31))
  have HB6 := hid_ (Blk.new w8 31 #[.string (st ma.name), .slice Ci ma.imports.length k1', .slice Ct ma.types.length k2', .slice Cf ma.fns.length k3', .slice Cn ma.nodes.length k4'])
  have HCo := hid_ (HCo.out.below HBw.out)
  have HWas := hid_ (HWas.out.below HBw.out)
  have HB1 := hid_ (HB1.out.kp (Kp.of_below HBw.out fun _ => False) id)
  have HB2 := hid_ (HB2.out.kp (Kp.of_below HBw.out fun _ => False) id)
  have HB5 := hid_ (HB5.out.kp (Kp.of_below HBw.out fun _ => False) id)
  have MA := hid_ (MA.out.below HBw.out)
  have MB := hid_ (MB.out.below HBw.out)
  have RB := hid_ (RB.out.trans (HBw.out.mono RB.out.size))
  have HB79 := hid_ (HB78.out.trans (HBw.out.mono HB78.out.size))
  generalize w8.alloc (.cells #[.string (st ma.name), .slice Ci ma.imports.length k1', .slice Ct ma.types.length k2', .slice Cf ma.fns.length k3', .slice Cn ma.nodes.length k4'] 31) = W9 at *
  generalize w8.heap.size = p6 at *
  clear HBw HB78
  have HP := hid_ (show Below W9.heap.size W9 W9.drew from (Below.refl _ _).drew)
  have z0 : W9.cell? ⟨w.heap.size, 0, none⟩ = some (.string (st ma.name)) := HB1.out.cell 0
  have z1 : W9.cell? ⟨w.heap.size, 1, none⟩ = some (.slice Ji ma.imports.length e1) := HB1.out.cell 1
  have z2 : W9.cell? ⟨w.heap.size, 2, none⟩ = some (.slice Jt ma.types.length e2) := HB1.out.cell 2
  have z3 : W9.cell? ⟨w.heap.size, 3, none⟩ = some (.slice Jf ma.fns.length e3) := HB1.out.cell 3
  have z4 : W9.cell? ⟨w.heap.size, 4, none⟩ = some (.slice Jn ma.nodes.length e4) := HB1.out.cell 4
  have y0 : W9.cell? ⟨w.heap.size + 1, 0, none⟩ = some (.string (st mb.name)) := HB2.out.cell 0
  have y1 : W9.cell? ⟨w.heap.size + 1, 1, none⟩ = some (.slice Li mb.imports.length g1) := HB2.out.cell 1
  have y2 : W9.cell? ⟨w.heap.size + 1, 2, none⟩ = some (.slice Lt mb.types.length g2) := HB2.out.cell 2
  have y3 : W9.cell? ⟨w.heap.size + 1, 3, none⟩ = some (.slice Lf mb.fns.length g3) := HB2.out.cell 3
  have y4 : W9.cell? ⟨w.heap.size + 1, 4, none⟩ = some (.slice Ln mb.nodes.length g4) := HB2.out.cell 4
  have v0 : W9.cell? ⟨p5, 0, none⟩ = some (.string (st ma.name)) := HB5.out.cell 0
  have v1 : W9.cell? ⟨p5, 1, none⟩ = some (.slice Wi ma.imports.length w1') := HB5.out.cell 1
  have v2 : W9.cell? ⟨p5, 2, none⟩ = some (.slice Wt ma.types.length w2') := HB5.out.cell 2
  have v3 : W9.cell? ⟨p5, 3, none⟩ = some (.slice Wf ma.fns.length w3') := HB5.out.cell 3
  have v4 : W9.cell? ⟨p5, 4, none⟩ = some (.slice Wn ma.nodes.length w4') := HB5.out.cell 4
  have u0 : W9.cell? ⟨p6, 0, none⟩ = some (.string (st ma.name)) := HB6.out.cell 0
  have u1 : W9.cell? ⟨p6, 1, none⟩ = some (.slice Ci ma.imports.length k1') := HB6.out.cell 1
  have u2 : W9.cell? ⟨p6, 2, none⟩ = some (.slice Ct ma.types.length k2') := HB6.out.cell 2
  have u3 : W9.cell? ⟨p6, 3, none⟩ = some (.slice Cf ma.fns.length k3') := HB6.out.cell 3
  have u4 : W9.cell? ⟨p6, 4, none⟩ = some (.slice Cn ma.nodes.length k4') := HB6.out.cell 4
  have HC := hid_ (fun (W' : World) (hb : Below W9.heap.size W9 W') => (⟨below_cell hb z0, below_cell hb z1, below_cell hb z2, below_cell hb z3, below_cell hb z4, below_cell hb y0, below_cell hb y1, below_cell hb y2, below_cell hb y3, below_cell hb y4, below_cell hb v0, below_cell hb v1, below_cell hb v2, below_cell hb v3, below_cell hb v4, below_cell hb u0, below_cell hb u1, below_cell hb u2, below_cell hb u3, below_cell hb u4⟩ : _ ∧ _ ∧ _ ∧ _ ∧ _ ∧ _ ∧ _ ∧ _ ∧ _ ∧ _ ∧ _ ∧ _ ∧ _ ∧ _ ∧ _ ∧ _ ∧ _ ∧ _ ∧ _ ∧ _))
  clear z0 z1 z2 z3 z4 y0 y1 y2 y3 y4 v0 v1 v2 v3 v4 u0 u1 u2 u3 u4
  refine wp_regionL (fun W' : World => Below W9.heap.size W9 W') [] (by kernel_rfl) ?_
  refine wpAnyL_take [] (i := 0) (v := ?vc0) rfl (by kernel_rfl) (by kernel_rfl) (by kernel_rfl) (by kernel_rfl) (by kernel_rfl) (by kernel_rfl) (fun _ _ _ h => h) HP.out (Or.inl ⟨by rfl, ?hyc0⟩) ?restc0
  case hyc0 => (intro w hw; obtain ⟨hz0, hz1, hz2, hz3, hz4, hy0, hy1, hy2, hy3, hy4, hv0, hv1, hv2, hv3, hv4, hu0, hu1, hu2, hu3, hu4⟩ := HC.out _ hw; go_simp; with_reducible rfl)
  try simp only [Act.put, List.getElem_toArray, List.getElem_cons_zero, List.setIfInBounds_toArray, List.set_cons_zero, List.set_cons_succ]
  refine wpAnyL_take [] (i := 2) (v := ?vc2) rfl (by kernel_rfl) (by kernel_rfl) (by kernel_rfl) (by kernel_rfl) (by kernel_rfl) (by kernel_rfl) (fun _ _ _ h => h) HP.out (Or.inl ⟨by rfl, ?hyc2⟩) ?restc2
  case hyc2 => (intro w hw; obtain ⟨hz0, hz1, hz2, hz3, hz4, hy0, hy1, hy2, hy3, hy4, hv0, hv1, hv2, hv3, hv4, hu0, hu1, hu2, hu3, hu4⟩ := HC.out _ hw; go_simp; with_reducible rfl)
  try simp only [Act.put, List.getElem_toArray, List.getElem_cons_succ, List.getElem_cons_zero, List.setIfInBounds_toArray, List.set_cons_zero, List.set_cons_succ]
  refine wpAnyL_step (i := 1) (by kernel_rfl) rfl (fun K hK => ?_)
  go_simp
  go_at_call 18
  refine (tcount_c (MA.out.below HP.out)).mono ?_
  intro e a1 hE2
  obtain ⟨va, rfl, hown, hb⟩ := hE2
  obtain ⟨Xa, xa, rfl⟩ := own_form hown
  have HXa := hid_ hown
  have HPn := hid_ (HP.out.trans (hb.mono HP.out.size))
  clear hown hb HP
  refine hK.out _ _ (fun _ => HPn.out) ?_
  have HP := HPn
  clear hK K
  try simp only [Act.put, List.getElem_toArray, List.getElem_cons_succ, List.getElem_cons_zero, List.setIfInBounds_toArray, List.set_cons_zero, List.set_cons_succ]
  refine wpAnyL_step (i := 3) (by kernel_rfl) rfl (fun K hK => ?_)
  go_simp
  go_at_call 19
  refine (rcount_c (MA.out.below HP.out)).mono ?_
  intro e a2 hE2
  obtain ⟨vb, rfl, hown, hb⟩ := hE2
  obtain ⟨Xb, xb, rfl⟩ := own_form hown
  have HXb := hid_ hown
  have HXa := hid_ (own_kp HXa.out (Kp.of_below hb fun _ => False) (fun _ _ e => e))
  have HPm := hid_ (HP.out.trans (hb.mono HP.out.size))
  clear hown hb HP
  refine hK.out _ _ (fun _ => HPm.out) ?_
  have HP := HPm
  clear hK K
  try simp only [Act.put, List.getElem_toArray, List.getElem_cons_succ, List.getElem_cons_zero, List.setIfInBounds_toArray, List.set_cons_zero, List.set_cons_succ]
  refine wpAnyL_take [] (i := 4) (v := ?vc4) rfl (by kernel_rfl) (by kernel_rfl) (by kernel_rfl) (by kernel_rfl) (by kernel_rfl) (by kernel_rfl) (fun _ _ _ h => h) HP.out (Or.inl ⟨by rfl, ?hyc4⟩) ?restc4
  case hyc4 => (intro w hw; obtain ⟨hz0, hz1, hz2, hz3, hz4, hy0, hy1, hy2, hy3, hy4, hv0, hv1, hv2, hv3, hv4, hu0, hu1, hu2, hu3, hu4⟩ := HC.out _ hw; go_simp; with_reducible rfl)
  try simp only [Act.put, List.getElem_toArray, List.getElem_cons_succ, List.getElem_cons_zero, List.setIfInBounds_toArray, List.set_cons_zero, List.set_cons_succ]
  refine wpAnyL_take [] (i := 5) (v := ?vc5) rfl (by kernel_rfl) (by kernel_rfl) (by kernel_rfl) (by kernel_rfl) (by kernel_rfl) (by kernel_rfl) (fun _ _ _ h => h) HP.out (Or.inl ⟨by rfl, ?hyc5⟩) ?restc5
  case hyc5 => (intro w hw; obtain ⟨hz0, hz1, hz2, hz3, hz4, hy0, hy1, hy2, hy3, hy4, hv0, hv1, hv2, hv3, hv4, hu0, hu1, hu2, hu3, hu4⟩ := HC.out _ hw; go_simp; with_reducible rfl)
  try simp only [Act.put, List.getElem_toArray, List.getElem_cons_succ, List.getElem_cons_zero, List.setIfInBounds_toArray, List.set_cons_zero, List.set_cons_succ]
  refine wpAnyL_done (by kernel_rfl) ?_ _
  go_upto_region 5 with fail
  have HXa := hid_ (own_kp HXa.out (Kp.of_below (Below.refl _ _).drew fun _ => False) (fun _ _ e => e))
  have HXb := hid_ (own_kp HXb.out (Kp.of_below (Below.refl _ _).drew fun _ => False) (fun _ _ e => e))
  have HP := hid_ HP.out.drew
  have q1 : ((decide (ma = mb)) != (decide (ma = mb))) = false := by cases decide (ma = mb) <;> rfl
  have e1 : decide (ma = ma) = true := decide_eq_true rfl
  have HE1 := hid_ e1
  generalize hd : decide (ma = mb) = d at *
  have HD := hid_ hd
  clear hd e1
  refine wp_regionL (fun W' : World => Below W9.heap.size W9 W') [] (by kernel_rfl) ?_
  refine wpAnyL_take [] (i := 0) (v := ?vd0) rfl (by kernel_rfl) (by kernel_rfl) (by kernel_rfl) (by kernel_rfl) (by kernel_rfl) (by kernel_rfl) (fun _ _ _ h => h) HP.out (Or.inl ⟨by rfl, ?hyd0⟩) ?restd0
  case hyd0 => (intro w hw; obtain ⟨hz0, hz1, hz2, hz3, hz4, hy0, hy1, hy2, hy3, hy4, hv0, hv1, hv2, hv3, hv4, hu0, hu1, hu2, hu3, hu4⟩ := HC.out _ hw; go_simp; with_reducible rfl)
  try simp only [Act.put, List.getElem_toArray, List.getElem_cons_zero, List.setIfInBounds_toArray, List.set_cons_zero, List.set_cons_succ]
  refine wpAnyL_take [] (i := 1) (v := ?vd1) rfl (by kernel_rfl) (by kernel_rfl) (by kernel_rfl) (by kernel_rfl) (by kernel_rfl) (by kernel_rfl) (fun _ _ _ h => h) HP.out (Or.inl ⟨by rfl, ?hyd1⟩) ?restd1
  case hyd1 => (intro w hw; obtain ⟨hz0, hz1, hz2, hz3, hz4, hy0, hy1, hy2, hy3, hy4, hv0, hv1, hv2, hv3, hv4, hu0, hu1, hu2, hu3, hu4⟩ := HC.out _ hw; go_simp; with_reducible rfl)
  try simp only [Act.put, List.getElem_toArray, List.getElem_cons_succ, List.getElem_cons_zero, List.setIfInBounds_toArray, List.set_cons_zero, List.set_cons_succ]
  refine wpAnyL_take [] (i := 3) (v := ?vd3) rfl (by kernel_rfl) (by kernel_rfl) (by kernel_rfl) (by kernel_rfl) (by kernel_rfl) (by kernel_rfl) (fun _ _ _ h => h) HP.out (Or.inl ⟨by rfl, ?hyd3⟩) ?restd3
  case hyd3 => (intro w hw; obtain ⟨hz0, hz1, hz2, hz3, hz4, hy0, hy1, hy2, hy3, hy4, hv0, hv1, hv2, hv3, hv4, hu0, hu1, hu2, hu3, hu4⟩ := HC.out _ hw; go_simp; with_reducible rfl)
  try simp only [Act.put, List.getElem_toArray, List.getElem_cons_succ, List.getElem_cons_zero, List.setIfInBounds_toArray, List.set_cons_zero, List.set_cons_succ]
  refine wpAnyL_take [] (i := 4) (v := ?vd4) rfl (by kernel_rfl) (by kernel_rfl) (by kernel_rfl) (by kernel_rfl) (by kernel_rfl) (by kernel_rfl) (fun _ _ _ h => h) HP.out (Or.inl ⟨by rfl, ?hyd4⟩) ?restd4
  case hyd4 => (intro w hw; obtain ⟨hz0, hz1, hz2, hz3, hz4, hy0, hy1, hy2, hy3, hy4, hv0, hv1, hv2, hv3, hv4, hu0, hu1, hu2, hu3, hu4⟩ := HC.out _ hw; go_simp; with_reducible rfl)
  try simp only [Act.put, List.getElem_toArray, List.getElem_cons_succ, List.getElem_cons_zero, List.setIfInBounds_toArray, List.set_cons_zero, List.set_cons_succ]
  refine wpAnyL_step (i := 2) (by kernel_rfl) rfl (fun K hK => ?_)
  go_simp
  go_at_call 14
  refine (same_c (MA.out.below HP.out).at_ (MB.out.below HP.out).at_).mono ?_
  intro e b2 hE2
  obtain ⟨he, hb⟩ := hE2
  rw [HD.out] at he
  subst he
  have HXa := hid_ (own_kp HXa.out (Kp.of_below hb fun _ => False) (fun _ _ e => e))
  have HXb := hid_ (own_kp HXb.out (Kp.of_below hb fun _ => False) (fun _ _ e => e))
  have HPn := hid_ (HP.out.trans (hb.mono HP.out.size))
  clear hb HP
  refine hK.out _ _ (fun _ => HPn.out) ?_
  have HP := HPn
  clear hK K
  try simp only [Act.put, List.getElem_toArray, List.getElem_cons_succ, List.getElem_cons_zero, List.setIfInBounds_toArray, List.set_cons_zero, List.set_cons_succ]
  refine wpAnyL_step (i := 5) (by kernel_rfl) rfl (fun K hK => ?_)
  go_simp
  go_at_call 20
  refine (rsame_c (MA.out.below HP.out).at_ (MB.out.below HP.out).at_).mono ?_
  intro e b5 hE2
  obtain ⟨he, hb⟩ := hE2
  rw [HD.out] at he
  subst he
  have HXa := hid_ (own_kp HXa.out (Kp.of_below hb fun _ => False) (fun _ _ e => e))
  have HXb := hid_ (own_kp HXb.out (Kp.of_below hb fun _ => False) (fun _ _ e => e))
  have HPn := hid_ (HP.out.trans (hb.mono HP.out.size))
  clear hb HP
  refine hK.out _ _ (fun _ => HPn.out) ?_
  have HP := HPn
  clear hK K
  try simp only [Act.put, List.getElem_toArray, List.getElem_cons_succ, List.getElem_cons_zero, List.setIfInBounds_toArray, List.set_cons_zero, List.set_cons_succ]
  refine wpAnyL_take [] (i := 6) (v := ?vd6) rfl (by kernel_rfl) (by kernel_rfl) (by kernel_rfl) (by kernel_rfl) (by kernel_rfl) (by kernel_rfl) (fun _ _ _ h => h) HP.out (Or.inl ⟨by rfl, ?hyd6⟩) ?restd6
  case hyd6 => (intro w hw; obtain ⟨hz0, hz1, hz2, hz3, hz4, hy0, hy1, hy2, hy3, hy4, hv0, hv1, hv2, hv3, hv4, hu0, hu1, hu2, hu3, hu4⟩ := HC.out _ hw; go_simp; with_reducible rfl)
  try simp only [Act.put, List.getElem_toArray, List.getElem_cons_succ, List.getElem_cons_zero, List.setIfInBounds_toArray, List.set_cons_zero, List.set_cons_succ]
  refine wpAnyL_take [] (i := 7) (v := ?vd7) rfl (by kernel_rfl) (by kernel_rfl) (by kernel_rfl) (by kernel_rfl) (by kernel_rfl) (by kernel_rfl) (fun _ _ _ h => h) HP.out (Or.inl ⟨by rfl, ?hyd7⟩) ?restd7
  case hyd7 => (intro w hw; obtain ⟨hz0, hz1, hz2, hz3, hz4, hy0, hy1, hy2, hy3, hy4, hv0, hv1, hv2, hv3, hv4, hu0, hu1, hu2, hu3, hu4⟩ := HC.out _ hw; go_simp; with_reducible rfl)
  try simp only [Act.put, List.getElem_toArray, List.getElem_cons_succ, List.getElem_cons_zero, List.setIfInBounds_toArray, List.set_cons_zero, List.set_cons_succ]
  refine wpAnyL_take [] (i := 8) (v := ?vd8) rfl (by kernel_rfl) (by kernel_rfl) (by kernel_rfl) (by kernel_rfl) (by kernel_rfl) (by kernel_rfl) (fun _ _ _ h => h) HP.out (Or.inl ⟨by rfl, ?hyd8⟩) ?restd8
  case hyd8 => (intro w hw; obtain ⟨hz0, hz1, hz2, hz3, hz4, hy0, hy1, hy2, hy3, hy4, hv0, hv1, hv2, hv3, hv4, hu0, hu1, hu2, hu3, hu4⟩ := HC.out _ hw; go_simp; with_reducible rfl)
  try simp only [Act.put, List.getElem_toArray, List.getElem_cons_succ, List.getElem_cons_zero, List.setIfInBounds_toArray, List.set_cons_zero, List.set_cons_succ]
  refine wpAnyL_take [] (i := 9) (v := ?vd9) rfl (by kernel_rfl) (by kernel_rfl) (by kernel_rfl) (by kernel_rfl) (by kernel_rfl) (by kernel_rfl) (fun _ _ _ h => h) HP.out (Or.inl ⟨by rfl, ?hyd9⟩) ?restd9
  case hyd9 => (intro w hw; obtain ⟨hz0, hz1, hz2, hz3, hz4, hy0, hy1, hy2, hy3, hy4, hv0, hv1, hv2, hv3, hv4, hu0, hu1, hu2, hu3, hu4⟩ := HC.out _ hw; go_simp; with_reducible rfl)
  try simp only [Act.put, List.getElem_toArray, List.getElem_cons_succ, List.getElem_cons_zero, List.setIfInBounds_toArray, List.set_cons_zero, List.set_cons_succ]
  refine wpAnyL_step (i := 10) (by kernel_rfl) rfl (fun K hK => ?_)
  go_simp
  go_at_call 14
  refine (same_c (MA.out.below HP.out).at_ (HWas.out.z.below HP.out).at_).mono ?_
  intro e b10 hE2
  obtain ⟨he, hb⟩ := hE2
  rw [HE1.out] at he
  subst he
  have HXa := hid_ (own_kp HXa.out (Kp.of_below hb fun _ => False) (fun _ _ e => e))
  have HXb := hid_ (own_kp HXb.out (Kp.of_below hb fun _ => False) (fun _ _ e => e))
  have HPn := hid_ (HP.out.trans (hb.mono HP.out.size))
  clear hb HP
  refine hK.out _ _ (fun _ => HPn.out) ?_
  have HP := HPn
  clear hK K
  try simp only [Act.put, List.getElem_toArray, List.getElem_cons_succ, List.getElem_cons_zero, List.setIfInBounds_toArray, List.set_cons_zero, List.set_cons_succ]
  refine wpAnyL_take [] (i := 11) (v := ?vd11) rfl (by kernel_rfl) (by kernel_rfl) (by kernel_rfl) (by kernel_rfl) (by kernel_rfl) (by kernel_rfl) (fun _ _ _ h => h) HP.out (Or.inl ⟨by rfl, ?hyd11⟩) ?restd11
  case hyd11 => (intro w hw; obtain ⟨hz0, hz1, hz2, hz3, hz4, hy0, hy1, hy2, hy3, hy4, hv0, hv1, hv2, hv3, hv4, hu0, hu1, hu2, hu3, hu4⟩ := HC.out _ hw; go_simp; with_reducible rfl)
  try simp only [Act.put, List.getElem_toArray, List.getElem_cons_succ, List.getElem_cons_zero, List.setIfInBounds_toArray, List.set_cons_zero, List.set_cons_succ]
  refine wpAnyL_take [] (i := 12) (v := ?vd12) rfl (by kernel_rfl) (by kernel_rfl) (by kernel_rfl) (by kernel_rfl) (by kernel_rfl) (by kernel_rfl) (fun _ _ _ h => h) HP.out (Or.inl ⟨by rfl, ?hyd12⟩) ?restd12
  case hyd12 => (intro w hw; obtain ⟨hz0, hz1, hz2, hz3, hz4, hy0, hy1, hy2, hy3, hy4, hv0, hv1, hv2, hv3, hv4, hu0, hu1, hu2, hu3, hu4⟩ := HC.out _ hw; go_simp; with_reducible rfl)
  try simp only [Act.put, List.getElem_toArray, List.getElem_cons_succ, List.getElem_cons_zero, List.setIfInBounds_toArray, List.set_cons_zero, List.set_cons_succ]
  refine wpAnyL_take [] (i := 13) (v := ?vd13) rfl (by kernel_rfl) (by kernel_rfl) (by kernel_rfl) (by kernel_rfl) (by kernel_rfl) (by kernel_rfl) (fun _ _ _ h => h) HP.out (Or.inl ⟨by rfl, ?hyd13⟩) ?restd13
  case hyd13 => (intro w hw; obtain ⟨hz0, hz1, hz2, hz3, hz4, hy0, hy1, hy2, hy3, hy4, hv0, hv1, hv2, hv3, hv4, hu0, hu1, hu2, hu3, hu4⟩ := HC.out _ hw; go_simp; with_reducible rfl)
  try simp only [Act.put, List.getElem_toArray, List.getElem_cons_succ, List.getElem_cons_zero, List.setIfInBounds_toArray, List.set_cons_zero, List.set_cons_succ]
  refine wpAnyL_take [] (i := 14) (v := ?vd14) rfl (by kernel_rfl) (by kernel_rfl) (by kernel_rfl) (by kernel_rfl) (by kernel_rfl) (by kernel_rfl) (fun _ _ _ h => h) HP.out (Or.inl ⟨by rfl, ?hyd14⟩) ?restd14
  case hyd14 => (intro w hw; obtain ⟨hz0, hz1, hz2, hz3, hz4, hy0, hy1, hy2, hy3, hy4, hv0, hv1, hv2, hv3, hv4, hu0, hu1, hu2, hu3, hu4⟩ := HC.out _ hw; go_simp; with_reducible rfl)
  try simp only [Act.put, List.getElem_toArray, List.getElem_cons_succ, List.getElem_cons_zero, List.setIfInBounds_toArray, List.set_cons_zero, List.set_cons_succ]
  refine wpAnyL_take [] (i := 15) (v := ?vd15) rfl (by kernel_rfl) (by kernel_rfl) (by kernel_rfl) (by kernel_rfl) (by kernel_rfl) (by kernel_rfl) (fun _ _ _ h => h) HP.out (Or.inl ⟨by rfl, ?hyd15⟩) ?restd15
  case hyd15 => (intro w hw; obtain ⟨hz0, hz1, hz2, hz3, hz4, hy0, hy1, hy2, hy3, hy4, hv0, hv1, hv2, hv3, hv4, hu0, hu1, hu2, hu3, hu4⟩ := HC.out _ hw; go_simp; with_reducible rfl)
  try simp only [Act.put, List.getElem_toArray, List.getElem_cons_succ, List.getElem_cons_zero, List.setIfInBounds_toArray, List.set_cons_zero, List.set_cons_succ]
  refine wpAnyL_step (i := 16) (by kernel_rfl) rfl (fun K hK => ?_)
  go_simp
  go_at_call 20
  refine (rsame_c (HCo.out.z.below HP.out).at_ (HWas.out.z.below HP.out).at_).mono ?_
  intro e b16 hE2
  obtain ⟨he, hb⟩ := hE2
  rw [HE1.out] at he
  subst he
  have HXa := hid_ (own_kp HXa.out (Kp.of_below hb fun _ => False) (fun _ _ e => e))
  have HXb := hid_ (own_kp HXb.out (Kp.of_below hb fun _ => False) (fun _ _ e => e))
  have HPn := hid_ (HP.out.trans (hb.mono HP.out.size))
  clear hb HP
  refine hK.out _ _ (fun _ => HPn.out) ?_
  have HP := HPn
  clear hK K
  try simp only [Act.put, List.getElem_toArray, List.getElem_cons_succ, List.getElem_cons_zero, List.setIfInBounds_toArray, List.set_cons_zero, List.set_cons_succ]
  refine wpAnyL_take [] (i := 17) (v := ?vd17) rfl (by kernel_rfl) (by kernel_rfl) (by kernel_rfl) (by kernel_rfl) (by kernel_rfl) (by kernel_rfl) (fun _ _ _ h => h) HP.out (Or.inl ⟨by rfl, ?hyd17⟩) ?restd17
  case hyd17 => (intro w hw; obtain ⟨hz0, hz1, hz2, hz3, hz4, hy0, hy1, hy2, hy3, hy4, hv0, hv1, hv2, hv3, hv4, hu0, hu1, hu2, hu3, hu4⟩ := HC.out _ hw; go_simp; with_reducible rfl)
  try simp only [Act.put, List.getElem_toArray, List.getElem_cons_succ, List.getElem_cons_zero, List.setIfInBounds_toArray, List.set_cons_zero, List.set_cons_succ]
  refine wpAnyL_take [] (i := 18) (v := ?vd18) rfl (by kernel_rfl) (by kernel_rfl) (by kernel_rfl) (by kernel_rfl) (by kernel_rfl) (by kernel_rfl) (fun _ _ _ h => h) HP.out (Or.inl ⟨by rfl, ?hyd18⟩) ?restd18
  case hyd18 => (intro w hw; obtain ⟨hz0, hz1, hz2, hz3, hz4, hy0, hy1, hy2, hy3, hy4, hv0, hv1, hv2, hv3, hv4, hu0, hu1, hu2, hu3, hu4⟩ := HC.out _ hw; go_simp; with_reducible rfl)
  try simp only [Act.put, List.getElem_toArray, List.getElem_cons_succ, List.getElem_cons_zero, List.setIfInBounds_toArray, List.set_cons_zero, List.set_cons_succ]
  refine wpAnyL_take [] (i := 19) (v := ?vd19) rfl (by kernel_rfl) (by kernel_rfl) (by kernel_rfl) (by kernel_rfl) (by kernel_rfl) (by kernel_rfl) (fun _ _ _ h => h) HP.out (Or.inl ⟨by rfl, ?hyd19⟩) ?restd19
  case hyd19 => (intro w hw; obtain ⟨hz0, hz1, hz2, hz3, hz4, hy0, hy1, hy2, hy3, hy4, hv0, hv1, hv2, hv3, hv4, hu0, hu1, hu2, hu3, hu4⟩ := HC.out _ hw; go_simp; with_reducible rfl)
  try simp only [Act.put, List.getElem_toArray, List.getElem_cons_succ, List.getElem_cons_zero, List.setIfInBounds_toArray, List.set_cons_zero, List.set_cons_succ]
  refine wpAnyL_take [] (i := 20) (v := ?vd20) rfl (by kernel_rfl) (by kernel_rfl) (by kernel_rfl) (by kernel_rfl) (by kernel_rfl) (by kernel_rfl) (fun _ _ _ h => h) HP.out (Or.inl ⟨by rfl, ?hyd20⟩) ?restd20
  case hyd20 => (intro w hw; obtain ⟨hz0, hz1, hz2, hz3, hz4, hy0, hy1, hy2, hy3, hy4, hv0, hv1, hv2, hv3, hv4, hu0, hu1, hu2, hu3, hu4⟩ := HC.out _ hw; go_simp; with_reducible rfl)
  try simp only [Act.put, List.getElem_toArray, List.getElem_cons_succ, List.getElem_cons_zero, List.setIfInBounds_toArray, List.set_cons_zero, List.set_cons_succ]
  refine wpAnyL_take [] (i := 21) (v := ?vd21) rfl (by kernel_rfl) (by kernel_rfl) (by kernel_rfl) (by kernel_rfl) (by kernel_rfl) (by kernel_rfl) (fun _ _ _ h => h) HP.out (Or.inl ⟨by rfl, ?hyd21⟩) ?restd21
  case hyd21 => (intro w hw; obtain ⟨hz0, hz1, hz2, hz3, hz4, hy0, hy1, hy2, hy3, hy4, hv0, hv1, hv2, hv3, hv4, hu0, hu1, hu2, hu3, hu4⟩ := HC.out _ hw; go_simp; with_reducible rfl)
  try simp only [Act.put, List.getElem_toArray, List.getElem_cons_succ, List.getElem_cons_zero, List.setIfInBounds_toArray, List.set_cons_zero, List.set_cons_succ]
  refine wpAnyL_take [] (i := 22) (v := ?vd22) rfl (by kernel_rfl) (by kernel_rfl) (by kernel_rfl) (by kernel_rfl) (by kernel_rfl) (by kernel_rfl) (fun _ _ _ h => h) HP.out (Or.inl ⟨by rfl, ?hyd22⟩) ?restd22
  case hyd22 => (intro w hw; obtain ⟨hz0, hz1, hz2, hz3, hz4, hy0, hy1, hy2, hy3, hy4, hv0, hv1, hv2, hv3, hv4, hu0, hu1, hu2, hu3, hu4⟩ := HC.out _ hw; go_simp; with_reducible rfl)
  try simp only [Act.put, List.getElem_toArray, List.getElem_cons_succ, List.getElem_cons_zero, List.setIfInBounds_toArray, List.set_cons_zero, List.set_cons_succ]
  refine wpAnyL_take [] (i := 23) (v := ?vd23) rfl (by kernel_rfl) (by kernel_rfl) (by kernel_rfl) (by kernel_rfl) (by kernel_rfl) (by kernel_rfl) (fun _ _ _ h => h) HP.out (Or.inl ⟨by rfl, ?hyd23⟩) ?restd23
  case hyd23 => (intro w hw; obtain ⟨hz0, hz1, hz2, hz3, hz4, hy0, hy1, hy2, hy3, hy4, hv0, hv1, hv2, hv3, hv4, hu0, hu1, hu2, hu3, hu4⟩ := HC.out _ hw; go_simp; with_reducible rfl)
  try simp only [Act.put, List.getElem_toArray, List.getElem_cons_succ, List.getElem_cons_zero, List.setIfInBounds_toArray, List.set_cons_zero, List.set_cons_succ]
  refine wpAnyL_take [] (i := 24) (v := ?vd24) rfl (by kernel_rfl) (by kernel_rfl) (by kernel_rfl) (by kernel_rfl) (by kernel_rfl) (by kernel_rfl) (fun _ _ _ h => h) HP.out (Or.inl ⟨by rfl, ?hyd24⟩) ?restd24
  case hyd24 => (intro w hw; obtain ⟨hz0, hz1, hz2, hz3, hz4, hy0, hy1, hy2, hy3, hy4, hv0, hv1, hv2, hv3, hv4, hu0, hu1, hu2, hu3, hu4⟩ := HC.out _ hw; go_simp; with_reducible rfl)
  try simp only [Act.put, List.getElem_toArray, List.getElem_cons_succ, List.getElem_cons_zero, List.setIfInBounds_toArray, List.set_cons_zero, List.set_cons_succ]
  refine wpAnyL_take [] (i := 25) (v := ?vd25) rfl (by kernel_rfl) (by kernel_rfl) (by kernel_rfl) (by kernel_rfl) (by kernel_rfl) (by kernel_rfl) (fun _ _ _ h => h) HP.out (Or.inl ⟨by rfl, ?hyd25⟩) ?restd25
  case hyd25 => (intro w hw; obtain ⟨hz0, hz1, hz2, hz3, hz4, hy0, hy1, hy2, hy3, hy4, hv0, hv1, hv2, hv3, hv4, hu0, hu1, hu2, hu3, hu4⟩ := HC.out _ hw; go_simp; with_reducible rfl)
  try simp only [Act.put, List.getElem_toArray, List.getElem_cons_succ, List.getElem_cons_zero, List.setIfInBounds_toArray, List.set_cons_zero, List.set_cons_succ]
  refine wpAnyL_done (by kernel_rfl) ?_ _
  clear q1
  go_wp2_with fail
  have hl25 : (cnts ma.nodes).length = 25 := cnts_len _
  have HL25 := hid_ hl25
  clear hl25
  go_loopg [9] 26 (fun g v9 wr => ∃ i : Nat, v9 = .int .i64 i ∧ i ≤ 25 ∧ Below b16.heap.size b16 wr ∧ 25 - i + 1 ≤ g)
  case atStart => exact ⟨0, rfl, by omega, Below.refl _ _, by omega⟩
  case round =>
    obtain ⟨i, rfl, hi, hb, hg⟩ := hrel
    have HBl := hid_ hb
    clear hb
    by_cases hlt : i < 25
    · have b0 : (0 : Int) ≤ (i : Int) := by omega
      have b1 : (i : Int) < 25 := by omega
      obtain ⟨r1, s1, h1⟩ := own_head HXa.out (by omega)
      obtain ⟨r2, s2, h2⟩ := own_head HXb.out (by omega)
      injection h1 with h1 h1l h1c
      injection h2 with h2 h2l h2c
      clear h1l h2l
      subst h1 h1c h2 h2c
      have hi25 : i < (cnts ma.nodes).length := by rw [HL25.out]; exact hlt
      have c1 := below_cell HBl.out (own_cell HXa.out i _ (ints_at hi25))
      have c2 := below_cell HBl.out (own_cell HXb.out i _ (ints_at hi25))
      generalize (cnts ma.nodes)[i] = xv at *
      have q0 : (xv != xv) = false := by simp
      clear hi25
      go_wp2_with fail
      go_quiet (fail)
      go_wp2_with fail
      go_roundg (gk - 1)
      case rel => exact ⟨i + 1, by go_num, by omega, by first | exact HBl.out | exact HBl.out.drew | exact bdrewN HBl.out _, by omega⟩
      case measure => omega
    · obtain rfl : i = 25 := by omega
      clear hi hg hlt
      have RBw := hid_ (HP.out.trans (HBl.out.mono HP.out.size))
      obtain ⟨hz0, hz1, hz2, hz3, hz4, hy0, hy1, hy2, hy3, hy4, hv0, hv1, hv2, hv3, hv4, hu0, hu1, hu2, hu3, hu4⟩ := HC.out _ RBw.out
      go_wp2_with fail
      refine (spoil_c (HCo.out.below RBw.out) (Nat.le_trans HB79.out.size RBw.out.size)).mono ?_
      rintro e w20 ⟨⟨v20, rfl⟩, hb⟩
      clear hz0 hz1 hz2 hz3 hz4 hy0 hy1 hy2 hy3 hy4 hv0 hv1 hv2 hv3 hv4 hu0 hu1 hu2 hu3 hu4
      have B7 := hid_ ((HB79.out.trans (RBw.out.mono HB79.out.size)).trans hb)
      obtain ⟨ma7, wa7, b17, b57, rb7⟩ := A7.out
      have MA := hid_ (ma7.below B7.out)
      have HWas := hid_ (wa7.z.below B7.out)
      have HB1 := hid_ (b17.kp (Kp.of_below B7.out fun _ => False) id)
      have HB5 := hid_ (b57.kp (Kp.of_below B7.out fun _ => False) id)
      have RB := hid_ (rb7.trans (B7.out.mono rb7.size))
      clear ma7 wa7 b17 b57 rb7 hb
      have z0 : w20.cell? ⟨w.heap.size, 0, none⟩ = some (.string (st ma.name)) := HB1.out.cell 0
      have z1 : w20.cell? ⟨w.heap.size, 1, none⟩ = some (.slice Ji ma.imports.length e1) := HB1.out.cell 1
      have z2 : w20.cell? ⟨w.heap.size, 2, none⟩ = some (.slice Jt ma.types.length e2) := HB1.out.cell 2
      have z3 : w20.cell? ⟨w.heap.size, 3, none⟩ = some (.slice Jf ma.fns.length e3) := HB1.out.cell 3
      have z4 : w20.cell? ⟨w.heap.size, 4, none⟩ = some (.slice Jn ma.nodes.length e4) := HB1.out.cell 4
      have v0 : w20.cell? ⟨p5, 0, none⟩ = some (.string (st ma.name)) := HB5.out.cell 0
      have v1 : w20.cell? ⟨p5, 1, none⟩ = some (.slice Wi ma.imports.length w1') := HB5.out.cell 1
      have v2 : w20.cell? ⟨p5, 2, none⟩ = some (.slice Wt ma.types.length w2') := HB5.out.cell 2
      have v3 : w20.cell? ⟨p5, 3, none⟩ = some (.slice Wf ma.fns.length w3') := HB5.out.cell 3
      have v4 : w20.cell? ⟨p5, 4, none⟩ = some (.slice Wn ma.nodes.length w4') := HB5.out.cell 4

      go_wp2_with fail
      refine (rsame_c MA.out.at_ HWas.out.at_).mono ?_
      rintro e w21 ⟨he, hb⟩
      rw [show decide (ma = ma) = true from decide_eq_true rfl] at he
      subst he
      have RB := hid_ (RB.out.trans (hb.mono RB.out.size))
      clear hb z0 z1 z2 z3 z4 v0 v1 v2 v3 v4
      go_wp2_with fail
      refine (works_c (EV.out _ RB.out)).mono ?_
      rintro e w22 ⟨rfl, hb⟩
      have RB := hid_ (RB.out.trans (hb.mono RB.out.size))
      clear hb
      go_wp2_with fail
      go_ret
      exact ⟨rfl, RB.out⟩
end Go.Proofs.YtmgjmagniefhoaaGreatDoor
