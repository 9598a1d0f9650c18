/- TreeBrackets, walked. Conditions: those that each theorem names. -/
import Derived.Test.YtmgjmagniefhoaaGreatDoorAb04
import Derived.Test.YtmgjmagniefhoaaGreatDoorAa24
import Derived.Deep.DeepCutAuto
namespace Go.Proofs.YtmgjmagniefhoaaGreatDoor
open Go.RowKit Go.Maps
section
variable {w w' : World}
theorem zer {W : World} {g : Nat} (h : Blk W g 31 #[.string ⟨#[]⟩, .slice none 0 0, .slice none 0 0, .slice none 0 0, .slice none 0 0]) : W.cell? ⟨g, 0, none⟩ = some (.string ⟨#[]⟩) ∧ W.cell? ⟨g, 1, none⟩ = some (.slice none 0 0) ∧ W.cell? ⟨g, 2, none⟩ = some (.slice none 0 0) ∧ W.cell? ⟨g, 3, none⟩ = some (.slice none 0 0) ∧ W.cell? ⟨g, 4, none⟩ = some (.slice none 0 0) ∧ W.frozen? ⟨g, 0, none⟩ = false ∧ W.frozen? ⟨g, 1, none⟩ = false ∧ W.frozen? ⟨g, 2, none⟩ = false ∧ W.frozen? ⟨g, 3, none⟩ = false ∧ W.frozen? ⟨g, 4, none⟩ = false :=
  ⟨h.cell 0, h.cell 1, h.cell 2, h.cell 3, h.cell 4, h.frozen 0, h.frozen 1, h.frozen 2, h.frozen 3, h.frozen 4⟩
theorem below5 {B vb : Nat} {W W1 : World} (h : Below B W W1) (hB : B ≤ vb) (c0 c1 c2 c3 c4 : Value) : Below B W (((((W1.setCell ⟨vb, 0, none⟩ c0).setCell ⟨vb, 1, none⟩ c1).setCell ⟨vb, 2, none⟩ c2).setCell ⟨vb, 3, none⟩ c3).setCell ⟨vb, 4, none⟩ c4) :=
  ((((h.setCell (p := ⟨vb, 0, none⟩) hB c0).setCell (p := ⟨vb, 1, none⟩) hB c1).setCell (p := ⟨vb, 2, none⟩) hB c2).setCell (p := ⟨vb, 3, none⟩) hB c3).setCell (p := ⟨vb, 4, none⟩) hB c4
theorem fin_b {W4 W : World} {vb base : Nat} {v : Value} {m : Tr.Md} {c0 c1 c2 c3 c4 : Value} {cs : Array Value} (hb : Blk W vb 31 cs) (hcs : cs = zeroM) (hM : ModK base W v m) (hlt : vb < base) (hB : Below W4.heap.size W4 W) (h4 : W4.heap.size ≤ vb) {WF : World}
    (hF : WF = ((((W.setCell ⟨vb, 0, none⟩ c0).setCell ⟨vb, 1, none⟩ c1).setCell ⟨vb, 2, none⟩ c2).setCell ⟨vb, 3, none⟩ c3).setCell ⟨vb, 4, none⟩ c4) :
    Blk WF vb 31 #[c0, c1, c2, c3, c4] ∧ ModAt WF v m ∧ Below W4.heap.size W4 WF := by
  subst hF hcs
  refine ⟨((((hb.set_ 0 c0).set_ 1 c1).set_ 2 c2).set_ 3 c3).set_ 4 c4, hM _ ?_, ?_⟩
  · exact (((((Kp.refl _ W).setCell (p := ⟨vb, 0, none⟩) (.inl hlt) c0).setCell (p := ⟨vb, 1, none⟩) (.inl hlt) c1).setCell (p := ⟨vb, 2, none⟩) (.inl hlt) c2).setCell (p := ⟨vb, 3, none⟩) (.inl hlt) c3).setCell (p := ⟨vb, 4, none⟩) (.inl hlt) c4
  · exact ((((hB.setCell (p := ⟨vb, 0, none⟩) h4 c0).setCell (p := ⟨vb, 1, none⟩) h4 c1).setCell (p := ⟨vb, 2, none⟩) h4 c2).setCell (p := ⟨vb, 3, none⟩) h4 c3).setCell (p := ⟨vb, 4, none⟩) h4 c4
set_option maxHeartbeats 2000000 in
set_option maxRecDepth 100000 in
theorem brackets_c (hv : Env w) {sv : Value} {N : List Int} (hr : RowAt w sv N.length (ints N)) (hcp : ∀ A n c, sv = .slice A n c → n ≤ c ∧ c ≤ 100000000000000) (hlow : ∀ b off q n c, sv = .slice (some ⟨b, off, q⟩) n c → b < w.heap.size) (pad : Int) :
    Calls Tryz.prog 4 #[.agg #[sv], .int .i64 pad] w fun e w' => e = .returned (.bool true) ∧ Below w.heap.size w w' := by
  obtain ⟨A, c, rfl⟩ := hr.form
  have HV := hid_ hv
  have HR := hid_ hr
  have HCp := hid_ hcp
  have HLow := hid_ hlow
  have HB0 := hid_ (below_alloc w (.cells #[.slice A N.length c] 24))
  have HBk := hid_ (Blk.new w 24 #[.slice A N.length c])
  clear hv hr hcp hlow
  go_enter Tryz.func4, Tryz.ntmps4
  go_upto_region 1 with fail
  generalize w.alloc (.cells #[.slice A N.length c] 24) = W0 at *
  have c0 : W0.cell? ⟨w.heap.size, 0, none⟩ = some (.slice A N.length c) := HBk.out.cell 0
  have HMd := hid_ (fun (W1 : World) (h1 : Below W0.heap.size W0 W1) (p : Nat) (hp : p ≤ 3) (x : Int) (hx : x = (p : Int)) => (show Calls Tryz.prog 11 #[.agg #[.slice A N.length c], .int .i64 x] W1 (fun e w' => e = .returned (.string (st (madeT p N))) ∧ Below W1.heap.size W1 w') from by
    rw [hx]
    exact made_c (w := W1) ((HR.out.below HB0.out).below h1) HCp.out (fun b off q n c h => Nat.lt_of_lt_of_le (HLow.out b off q n c h) (Nat.le_trans HB0.out.size h1.size)) p hp))
  have DK := hid_ (fun (W' : World) (h : Below W0.heap.size W0 W') => (below_cell h c0 : W'.cell? ⟨w.heap.size, 0, none⟩ = some (.slice A N.length c)))
  have EV := hid_ (fun (W' : World) (h : Below W0.heap.size W0 W') => (HV.out.below HB0.out).below h)
  have HPa := hid_ (fun (W1 : World) (h1 : Below W0.heap.size W0 W1) (p : Nat) (hp : p ≤ 3) => (show Calls Tryz.prog 10 #[.string (st (madeT p N))] W1 (fun e w' => ∃ v, ModK W1.heap.size w' v (madeM N) ∧ e = .returned (.tuple #[v, .int .i64 0, .int .i64 0]) ∧ Below W1.heap.size W1 w') from by
    have h := parse_cK (EV.out W1 h1) (st (madeT p N)) (by rw [st_size]; have := madeT_few p hp N; omega)
    rw [made_parse hp N] at h
    exact h))
  clear HR HCp HLow HV HBk
  generalize madeM N = m at *
  go_wp2_with fail
  refine (HMd.out _ (Below.refl _ _) 0 (by omega) _ rfl).mono ?_
  rintro e w2 ⟨rfl, hb2⟩
  have c2 := DK.out _ hb2
  have HB2 := hid_ hb2
  clear hb2 c0
  go_wp2_with fail
  refine (HPa.out _ HB2.out 0 (by omega)).mono ?_
  rintro e w3 ⟨va, hma, rfl, hb3⟩
  have hma := hma _ (Kp.refl _ _)
  have HMa := hid_ hma
  obtain ⟨Ai, ci, At, ct, Af, cf, An, cn, hva, _⟩ := hma.open2
  subst hva
  have HB3 := hid_ (HB2.out.trans (hb3.mono HB2.out.size))
  have HBa := hid_ (Blk.new w3 31 #[.string (st m.name), .slice Ai m.imports.length ci, .slice At m.types.length ct, .slice Af m.fns.length cf, .slice An m.nodes.length cn])
  have HA3 := hid_ (below_alloc w3 (.cells #[.string (st m.name), .slice Ai m.imports.length ci, .slice At m.types.length ct, .slice Af m.fns.length cf, .slice An m.nodes.length cn] 31))
  clear hma hb3 c2
  go_upto_region 2 with fail
  generalize w3.alloc (.cells #[.string (st m.name), .slice Ai m.imports.length ci, .slice At m.types.length ct, .slice Af m.fns.length cf, .slice An m.nodes.length cn] 31) = W4 at *
  have HB4 := hid_ (HB3.out.trans (HA3.out.mono HB3.out.size))
  have HMa4 := hid_ (HMa.out.below HA3.out)
  have c4 := DK.out _ HB4.out
  have hbr := bring_lt pad 3 (by decide)
  have HBr := hid_ (fun W => bring_v W pad 3 (by decide) (by decide))
  have x1 : (1 + ((bring pad 3 : Nat) : Int)) = ((1 + bring pad 3 : Nat) : Int) := by omega
  have HX1 := hid_ x1
  have hp3 : 1 + bring pad 3 ≤ 3 := by omega
  have w1 : IntKind.i64.wrap (1 + ((bring pad 3 : Nat) : Int)) = 1 + ((bring pad 3 : Nat) : Int) := IntWalk.i64_in _ (by omega)
  have RB := hid_ (show Below W4.heap.size W4 W4.drew from (Below.refl _ _).drew)
  clear x1
  go_cut [5, 7, 8, 9, 10] (fun s5 s7 s8 s9 s10 wx => ∃ vb, s5 = .pointer (some ⟨w3.heap.size, 0, none⟩) ∧ s7 = .int .i64 0 ∧ s8 = .pointer (some ⟨vb, 0, none⟩) ∧ s9 = .int .i64 0 ∧ s10 = .int .i64 0 ∧ ∃ Bi di Bt dt Bf df Bn dn, Blk wx vb 31 #[.string (st m.name), .slice Bi m.imports.length di, .slice Bt m.types.length dt, .slice Bf m.fns.length df, .slice Bn m.nodes.length dn] ∧ ModAt wx (.agg #[.string (st m.name), .slice Bi m.imports.length di, .slice Bt m.types.length dt, .slice Bf m.fns.length df, .slice Bn m.nodes.length dn]) m ∧ Below W4.heap.size W4 wx)
  case first =>
    have RA := hid_ (show Below W4.heap.size W4 (W4.alloc (.cells #[.string ⟨#[]⟩, .slice none 0 0, .slice none 0 0, .slice none 0 0, .slice none 0 0] 31)).drew from ((Below.refl _ _).alloc (Nat.le_refl _) _).drew)
    go_region_held3 (fun W' => W'.cell? ⟨w.heap.size, 0, none⟩ = some (.slice A N.length c))
      (first
        | (with_reducible exact DK.out _ (HB4.out.trans (RB.out.mono HB4.out.size)))
        | (with_reducible exact DK.out _ (HB4.out.trans (RA.out.mono HB4.out.size)))
        | (with_reducible exact DK.out _ (HB4.out.trans ((RB.out.alloc RB.out.size _).mono HB4.out.size)))
        | (with_reducible exact DK.out _ (HB4.out.trans (RB6.out.mono HB4.out.size)))
        | (with_reducible exact DK.out _ (HB4.out.trans ((RB6.out.alloc RB6.out.size _).mono HB4.out.size)))
        | (with_reducible exact DK.out _ (HB4.out.trans ((below5 RB6.out RB.out.size _ _ _ _ _).mono HB4.out.size)))
        | (with_reducible exact DK.out _ (HB4.out.trans ((below5 RB6.out (Nat.le_refl _) _ _ _ _ _).mono HB4.out.size))))
      (first
        | (go_at_call 13; ((with_reducible refine (HBr.out _).mono ?_); rintro e w5 ⟨rfl, rfl⟩))
        | (go_at_call 11; (first | (with_reducible refine (HMd.out _ (HB4.out.trans (RB.out.mono HB4.out.size)) _ hp3 _ HX1.out).mono ?_) | (with_reducible refine (HMd.out _ (HB4.out.trans (RA.out.mono HB4.out.size)) _ hp3 _ HX1.out).mono ?_)); rintro e w5 ⟨rfl, hb⟩; have HZ5 := hid_ hb; have RB := hid_ (show Below W4.heap.size W4 w5 from by first | exact RB.out.trans (hb.mono RB.out.size) | exact RA.out.trans (hb.mono RA.out.size)); clear hb)
        | (go_at_call 10; (first | (with_reducible refine (HPa.out _ (HB4.out.trans (RB.out.mono HB4.out.size)) _ hp3).mono ?_) | (with_reducible refine (HPa.out _ (HB4.out.trans ((RB.out.alloc RB.out.size _).mono HB4.out.size)) _ hp3).mono ?_)); rintro e w6 ⟨vb, hmb, rfl, hb⟩; have HMb := hid_ hmb; obtain ⟨Bi, di, Bt, dt, Bf, df, Bn, dn, hvb, _⟩ := (hmb _ (Kp.refl _ _)).open2; subst hvb; have HZ6 := hid_ hb; have RB6 := hid_ (show Below W4.heap.size W4 w6 from by first | exact RB.out.trans (hb.mono RB.out.size) | exact (RB.out.alloc RB.out.size _).trans (hb.mono (RB.out.alloc RB.out.size _).size)); clear hmb hb; first | (have HVB := hid_ (show Blk w6 w5.heap.size 31 zeroM from (Blk.new w5 31 zeroM).kp (Kp.of_below HZ6.out (fun _ => False)) id); obtain ⟨z0, z1, z2, z3, z4, y0, y1, y2, y3, y4⟩ := zer HVB.out) | (have HVC := hid_ (show Blk w6 W4.heap.size 31 zeroM from ((Blk.new W4 31 zeroM).drew.kp (Kp.of_below HZ5.out (fun _ => False)) id).kp (Kp.of_below HZ6.out (fun _ => False)) id); obtain ⟨z0, z1, z2, z3, z4, y0, y1, y2, y3, y4⟩ := zer HVC.out) | skip))
    all_goals first
      | (have HFin := hid_ (fin_b (W4 := W4) (c0 := .string (st m.name)) (c1 := .slice Bi m.imports.length di) (c2 := .slice Bt m.types.length dt) (c3 := .slice Bf m.fns.length df) (c4 := .slice Bn m.nodes.length dn) HVB.out rfl HMb.out (by simp) RB6.out RB.out.size rfl); go_wp2_with fail; go_meet; exact ⟨_, rfl, rfl, rfl, rfl, rfl, _, _, _, _, _, _, _, _, HFin.out.1, HFin.out.2.1, HFin.out.2.2⟩)
      | (have HFin := hid_ (fin_b (W4 := W4) (c0 := .string (st m.name)) (c1 := .slice Bi m.imports.length di) (c2 := .slice Bt m.types.length dt) (c3 := .slice Bf m.fns.length df) (c4 := .slice Bn m.nodes.length dn) HVC.out rfl HMb.out (by have := HZ5.out.size; simp at this; omega) RB6.out (Nat.le_refl _) rfl); go_wp2_with fail; go_meet; exact ⟨_, rfl, rfl, rfl, rfl, rfl, _, _, _, _, _, _, _, _, HFin.out.1, HFin.out.2.1, HFin.out.2.2⟩)
      | (have HFin := hid_ (And.intro (Blk.new w6 31 #[.string (st m.name), .slice Bi m.imports.length di, .slice Bt m.types.length dt, .slice Bf m.fns.length df, .slice Bn m.nodes.length dn]) (And.intro (HMb.out _ (Kp.of_below (below_alloc w6 (.cells #[.string (st m.name), .slice Bi m.imports.length di, .slice Bt m.types.length dt, .slice Bf m.fns.length df, .slice Bn m.nodes.length dn] 31)) _)) (RB6.out.trans ((below_alloc w6 (.cells #[.string (st m.name), .slice Bi m.imports.length di, .slice Bt m.types.length dt, .slice Bf m.fns.length df, .slice Bn m.nodes.length dn] 31)).mono RB6.out.size)))); go_wp2_with fail; go_meet; exact ⟨_, rfl, rfl, rfl, rfl, rfl, _, _, _, _, _, _, _, _, HFin.out.1, HFin.out.2.1, HFin.out.2.2⟩)
  case rest =>
    obtain ⟨vb, rfl, rfl, rfl, rfl, rfl, Bi, di, Bt, dt, Bf, df, Bn, dn, hbb, hmb, hbx⟩ := hcut
    have hba := HBa.out.kp (Kp.of_below hbx fun _ => False) id
    have a0 : wc.cell? ⟨w3.heap.size, 0, none⟩ = some (.string (st m.name)) := hba.cell 0
    have a1 : wc.cell? ⟨w3.heap.size, 1, none⟩ = some (.slice Ai m.imports.length ci) := hba.cell 1
    have a2 : wc.cell? ⟨w3.heap.size, 2, none⟩ = some (.slice At m.types.length ct) := hba.cell 2
    have a3 : wc.cell? ⟨w3.heap.size, 3, none⟩ = some (.slice Af m.fns.length cf) := hba.cell 3
    have a4 : wc.cell? ⟨w3.heap.size, 4, none⟩ = some (.slice An m.nodes.length cn) := hba.cell 4
    have m0 : wc.cell? ⟨vb, 0, none⟩ = some (.string (st m.name)) := hbb.cell 0
    have m1 : wc.cell? ⟨vb, 1, none⟩ = some (.slice Bi m.imports.length di) := hbb.cell 1
    have m2 : wc.cell? ⟨vb, 2, none⟩ = some (.slice Bt m.types.length dt) := hbb.cell 2
    have m3 : wc.cell? ⟨vb, 3, none⟩ = some (.slice Bf m.fns.length df) := hbb.cell 3
    have m4 : wc.cell? ⟨vb, 4, none⟩ = some (.slice Bn m.nodes.length dn) := hbb.cell 4
    have HSame := hid_ (same_c (HMa4.out.below hbx) hmb)
    have HBx := hid_ (HB4.out.trans (hbx.mono HB4.out.size))
    clear hba hbb hmb hbx c4 w1 HBr HX1 hbr hp3 RB
    go_wp2_with fail
    refine HSame.out.mono ?_
    rintro e w8 ⟨he, hb8⟩
    have he : e = .returned (.bool true) := he.trans (by simp)
    subst he
    have HB8 := hid_ (HBx.out.trans (hb8.mono HBx.out.size))
    clear hb8 a0 a1 a2 a3 a4 m0 m1 m2 m3 m4
    go_wp2_with fail
    refine (works_c (EV.out _ HB8.out)).mono ?_
    rintro e w9 ⟨rfl, hb9⟩
    have HB9 := hid_ (HB0.out.trans ((HB8.out.trans (hb9.mono HB8.out.size)).mono HB0.out.size))
    clear hb9
    go_wp2_with fail
    go_ret
    exact ⟨rfl, HB9.out⟩
end
end Go.Proofs.YtmgjmagniefhoaaGreatDoor
