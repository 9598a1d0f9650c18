/- What stands in these texts of the proof: Hc Hd Hr. Conditions: those that each theorem names. -/
import Derived.Test.YtmgjmagniefhoaaGreatDoorAc01
import Derived.Deep.DeepCutAuto
import Derived.Test.YtmgjmagniefhoaaGreatDoorAb06
/- The document's Copy. Conditions: those that each theorem names. -/
namespace Go.Proofs.YtmgjmagniefhoaaGreatDoor
open Go.RowKit Go.Maps
section
variable {w w' : World}
/-- What is appended, wherever it lies. -/
theorem RowZ.src {v : Value} {n : Nat} {xs : List Value} (h : RowZ w v n xs) : ∃ A c, v = .slice A n c ∧ (A = none → n = 0 ∧ c = 0) ∧ ∀ ad, A = some ad → ∀ j u, xs[j]? = some u → w.cell? (ad.add j) = some u := h.weak
theorem RowZ0.srcs {A : Option Addr} {n c : Nat} {xs : List Value} (h : RowZ0 w (.slice A n c) n xs) : (A = none → n = 0 ∧ c = 0) ∧ ∀ W', Below w.heap.size w W' → ∀ ad, A = some ad → ∀ j u, xs[j]? = some u → W'.cell? (ad.add j) = some u := by
  refine ⟨?_, fun W' hb => ?_⟩
  · obtain ⟨A', c', e, h0, _⟩ := h
    injection e with e1 _ e2
    subst e1 e2
    exact h0
  · obtain ⟨A', c', e, _, h1⟩ := h.below hb
    injection e with e1 _ e2
    subst e1 e2
    exact h1
/-- A function's box, its two rows set anew. -/
theorem fin_f {w0 W : World} {B base fb n k : Nat} {v p c0 c1 c2 c3 c4 : Value} {xs ys : List Value} (hb : Blk W fb 54 #[c0, c1, c2, c3, c4]) (hv : W.ownsRow base 67 2 v n xs) (hp : W.ownsRow base 67 2 p k ys) (hB : Below B w0 W) (hfb : B ≤ fb) {WF : World} (hF : WF = (W.setCell ⟨fb, 1, none⟩ v).setCell ⟨fb, 2, none⟩ p) :
    Blk WF fb 54 #[c0, v, p, c3, c4] ∧ WF.ownsRow base 67 2 v n xs ∧ WF.ownsRow base 67 2 p k ys ∧ Below B w0 WF := by
  subst hF
  have hk : Kp (fun q => q = fb) W ((W.setCell ⟨fb, 1, none⟩ v).setCell ⟨fb, 2, none⟩ p) := ((Kp.refl (fun q => q = fb) W).setCell (p := ⟨fb, 1, none⟩) (.inl rfl) v).setCell (p := ⟨fb, 2, none⟩) (.inl rfl) p
  have key : ∀ {n : Nat} {v : Value} {xs : List Value}, W.ownsRow base 67 2 v n xs → ∀ q, v.ownBlock = some q → ¬ q = fb := fun h q hq e => by
    subst e
    exact own_blk_ne h hb (by decide) hq
  exact ⟨(hb.set_ 1 v).set_ 2 p, own_kp hv hk (key hv), own_kp hp hk (key hp), (hB.setCell (p := ⟨fb, 1, none⟩) hfb v).setCell (p := ⟨fb, 2, none⟩) hfb p⟩
theorem CpS.init (w : World) (cs0 : Array Value) (nm : Value) : CpS w (((w.alloc (.cells cs0 31)).alloc (.cells zeroM 31)).alloc (.cells #[nm, .slice none 0 0, .slice none 0 0, .slice none 0 0, .slice none 0 0] 31)) w.heap.size (w.heap.size + 1) (w.heap.size + 1 + 1) cs0 nm (.slice none 0 0) (.slice none 0 0) (.slice none 0 0) (.slice none 0 0) [] [] [] [] := by
  have h1 := (Blk.new (w.alloc (.cells cs0 31)) 31 zeroM).alloc (.cells #[nm, .slice none 0 0, .slice none 0 0, .slice none 0 0, .slice none 0 0] 31)
  have h2 := Blk.new ((w.alloc (.cells cs0 31)).alloc (.cells zeroM 31)) 31 #[nm, .slice none 0 0, .slice none 0 0, .slice none 0 0, .slice none 0 0]
  simp only [alloc_sz] at h1 h2
  exact ⟨((below_alloc w _).alloc (by simp) _).alloc (by simp; omega) _, ((Blk.new w _ _).alloc _).alloc _, h1, h2, by omega, by omega, by omega, World.ownsRow_nil _ _ _ _, World.ownsRow_nil _ _ _ _, World.ownsRow_nil _ _ _ _, World.ownsRow_nil _ _ _ _, (fun x hx => by cases hx), fun x hx => by cases hx⟩
/-- The copy is done: it is put into the result's box. -/
theorem CpS.done {w0 W : World} {b0 b1 b2 : Nat} {cs0 : Array Value} {nm iv tv fv nv : Value} {m : Tr.Md} {fx : List Fx} {nx : List Nx} (h : CpS w0 W b0 b1 b2 cs0 nm iv tv fv nv m.imports m.types fx nx) (hz : MdZ m) (hf : fx.map (·.1) = m.fns) (hn : nx.map (·.1) = m.nodes) (hb : w0.heap.size ≤ b1) {WF : World}
    (hF : WF = ((((W.setCell ⟨b1, 0, none⟩ nm).setCell ⟨b1, 1, none⟩ iv).setCell ⟨b1, 2, none⟩ tv).setCell ⟨b1, 3, none⟩ fv).setCell ⟨b1, 4, none⟩ nv) : Blk WF b1 31 #[nm, iv, tv, fv, nv] ∧ Hi w0.heap.size WF iv tv fv nv m fx nx ∧ Below w0.heap.size w0 WF := by
  subst hF
  have hk : Kp (fun q => q = b1) W (((((W.setCell ⟨b1, 0, none⟩ nm).setCell ⟨b1, 1, none⟩ iv).setCell ⟨b1, 2, none⟩ tv).setCell ⟨b1, 3, none⟩ fv).setCell ⟨b1, 4, none⟩ nv) := (((((Kp.refl (fun q => q = b1) W).setCell (p := ⟨b1, 0, none⟩) (.inl rfl) nm).setCell (p := ⟨b1, 1, none⟩) (.inl rfl) iv).setCell (p := ⟨b1, 2, none⟩) (.inl rfl) tv).setCell (p := ⟨b1, 3, none⟩) (.inl rfl) fv).setCell (p := ⟨b1, 4, none⟩) (.inl rfl) nv
  have key : ∀ {e : TypeId} {sz n : Nat} {v : Value} {xs : List Value}, W.ownsRow w0.heap.size e sz v n xs → e ≠ 31 → (((((W.setCell ⟨b1, 0, none⟩ nm).setCell ⟨b1, 1, none⟩ iv).setCell ⟨b1, 2, none⟩ tv).setCell ⟨b1, 3, none⟩ fv).setCell ⟨b1, 4, none⟩ nv).ownsRow w0.heap.size e sz v n xs := fun hr he => own_kp hr hk fun q hq e => by
    have e : q = b1 := e
    subst e
    exact own_blk_ne hr h.a1 he hq
  have hfl : fx.length = m.fns.length := by rw [← hf, List.length_map]
  have hnl : nx.length = m.nodes.length := by rw [← hn, List.length_map]
  refine ⟨((((h.a1.set_ 0 nm).set_ 1 iv).set_ 2 tv).set_ 3 fv).set_ 4 nv, ⟨hz, hf, hn, key h.i (by decide), key h.t (by decide), by rw [← hfl]; exact key h.f (by decide), by rw [← hnl]; exact key h.n (by decide), fun x hx => ⟨key (h.fo x hx).1 (by decide), key (h.fo x hx).2 (by decide)⟩, fun x hx => ⟨key (h.no x hx).1 (by decide), key (h.no x hx).2 (by decide)⟩⟩, ?_⟩
  exact ((((h.bel.setCell (p := ⟨b1, 0, none⟩) hb nm).setCell (p := ⟨b1, 1, none⟩) hb iv).setCell (p := ⟨b1, 2, none⟩) hb tv).setCell (p := ⟨b1, 3, none⟩) hb fv).setCell (p := ⟨b1, 4, none⟩) hb nv
set_option maxHeartbeats 8000000 in
set_option maxRecDepth 100000 in
theorem rcopy_c {iv tv fv nv : Value} {m : Tr.Md} {fx : List Fx} {nx : List Nx} (h : MZ0 w iv tv fv nv m fx nx) :
    Calls Tryz.prog 16 #[.agg #[.string (st m.name), iv, tv, fv, nv]] w fun e w' => ∃ iv' tv' fv' nv' fx' nx', e = .returned (.agg #[.string (st m.name), iv', tv', fv', nv']) ∧ Hi w.heap.size w' iv' tv' fv' nv' m fx' nx' ∧ Below w.heap.size w w' := by
  obtain ⟨iD, hiD, hzD, hsD, hbD⟩ := info_parts Tryz.infoD
  obtain ⟨iF, hiF, hzF, hsF, hbF⟩ := info_parts Tryz.infoF
  obtain ⟨iN, hiN, hzN, hsN, hbN⟩ := info_parts Tryz.infoN
  obtain ⟨iV, hiV, hzV, hsV, hbV⟩ := info_parts Tryz.infoV
  obtain ⟨At, ct, rfl, ht0, ht1⟩ := h.t.src
  obtain ⟨Af, cf, rfl⟩ := h.f.1.form
  obtain ⟨An, cn, rfl⟩ := h.n.1.form
  have HM := hid_ h
  have HS := hid_ (CpS.init w #[.string (st m.name), iv, .slice At m.types.length ct, .slice Af m.fns.length cf, .slice An m.nodes.length cn] (.string (st m.name)))
  unfold zeroM at HS
  clear h ht1
  have HT0 := hid_ ht0
  clear ht0
  go_enter Tryz.func16, Tryz.ntmps16
  go_upto_region 2 with fail
  generalize ((w.alloc (.cells #[.string (st m.name), iv, .slice At m.types.length ct, .slice Af m.fns.length cf, .slice An m.nodes.length cn] 31)).alloc (.cells #[.string ⟨#[]⟩, .slice none 0 0, .slice none 0 0, .slice none 0 0, .slice none 0 0] 31)).alloc (.cells #[.string (st m.name), .slice none 0 0, .slice none 0 0, .slice none 0 0, .slice none 0 0] 31) = W3 at *
  have c1 : W3.cell? ⟨w.heap.size, 1, none⟩ = some iv := HS.out.a0.cell 1
  go_wp2_with fail
  refine (copyTexts_c (HM.out.i.below HS.out.bel).weak (strs_len _) (strs_one _) (by have := HM.out.sz.im; omega)).mono ?_
  rintro e w4 ⟨v1, rfl, hown, hb4⟩
  obtain ⟨A1, e1, rfl⟩ := own_form hown
  have HS4 := hid_ (HS.out.below hb4)
  have HO4 := hid_ (ownsRow_base hown HS.out.bel.size)
  clear hown hb4 c1
  have d1 : w4.cell? ⟨w.heap.size + 1 + 1, 1, none⟩ = some (.slice none 0 0) := HS4.out.a2.cell 1
  have g1 := HS4.out.a2.frozen 1
  go_upto_region 3 with fail
  have HS5 := hid_ (HS4.out.setI HO4.out)
  clear d1 g1
  generalize w4.setCell ⟨w.heap.size + 1 + 1, 1, none⟩ (.slice A1 m.imports.length e1) = W5 at *
  have c2 : W5.cell? ⟨w.heap.size, 2, none⟩ = some (.slice At m.types.length ct) := HS5.out.a0.cell 2
  have d2 : W5.cell? ⟨w.heap.size + 1 + 1, 2, none⟩ = some (.slice none 0 0) := HS5.out.a2.cell 2
  have g2 : ∀ (w6 : World), W5.grownBy w6 none → w6.cell? ⟨w.heap.size + 1 + 1, 2, none⟩ = some (.slice none 0 0) ∧ w6.frozen? ⟨w.heap.size + 1 + 1, 2, none⟩ = false ∧ Below W5.heap.size W5 w6 := fun _ hg => by
    have hb := (Below.refl W5.heap.size W5).grown hg (Nat.le_refl _) (fun k hk => by cases hk)
    have h2 := HS5.out.a2.kp (Kp.of_below hb fun _ => False) id
    exact ⟨h2.cell 2, h2.frozen 2, hb⟩
  have G2 := hid_ g2
  clear g2
  have HX := hid_ ((HM.out.t.below HS5.out.bel).src)
  have HX2 := hid_ (show ∀ ad, At = some ad → ∀ j u, (flatV m.types)[j]? = some u → W5.cell? (ad.add j) = some u by
    obtain ⟨A', c', e, _, hx⟩ := HX.out
    injection e with e _ _
    subst e
    exact hx)
  have hz2 := HM.out.sz.ty
  go_wp2_with (first | (at_builtin; go_loud (refine wpList_append_any rfl (.tmp 18) (.tmp 20) 27 rfl w.heap.size 59 iD _ 2 24 Tryz.underlying27 hiD hzD hsD hbD rfl (by omega) (.slice none 0 0) 0 [] rfl (World.ownsRow_nil _ _ _ _) At m.types.length ct (flatV m.types) rfl (flatV_len _) HT0.out HX2.out (flatV_one _) (by unfold maxLen; omega) (by omega) HS5.out.bel.size ?_); intro A2 e2 w6 hown hgrow hat; simp only [Nat.zero_add, List.nil_append] at hown; obtain ⟨g6, f6, hb6⟩ := G2.out _ hgrow; have HO6 := hid_ hown; have HB6 := hid_ hb6; clear hown hgrow hat hb6))
  have HS7 := hid_ ((HS5.out.below HB6.out).setT HO6.out)
  clear g6 f6 c2 d2 G2
  generalize w6.setCell ⟨w.heap.size + 1 + 1, 2, none⟩ (.slice A2 m.types.length e2) = W7 at *
  clear HX HX2 HT0 hz2 HB6 HO6 HO4 HS4 HS5 HS
  have hfe : fx.length = m.fns.length := by rw [← HM.out.fe, List.length_map]
  have hne : nx.length = m.nodes.length := by rw [← HM.out.ne, List.length_map]
  have hfl := HM.out.sz.fn
  have hnl := HM.out.sz.nd
  obtain ⟨b1, hb1⟩ : ∃ b1, b1 = w.heap.size + 1 := ⟨_, rfl⟩
  obtain ⟨b2, hb2⟩ : ∃ b2, b2 = w.heap.size + 1 + 1 := ⟨_, rfl⟩
  rw [← hb2] at HS7 ⊢
  rw [← hb1] at HS7 ⊢
  have Hb1 := hid_ hb1
  clear hb1 hb2
  go_loopg [4, 5, 6, 7] (m.fns.length + 1) (fun g v4 _ _ _ wr => ∃ (i : Nat) (Bf : Option Addr) (df : Nat) (fx' : List Fx), v4 = .int .i64 i ∧ i ≤ m.fns.length ∧ fx'.map (·.1) = m.fns.take i ∧ CpS w wr w.heap.size b1 b2 #[.string (st m.name), iv, .slice At m.types.length ct, .slice Af m.fns.length cf, .slice An m.nodes.length cn] (.string (st m.name)) (.slice A1 m.imports.length e1) (.slice A2 m.types.length e2) (.slice Bf i df) (.slice none 0 0) m.imports m.types fx' [] ∧ m.fns.length - i + 1 ≤ g)
  case atStart => exact ⟨0, none, 0, [], rfl, by omega, rfl, HS7.out, by omega⟩
  case round =>
    clear HS7
    obtain ⟨i, Bf, df, fx', rfl, hi, hfx, hs, hg⟩ := hrel
    have HS1 := hid_ hs
    have HFx := hid_ hfx
    clear hs hfx
    have c3 : wr.cell? ⟨w.heap.size, 3, none⟩ = some (.slice Af m.fns.length cf) := HS1.out.a0.cell 3
    by_cases hlt : i < m.fns.length
    · have b0 : (0 : Int) ≤ (i : Int) := by omega
      have b1' : (i : Int) < (m.fns.length : Int) := by omega
      obtain ⟨b, off, c, hAf, hcf⟩ := HM.out.f.1.get (by omega)
      injection hAf with hAf _ hcc
      subst hcc
      have hix : i < fx.length := by omega
      obtain ⟨_, hxe⟩ := map_at HM.out.fe i hlt
      have hfo := HM.out.fo _ (List.getElem_mem hix)
      have hfb := HM.out.sz.fb _ (List.getElem_mem hlt)
      have hfa := fun j hj => flatF_at fx i hix j hj
      have htk := (List.take_succ_eq_append_getElem hlt).symm
      rw [hxe] at hfb htk
      generalize fx[i] = x at *
      obtain ⟨fd, vv, pv⟩ := x
      have hv1 : RowZ0 w vv fd.vars.length (flatV fd.vars) := hfo.1
      have hp1 : RowZ0 w pv fd.params.length (flatV fd.params) := hfo.2
      have hfb1 : fd.vars.length * 24 ≤ 140737488351232 := hfb.1
      have hfb2 : fd.params.length * 24 ≤ 140737488351232 := hfb.2
      obtain ⟨Av, cv, rfl⟩ := hv1.form
      obtain ⟨Ap, cp, rfl⟩ := hp1.form
      obtain ⟨hv0, hvs⟩ := hv1.srcs
      obtain ⟨hp0, hps⟩ := hp1.srcs
      have HV0 := hid_ hv0
      have HVs := hid_ hvs
      have HP0 := hid_ hp0
      have HPs := hid_ hps
      have HTk := hid_ htk
      have t0 : wr.cell? ⟨b, off + i * 5, none⟩ = some (.string (st fd.name)) := below_cell HS1.out.bel (hcf (i * 5) _ (hfa 0 (by omega)))
      have t1 : wr.cell? ⟨b, off + i * 5 + 1, none⟩ = some (.slice Av fd.vars.length cv) := by rw [Nat.add_assoc]; exact below_cell HS1.out.bel (hcf (i * 5 + 1) _ (hfa 1 (by omega)))
      have t2 : wr.cell? ⟨b, off + i * 5 + 2, none⟩ = some (.slice Ap fd.params.length cp) := by rw [Nat.add_assoc]; exact below_cell HS1.out.bel (hcf (i * 5 + 2) _ (hfa 2 (by omega)))
      have t3 : wr.cell? ⟨b, off + i * 5 + 3, none⟩ = some (.int .i64 fd.ret) := by rw [Nat.add_assoc]; exact below_cell HS1.out.bel (hcf (i * 5 + 3) _ (hfa 3 (by omega)))
      have t4 : wr.cell? ⟨b, off + i * 5 + 4, none⟩ = some (.int .i64 fd.body) := by rw [Nat.add_assoc]; exact below_cell HS1.out.bel (hcf (i * 5 + 4) _ (hfa 4 (by omega)))
      rw [hAf] at c3
      clear hAf hcf hfa hfo hfb hv1 hp1 hv0 hvs hp0 hps htk hxe
      go_upto_region 9 with fail
      have HFb := hid_ (Blk.new wr 54 #[.string (st fd.name), .slice Av fd.vars.length cv, .slice Ap fd.params.length cp, .int .i64 fd.ret, .int .i64 fd.body])
      have HBw := hid_ (below_alloc wr (.cells #[.string (st fd.name), .slice Av fd.vars.length cv, .slice Ap fd.params.length cp, .int .i64 fd.ret, .int .i64 fd.body] 54))
      generalize wr.alloc (.cells #[.string (st fd.name), .slice Av fd.vars.length cv, .slice Ap fd.params.length cp, .int .i64 fd.ret, .int .i64 fd.body] 54) = W4 at *
      obtain ⟨fb, hfb⟩ : ∃ fb, fb = wr.heap.size := ⟨_, rfl⟩
      rw [← hfb] at HFb ⊢
      have Hfb := hid_ hfb
      clear hfb t0 t1 t2 t3 t4 c3
      have HB4 := hid_ (HS1.out.bel.trans (HBw.out.mono HS1.out.bel.size))
      have HFB := hid_ (fun (W' : World) (hb : Below W4.heap.size W4 W') => (show W'.cell? ⟨fb, 1, none⟩ = some (.slice Av fd.vars.length cv) ∧ W'.cell? ⟨fb, 2, none⟩ = some (.slice Ap fd.params.length cp) ∧ W'.frozen? ⟨fb, 1, none⟩ = false ∧ W'.frozen? ⟨fb, 2, none⟩ = false from by
        have h := HFb.out.kp (Kp.of_below hb fun _ => False) id
        exact ⟨h.cell 1, h.cell 2, h.frozen 1, h.frozen 2⟩))
      have RB := hid_ (show Below W4.heap.size W4 W4.drew from (Below.refl _ _).drew)
      obtain ⟨p1, p2, q1, q2⟩ := HFB.out _ RB.out
      go_cut [] (fun wx => ∃ (B1 B2 : Option Addr) (d1 d2 : Nat), Blk wx fb 54 #[.string (st fd.name), .slice B1 fd.vars.length d1, .slice B2 fd.params.length d2, .int .i64 fd.ret, .int .i64 fd.body] ∧ wx.ownsRow wr.heap.size 67 2 (.slice B1 fd.vars.length d1) fd.vars.length (flatV fd.vars) ∧ wx.ownsRow wr.heap.size 67 2 (.slice B2 fd.params.length d2) fd.params.length (flatV fd.params) ∧ Below wr.heap.size wr wx)
      case first =>
        go_region_law (first
          | (refine step_append_any (by rfl) (.tmp 35) (.tmp 37) 52 (by rfl) wr.heap.size 67 iV _ 2 24 Tryz.underlying52 hiV hzV hsV hbV rfl (by omega) (.slice none 0 0) 0 [] (by rfl) (World.ownsRow_nil _ _ _ _) Av fd.vars.length cv (flatV fd.vars) (by rfl) (flatV_len _) HV0.out (HVs.out _ (HB4.out.trans (RB.out.mono HB4.out.size))) (flatV_one _) (by unfold maxLen; omega) (by omega) (Nat.le_trans HBw.out.size RB.out.size) ?_; intro Z1 y1 w1 hown hgrow hat; simp only [Nat.zero_add, List.nil_append] at hown; have hb := (Below.refl _ _).grown hgrow (Nat.le_refl _) (fun k hk => by cases hk); have RB := hid_ (RB.out.trans (hb.mono RB.out.size)); (first | (have HOP := hid_ (own_kp HOP.out (Kp.of_below hb fun _ => False) (fun _ _ e => e))) | skip); have HOV := hid_ hown; obtain ⟨p1, p2, q1, q2⟩ := HFB.out _ RB.out; clear hown hgrow hat hb)
          | (refine step_append_any (by rfl) (.tmp 39) (.tmp 41) 52 (by rfl) wr.heap.size 67 iV _ 2 24 Tryz.underlying52 hiV hzV hsV hbV rfl (by omega) (.slice none 0 0) 0 [] (by rfl) (World.ownsRow_nil _ _ _ _) Ap fd.params.length cp (flatV fd.params) (by rfl) (flatV_len _) HP0.out (HPs.out _ (HB4.out.trans (RB.out.mono HB4.out.size))) (flatV_one _) (by unfold maxLen; omega) (by omega) (Nat.le_trans HBw.out.size RB.out.size) ?_; intro Z2 y2 w2 hown hgrow hat; simp only [Nat.zero_add, List.nil_append] at hown; have hb := (Below.refl _ _).grown hgrow (Nat.le_refl _) (fun k hk => by cases hk); have RB := hid_ (RB.out.trans (hb.mono RB.out.size)); (first | (have HOV := hid_ (own_kp HOV.out (Kp.of_below hb fun _ => False) (fun _ _ e => e))) | skip); have HOP := hid_ hown; obtain ⟨p1, p2, q1, q2⟩ := HFB.out _ RB.out; clear hown hgrow hat hb)
          | fail)
        all_goals
          have HFin := hid_ (fin_f (HFb.out.kp (Kp.of_below RB.out fun _ => False) id) (own_kp HOV.out (Kp.of_below (Below.refl _ _) fun _ => False) (fun _ _ e => e)) HOP.out (HBw.out.trans (RB.out.mono HBw.out.size)) (Nat.le_of_eq Hfb.out.symm) rfl)
          go_wp2_with fail
          go_meet
          exact ⟨_, _, _, _, by simpa using HFin.out.1, by simpa using HFin.out.2.1, by simpa using HFin.out.2.2.1, by simpa using HFin.out.2.2.2⟩
      case rest =>
        obtain ⟨B1, B2, d1, d2, hbf, hov, hop, hbw⟩ := hcut
        have HSc := hid_ (HS1.out.below hbw)
        have hlen : fx'.length = i := by
          have := congrArg List.length HFx.out
          rw [List.length_map, List.length_take] at this
          omega
        have r0 : wc.cell? ⟨fb, 0, none⟩ = some (.string (st fd.name)) := hbf.cell 0
        have r1 : wc.cell? ⟨fb, 1, none⟩ = some (.slice B1 fd.vars.length d1) := hbf.cell 1
        have r2 : wc.cell? ⟨fb, 2, none⟩ = some (.slice B2 fd.params.length d2) := hbf.cell 2
        have r3 : wc.cell? ⟨fb, 3, none⟩ = some (.int .i64 fd.ret) := hbf.cell 3
        have r4 : wc.cell? ⟨fb, 4, none⟩ = some (.int .i64 fd.body) := hbf.cell 4
        have s3 : wc.cell? ⟨b2, 3, none⟩ = some (.slice Bf i df) := HSc.out.a2.cell 3
        have HBc := hid_ (below_alloc wc (.cells #[.string (st fd.name), .slice B1 fd.vars.length d1, .slice B2 fd.params.length d2, .int .i64 fd.ret, .int .i64 fd.body] 54))
        have HSd := hid_ (HSc.out.below HBc.out)
        have HOf := hid_ (show (wc.alloc (.cells #[.string (st fd.name), .slice B1 fd.vars.length d1, .slice B2 fd.params.length d2, .int .i64 fd.ret, .int .i64 fd.body] 54)).ownsRow w.heap.size 54 5 (.slice Bf i df) i (flatF fx') by
          have := HSd.out.f
          rw [hlen] at this
          exact this)
        have G3 := hid_ (fun (w6 : World) (hg : (wc.alloc (.cells #[.string (st fd.name), .slice B1 fd.vars.length d1, .slice B2 fd.params.length d2, .int .i64 fd.ret, .int .i64 fd.body] 54)).grownBy w6 (Value.slice Bf i df).ownBlock) => (show w6.cell? ⟨b2, 3, none⟩ = some (.slice Bf i df) ∧ w6.frozen? ⟨b2, 3, none⟩ = false from by
          have h := HSd.out.a2.kp ((Kp.of_below (Below.refl _ _) (fun q => (Value.slice Bf i df).ownBlock = some q)).grown hg (fun q hq => .inl hq)) (own_blk_ne HSd.out.f HSd.out.a2 (by decide))
          exact ⟨h.cell 3, h.frozen 3⟩))
        have HBw2 := hid_ hbw
        have HOv := hid_ hov
        have HOp := hid_ hop
        have HLen := hid_ hlen
        clear hbf hov hop hbw hlen p1 p2 q1 q2
        go_wp2_with (first | (at_builtin; go_loud (refine wpList_append_any rfl (.tmp 46) (.tmp 48) 28 rfl w.heap.size 54 iF _ 5 80 Tryz.underlying28 hiF hzF hsF hbF rfl (by omega) (.slice Bf i df) i _ rfl HOf.out (some ⟨wc.heap.size, 0, none⟩) 1 1 (cellF (fd, .slice B1 fd.vars.length d1, .slice B2 fd.params.length d2)) rfl rfl (fun h => by cases h) (by intro ad had j u hu; injection had with had; subst had; exact World.news_of_block (heap_alloc_new _ _) j u hu) (by simp [cellF, Value.oneCell']) (by unfold maxLen; omega) (by omega) (Nat.le_trans HSc.out.bel.size (below_alloc _ _).size) ?_); intro A7 c7 w7 hown hgrow hat; obtain ⟨s7, f7⟩ := G3.out _ hgrow; have HGr := hid_ hgrow; have HOw := hid_ hown; clear hown hgrow hat))
        have HSe := hid_ (HS1.out.pushF HBw2.out (x := (fd, .slice B1 fd.vars.length d1, .slice B2 fd.params.length d2)) HOv.out HOp.out HBc.out HGr.out (by rw [HLen.out]; exact HOw.out))
        clear s7 f7
        go_roundg (gk - 1)
        case rel => exact ⟨i + 1, _, _, _, by go_num, by omega, by rw [List.map_append, HFx.out]; exact HTk.out, HSe.out, by omega⟩
        case measure => omega
    · obtain rfl : i = m.fns.length := by omega
      have HFx := hid_ (show fx'.map (·.1) = m.fns by rw [HFx.out, List.take_length])
      clear hi hg hlt
      go_wp2_with fail
      clear c3
      obtain ⟨wo, rfl⟩ : ∃ wo : World, wo = wr := ⟨_, rfl⟩
      go_loopg [8, 9] (m.nodes.length + 1) (fun g v8 _ wr => ∃ (i : Nat) (Bn : Option Addr) (dn : Nat) (nx' : List Nx), v8 = .int .i64 i ∧ i ≤ m.nodes.length ∧ nx'.map (·.1) = m.nodes.take i ∧ CpS w wr w.heap.size b1 b2 #[.string (st m.name), iv, .slice At m.types.length ct, .slice Af m.fns.length cf, .slice An m.nodes.length cn] (.string (st m.name)) (.slice A1 m.imports.length e1) (.slice A2 m.types.length e2) (.slice Bf m.fns.length df) (.slice Bn i dn) m.imports m.types fx' nx' ∧ m.nodes.length - i + 1 ≤ g)
      case atStart => exact ⟨0, none, 0, [], rfl, by omega, rfl, HS1.out, by omega⟩
      case round =>
        clear HS1
        obtain ⟨i, Bn, dn, nx', rfl, hi, hnx, hs, hg⟩ := hrel
        have HS1 := hid_ hs
        have HNx := hid_ hnx
        clear hs hnx
        have c4 : wr.cell? ⟨w.heap.size, 4, none⟩ = some (.slice An m.nodes.length cn) := HS1.out.a0.cell 4
        by_cases hlt : i < m.nodes.length
        · have b0 : (0 : Int) ≤ (i : Int) := by omega
          have b1' : (i : Int) < (m.nodes.length : Int) := by omega
          obtain ⟨b, off, c, hAn, hcf⟩ := HM.out.n.1.get (by omega)
          injection hAn with hAn _ hcc
          subst hcc
          have hix : i < nx.length := by omega
          obtain ⟨_, hxe⟩ := map_at HM.out.ne i hlt
          have hno := HM.out.no _ (List.getElem_mem hix)
          have hnb := HM.out.sz.nb _ (List.getElem_mem hlt)
          have hfa := fun j hj => flatN_getA nx i hix j hj
          have htk := (List.take_succ_eq_append_getElem hlt).symm
          rw [hxe] at hnb htk
          generalize nx[i] = x at *
          obtain ⟨nd, kv, lv⟩ := x
          have hk1 : RowZ0 w kv nd.keys.length (strs nd.keys) := hno.1
          have hl1 : RowZ0 w lv nd.l.length (ints nd.l) := hno.2
          have hnb1 : nd.keys.length * 16 ≤ 140737488351232 := hnb.1
          have hnb2 : nd.l.length * 8 ≤ 140737488351232 := hnb.2
          obtain ⟨Ak, ck, rfl⟩ := hk1.form
          obtain ⟨Al, cl, rfl⟩ := hl1.form
          have HK := hid_ hk1
          have HL := hid_ hl1
          have HTk := hid_ htk
          have t0 : wr.cell? ⟨b, off + i * 6, none⟩ = some (.int .i64 nd.kind) := below_cell HS1.out.bel (hcf (i * 6) _ (hfa 0 (by omega)))
          have t1 : wr.cell? ⟨b, off + i * 6 + 1, none⟩ = some (.int .i64 nd.num) := by rw [Nat.add_assoc]; exact below_cell HS1.out.bel (hcf (i * 6 + 1) _ (hfa 1 (by omega)))
          have t2 : wr.cell? ⟨b, off + i * 6 + 2, none⟩ = some (.string (st nd.mod)) := by rw [Nat.add_assoc]; exact below_cell HS1.out.bel (hcf (i * 6 + 2) _ (hfa 2 (by omega)))
          have t3 : wr.cell? ⟨b, off + i * 6 + 3, none⟩ = some (.string (st nd.name)) := by rw [Nat.add_assoc]; exact below_cell HS1.out.bel (hcf (i * 6 + 3) _ (hfa 3 (by omega)))
          have t4 : wr.cell? ⟨b, off + i * 6 + 4, none⟩ = some (.slice Ak nd.keys.length ck) := by rw [Nat.add_assoc]; exact below_cell HS1.out.bel (hcf (i * 6 + 4) _ (hfa 4 (by omega)))
          have t5 : wr.cell? ⟨b, off + i * 6 + 5, none⟩ = some (.slice Al nd.l.length cl) := by rw [Nat.add_assoc]; exact below_cell HS1.out.bel (hcf (i * 6 + 5) _ (hfa 5 (by omega)))
          rw [hAn] at c4
          clear hAn hcf hfa hno hnb hk1 hl1 htk hxe
          go_upto_region 15 with fail
          have HNb := hid_ (Blk.new wr 57 #[.int .i64 nd.kind, .int .i64 nd.num, .string (st nd.mod), .string (st nd.name), .slice Ak nd.keys.length ck, .slice Al nd.l.length cl])
          have HBw := hid_ (below_alloc wr (.cells #[.int .i64 nd.kind, .int .i64 nd.num, .string (st nd.mod), .string (st nd.name), .slice Ak nd.keys.length ck, .slice Al nd.l.length cl] 57))
          generalize wr.alloc (.cells #[.int .i64 nd.kind, .int .i64 nd.num, .string (st nd.mod), .string (st nd.name), .slice Ak nd.keys.length ck, .slice Al nd.l.length cl] 57) = W4 at *
          obtain ⟨nb, hnb⟩ : ∃ nb, nb = wr.heap.size := ⟨_, rfl⟩
          rw [← hnb] at HNb ⊢
          have Hnb := hid_ hnb
          clear hnb t0 t1 t2 t3 t4 t5 c4
          have HB4 := hid_ (HS1.out.bel.trans (HBw.out.mono HS1.out.bel.size))
          have k4 : W4.cell? ⟨nb, 4, none⟩ = some (.slice Ak nd.keys.length ck) := HNb.out.cell 4
          go_wp2_with fail
          refine (copyTexts_c (HK.out.below HB4.out) (strs_len _) (strs_one _) (by omega)).mono ?_
          rintro e w5 ⟨v5, rfl, hown, hb5⟩
          obtain ⟨K1, k1, rfl⟩ := own_form hown
          have HNb5 := hid_ (HNb.out.kp (Kp.of_below hb5 fun _ => False) id)
          have HOk := hid_ (ownsRow_base hown HBw.out.size)
          have HB5 := hid_ (HBw.out.trans (hb5.mono HBw.out.size))
          have k5 : w5.cell? ⟨nb, 4, none⟩ = some (.slice Ak nd.keys.length ck) := HNb5.out.cell 4
          have f5 := HNb5.out.frozen 4
          clear hown hb5 k4
          go_upto_region 16 with fail
          have HNb6 := hid_ (HNb5.out.set_ 4 (.slice K1 nd.keys.length k1))
          have hkS : Kp (fun q => q = nb) w5 (w5.setCell ⟨nb, 4, none⟩ (.slice K1 nd.keys.length k1)) := (Kp.refl (fun q => q = nb) w5).setCell (p := ⟨nb, 4, none⟩) (.inl rfl) _
          have HOk6 := hid_ (own_kp HOk.out hkS (fun q hq e => own_blk_ne HOk.out HNb5.out (by decide) (by rw [hq, show q = nb from e])))
          have HB6 := hid_ (HB5.out.setCell (p := ⟨nb, 4, none⟩) (Nat.le_of_eq Hnb.out.symm) (.slice K1 nd.keys.length k1))
          clear k5 f5 hkS
          generalize w5.setCell ⟨nb, 4, none⟩ (.slice K1 nd.keys.length k1) = W6 at *
          have HNb6 := hid_ (show Blk W6 nb 57 #[.int .i64 nd.kind, .int .i64 nd.num, .string (st nd.mod), .string (st nd.name), .slice K1 nd.keys.length k1, .slice Al nd.l.length cl] from HNb6.out)
          have k6 : W6.cell? ⟨nb, 5, none⟩ = some (.slice Al nd.l.length cl) := HNb6.out.cell 5
          go_wp2_with fail
          refine (copyInts_c (HL.out.below (HS1.out.bel.trans (HB6.out.mono HS1.out.bel.size))) (ints_len _) (ints_one _) (by omega)).mono ?_
          rintro e w7 ⟨v7, rfl, hown, hb7⟩
          obtain ⟨L1, l1, rfl⟩ := own_form hown
          have HNb7 := hid_ (HNb6.out.kp (Kp.of_below hb7 fun _ => False) id)
          have HOl := hid_ (ownsRow_base hown HB6.out.size)
          have HOk7 := hid_ (own_kp HOk6.out (Kp.of_below hb7 fun _ => False) (fun _ _ e => e))
          have HB7 := hid_ (HB6.out.trans (hb7.mono HB6.out.size))
          have k7 : w7.cell? ⟨nb, 5, none⟩ = some (.slice Al nd.l.length cl) := HNb7.out.cell 5
          have f7 := HNb7.out.frozen 5
          clear hown hb7 k6
          go_upto_region 17 with fail
          have HNb8 := hid_ (HNb7.out.set_ 5 (.slice L1 nd.l.length l1))
          have hkS : Kp (fun q => q = nb) w7 (w7.setCell ⟨nb, 5, none⟩ (.slice L1 nd.l.length l1)) := (Kp.refl (fun q => q = nb) w7).setCell (p := ⟨nb, 5, none⟩) (.inl rfl) _
          have HOk8 := hid_ (own_kp HOk7.out hkS (fun q hq e => own_blk_ne HOk7.out HNb7.out (by decide) (by rw [hq, show q = nb from e])))
          have HOl8 := hid_ (own_kp HOl.out hkS (fun q hq e => own_blk_ne HOl.out HNb7.out (by decide) (by rw [hq, show q = nb from e])))
          have HB8 := hid_ (HB7.out.setCell (p := ⟨nb, 5, none⟩) (Nat.le_of_eq Hnb.out.symm) (.slice L1 nd.l.length l1))
          clear k7 f7 hkS
          generalize w7.setCell ⟨nb, 5, none⟩ (.slice L1 nd.l.length l1) = wc at *
          have HNb8 := hid_ (show Blk wc nb 57 #[.int .i64 nd.kind, .int .i64 nd.num, .string (st nd.mod), .string (st nd.name), .slice K1 nd.keys.length k1, .slice L1 nd.l.length l1] from HNb8.out)
          have HSc := hid_ (HS1.out.below HB8.out)
          have hlen : nx'.length = i := by
            have := congrArg List.length HNx.out
            rw [List.length_map, List.length_take] at this
            omega
          have r0 : wc.cell? ⟨nb, 0, none⟩ = some (.int .i64 nd.kind) := HNb8.out.cell 0
          have r1 : wc.cell? ⟨nb, 1, none⟩ = some (.int .i64 nd.num) := HNb8.out.cell 1
          have r2 : wc.cell? ⟨nb, 2, none⟩ = some (.string (st nd.mod)) := HNb8.out.cell 2
          have r3 : wc.cell? ⟨nb, 3, none⟩ = some (.string (st nd.name)) := HNb8.out.cell 3
          have r4 : wc.cell? ⟨nb, 4, none⟩ = some (.slice K1 nd.keys.length k1) := HNb8.out.cell 4
          have r5 : wc.cell? ⟨nb, 5, none⟩ = some (.slice L1 nd.l.length l1) := HNb8.out.cell 5
          have s4 : wc.cell? ⟨b2, 4, none⟩ = some (.slice Bn i dn) := HSc.out.a2.cell 4
          have HBc := hid_ (below_alloc wc (.cells #[.int .i64 nd.kind, .int .i64 nd.num, .string (st nd.mod), .string (st nd.name), .slice K1 nd.keys.length k1, .slice L1 nd.l.length l1] 57))
          have HSd := hid_ (HSc.out.below HBc.out)
          have HOn := hid_ (show (wc.alloc (.cells #[.int .i64 nd.kind, .int .i64 nd.num, .string (st nd.mod), .string (st nd.name), .slice K1 nd.keys.length k1, .slice L1 nd.l.length l1] 57)).ownsRow w.heap.size 57 6 (.slice Bn i dn) i (flatN nx') by
            have := HSd.out.n
            rw [hlen] at this
            exact this)
          have G4 := hid_ (fun (w6 : World) (hg : (wc.alloc (.cells #[.int .i64 nd.kind, .int .i64 nd.num, .string (st nd.mod), .string (st nd.name), .slice K1 nd.keys.length k1, .slice L1 nd.l.length l1] 57)).grownBy w6 (Value.slice Bn i dn).ownBlock) => (show w6.cell? ⟨b2, 4, none⟩ = some (.slice Bn i dn) ∧ w6.frozen? ⟨b2, 4, none⟩ = false from by
            have h := HSd.out.a2.kp ((Kp.of_below (Below.refl _ _) (fun q => (Value.slice Bn i dn).ownBlock = some q)).grown hg (fun q hq => .inl hq)) (own_blk_ne HSd.out.n HSd.out.a2 (by decide))
            exact ⟨h.cell 4, h.frozen 4⟩))
          have HLen := hid_ hlen
          clear hlen
          go_wp2_with (first | (at_builtin; go_loud (refine wpList_append_any rfl (.tmp 72) (.tmp 74) 29 rfl w.heap.size 57 iN _ 6 96 Tryz.underlying29 hiN hzN hsN hbN rfl (by omega) (.slice Bn i dn) i _ rfl HOn.out (some ⟨wc.heap.size, 0, none⟩) 1 1 (cellN nd (.slice K1 nd.keys.length k1) (.slice L1 nd.l.length l1)) rfl rfl (fun h => by cases h) (by intro ad had j u hu; injection had with had; subst had; exact World.news_of_block (heap_alloc_new _ _) j u hu) (by simp [cellN, Value.oneCell']) (by unfold maxLen; omega) (by omega) (Nat.le_trans HSc.out.bel.size (below_alloc _ _).size) ?_); intro A7 c7 w8 hown hgrow hat; obtain ⟨s7, f7⟩ := G4.out _ hgrow; have HGr := hid_ hgrow; have HOw := hid_ hown; clear hown hgrow hat))
          have HSe := hid_ (HS1.out.pushN HB8.out (x := (nd, .slice K1 nd.keys.length k1, .slice L1 nd.l.length l1)) HOk8.out HOl8.out HBc.out HGr.out (by rw [HLen.out]; exact HOw.out))
          clear s7 f7
          go_roundg (gk - 1)
          case rel => exact ⟨i + 1, _, _, _, by go_num, by omega, by rw [List.map_append, HNx.out]; exact HTk.out, HSe.out, by omega⟩
          case measure => omega
        · obtain rfl : i = m.nodes.length := by omega
          have HNx := hid_ (show nx'.map (·.1) = m.nodes by rw [HNx.out, List.take_length])
          have s0 : wr.cell? ⟨b2, 0, none⟩ = some (.string (st m.name)) := HS1.out.a2.cell 0
          have s1 : wr.cell? ⟨b2, 1, none⟩ = some (.slice A1 m.imports.length e1) := HS1.out.a2.cell 1
          have s2 : wr.cell? ⟨b2, 2, none⟩ = some (.slice A2 m.types.length e2) := HS1.out.a2.cell 2
          have s3 : wr.cell? ⟨b2, 3, none⟩ = some (.slice Bf m.fns.length df) := HS1.out.a2.cell 3
          have s4 : wr.cell? ⟨b2, 4, none⟩ = some (.slice Bn m.nodes.length dn) := HS1.out.a2.cell 4
          have z0 : wr.cell? ⟨b1, 0, none⟩ = some (.string ⟨#[]⟩) := HS1.out.a1.cell 0
          have z1 : wr.cell? ⟨b1, 1, none⟩ = some (.slice none 0 0) := HS1.out.a1.cell 1
          have z2 : wr.cell? ⟨b1, 2, none⟩ = some (.slice none 0 0) := HS1.out.a1.cell 2
          have z3 : wr.cell? ⟨b1, 3, none⟩ = some (.slice none 0 0) := HS1.out.a1.cell 3
          have z4 : wr.cell? ⟨b1, 4, none⟩ = some (.slice none 0 0) := HS1.out.a1.cell 4
          have f0 := HS1.out.a1.frozen 0
          have f1 := HS1.out.a1.frozen 1
          have f2 := HS1.out.a1.frozen 2
          have f3 := HS1.out.a1.frozen 3
          have f4 := HS1.out.a1.frozen 4
          clear hi hg hlt
          obtain ⟨g1, g2, g3⟩ := HS1.out.done HM.out.sz HFx.out HNx.out (by have := Hb1.out; omega) rfl
          have y0 := g1.cell 0
          have y1 := g1.cell 1
          have y2 := g1.cell 2
          have y3 := g1.cell 3
          have y4 := g1.cell 4
          have HY := hid_ (And.intro y0 (And.intro y1 (And.intro y2 (And.intro y3 y4))))
          have HG := hid_ (And.intro g2 g3)
          clear y0 y1 y2 y3 y4 g1 g2 g3
          go_wp2_with fail
          obtain ⟨y0, y1, y2, y3, y4⟩ := HY.out
          exact bodyPost_ret (v := .agg #[.string (st m.name), .slice A1 m.imports.length e1, .slice A2 m.types.length e2, .slice Bf m.fns.length df, .slice Bn m.nodes.length dn]) (by simp [results, Tryz.results16, go_sem, y0, y1, y2, y3, y4]) rfl ⟨_, _, _, _, _, _, rfl, HG.out.1, HG.out.2⟩
end
end Go.Proofs.YtmgjmagniefhoaaGreatDoor

/- tree.Copy, its memory. Conditions: those that each theorem names. -/
namespace Go.Proofs.YtmgjmagniefhoaaGreatDoor
open Go.RowKit Go.Maps
theorem flatF_upd : ∀ (l : List Fx) (i : Nat) (h : i < l.length) (v p : Value), flatF (l.set i (l[i].1, v, p)) = ((flatF l).set (i * 5 + 1) v).set (i * 5 + 2) p
  | x :: l, 0, h, v, p => rfl
  | x :: l, i + 1, h, v, p => by
    have h' : i < l.length := by simpa using h
    have ih := flatF_upd l i h' v p
    have e2 : flatF ((x :: l).set (i + 1) ((x :: l)[i + 1].1, v, p)) = cellF x ++ flatF (l.set i (l[i].1, v, p)) := rfl
    have e1 : flatF (x :: l) = cellF x ++ flatF l := rfl
    have e5 : (cellF x).length = 5 := rfl
    rw [e2, ih, e1, show (i + 1) * 5 + 1 = 5 + (i * 5 + 1) by omega, show (i + 1) * 5 + 2 = 5 + (i * 5 + 2) by omega, List.set_append_right _ _ (by omega), List.set_append_right _ _ (by omega), e5, Nat.add_sub_cancel_left, Nat.add_sub_cancel_left]
theorem flatN_upd : ∀ (l : List Nx) (i : Nat) (h : i < l.length) (v p : Value), flatN (l.set i (l[i].1, v, p)) = ((flatN l).set (i * 6 + 4) v).set (i * 6 + 5) p
  | x :: l, 0, h, v, p => rfl
  | x :: l, i + 1, h, v, p => by
    have h' : i < l.length := by simpa using h
    have ih := flatN_upd l i h' v p
    have e2 : flatN ((x :: l).set (i + 1) ((x :: l)[i + 1].1, v, p)) = cellN x.1 x.2.1 x.2.2 ++ flatN (l.set i (l[i].1, v, p)) := rfl
    have e1 : flatN (x :: l) = cellN x.1 x.2.1 x.2.2 ++ flatN l := rfl
    have e5 : (cellN x.1 x.2.1 x.2.2).length = 6 := rfl
    rw [e2, ih, e1, show (i + 1) * 6 + 4 = 6 + (i * 6 + 4) by omega, show (i + 1) * 6 + 5 = 6 + (i * 6 + 5) by omega, List.set_append_right _ _ (by omega), List.set_append_right _ _ (by omega), e5, Nat.add_sub_cancel_left, Nat.add_sub_cancel_left]
/-- A copy in its own box: so many functions, nodes have rows of their own. -/
structure TcS (w0 W : World) (b0 b1 : Nat) (nm iv tv fv nv : Value) (im : List (List UInt8)) (ty : List Tr.Vr) (fx : List Fx) (fk : Nat) (nx : List Nx) (nk : Nat) : Prop where
  bel : Below w0.heap.size w0 W
  a0 : Blk W b0 31 #[nm, iv, tv, fv, nv]
  a1 : Blk W b1 31 zeroM
  n0 : b0 ≠ b1
  i : W.ownsRow w0.heap.size 9 1 iv im.length (strs im)
  t : W.ownsRow w0.heap.size 59 2 tv ty.length (flatV ty)
  f : W.ownsRow w0.heap.size 54 5 fv fx.length (flatF fx)
  n : W.ownsRow w0.heap.size 57 6 nv nx.length (flatN nx)
  fo : ∀ j x, j < fk → fx[j]? = some x → W.ownsRow w0.heap.size 67 2 x.2.1 x.1.vars.length (flatV x.1.vars) ∧ W.ownsRow w0.heap.size 67 2 x.2.2 x.1.params.length (flatV x.1.params)
  no : ∀ j x, j < nk → nx[j]? = some x → W.ownsRow w0.heap.size 9 1 x.2.1 x.1.keys.length (strs x.1.keys) ∧ W.ownsRow w0.heap.size 3 1 x.2.2 x.1.l.length (ints x.1.l)
section
variable {w0 W W1 : World} {b0 b1 : Nat} {nm iv tv fv nv : Value} {im : List (List UInt8)} {ty : List Tr.Vr} {fx : List Fx} {nx : List Nx} {fk nk : Nat}
theorem TcS.below (h : TcS w0 W b0 b1 nm iv tv fv nv im ty fx fk nx nk) (hb : Below W.heap.size W W1) : TcS w0 W1 b0 b1 nm iv tv fv nv im ty fx fk nx nk := by
  have hk := Kp.of_below hb (fun _ => False)
  have key : ∀ {e : TypeId} {sz n : Nat} {v : Value} {xs : List Value}, W.ownsRow w0.heap.size e sz v n xs → W1.ownsRow w0.heap.size e sz v n xs := fun h => own_kp h hk fun _ _ e => e
  exact ⟨h.bel.trans (hb.mono h.bel.size), h.a0.kp hk id, h.a1.kp hk id, h.n0, key h.i, key h.t, key h.f, key h.n, fun j x hj hx => ⟨key (h.fo j x hj hx).1, key (h.fo j x hj hx).2⟩, fun j x hj hx => ⟨key (h.no j x hj hx).1, key (h.no j x hj hx).2⟩⟩
theorem set_get {α : Type} {l : List α} {i j : Nat} {y x : α} (h : (l.set i y)[j]? = some x) : (j = i ∧ x = y) ∨ (j ≠ i ∧ l[j]? = some x) := by
  by_cases e : j = i
  · subst e
    rw [List.getElem?_set_self' ] at h
    cases hl : l[j]? with
    | none => rw [hl] at h; cases h
    | some z => rw [hl] at h; injection h with h; exact .inl ⟨rfl, h.symm⟩
  · rw [List.getElem?_set_ne (Ne.symm e)] at h
    exact .inr ⟨e, h⟩
/-- A function gets rows of its own. -/
theorem TcS.setF {g c : Nat} (h : TcS w0 W b0 b1 nm iv tv (.slice (some ⟨g, 0, none⟩) fx.length c) nv im ty fx fk nx nk) (hk : fk < fx.length) {v p : Value} (hv : W.ownsRow w0.heap.size 67 2 v fx[fk].1.vars.length (flatV fx[fk].1.vars)) (hp : W.ownsRow w0.heap.size 67 2 p fx[fk].1.params.length (flatV fx[fk].1.params)) {WF : World}
    (hF : WF = (W.setCell ⟨g, fk * 5 + 1, none⟩ v).setCell ⟨g, fk * 5 + 2, none⟩ p) : TcS w0 WF b0 b1 nm iv tv (.slice (some ⟨g, 0, none⟩) fx.length c) nv im ty (fx.set fk (fx[fk].1, v, p)) (fk + 1) nx nk := by
  subst hF
  have hkp : Kp (fun q => q = g) W ((W.setCell ⟨g, fk * 5 + 1, none⟩ v).setCell ⟨g, fk * 5 + 2, none⟩ p) := ((Kp.refl (fun q => q = g) W).setCell (p := ⟨g, fk * 5 + 1, none⟩) (.inl rfl) v).setCell (p := ⟨g, fk * 5 + 2, none⟩) (.inl rfl) p
  have key : ∀ {e : TypeId} {sz n : Nat} {u : Value} {xs : List Value}, W.ownsRow w0.heap.size e sz u n xs → e ≠ 54 → ((W.setCell ⟨g, fk * 5 + 1, none⟩ v).setCell ⟨g, fk * 5 + 2, none⟩ p).ownsRow w0.heap.size e sz u n xs := fun hr he => own_kp hr hkp fun q hq e => by
    have e : q = g := e
    subst e
    exact own_ne hr h.f he hq rfl
  have hbl : ∀ {b : Nat} {cs : Array Value}, Blk W b 31 cs → Blk ((W.setCell ⟨g, fk * 5 + 1, none⟩ v).setCell ⟨g, fk * 5 + 2, none⟩ p) b 31 cs := fun hb => hb.kp hkp fun e => by
    have e : _ = g := e
    subst e
    exact own_blk_ne h.f hb (by decide) rfl
  have hg := own_base h.f (k := g) rfl
  have hf := own_set (own_set h.f (fk * 5 + 1) v) (fk * 5 + 2) p
  refine ⟨(h.bel.setCell (p := ⟨g, fk * 5 + 1, none⟩) hg v).setCell (p := ⟨g, fk * 5 + 2, none⟩) hg p, hbl h.a0, hbl h.a1, h.n0, key h.i (by decide), key h.t (by decide), ?_, key h.n (by decide), fun j x hj hx => ?_, fun j x hj hx => ⟨key (h.no j x hj hx).1 (by decide), key (h.no j x hj hx).2 (by decide)⟩⟩
  · rw [flatF_upd fx fk hk, List.length_set]
    exact hf
  · rcases set_get hx with ⟨rfl, rfl⟩ | ⟨hne, hx⟩
    · exact ⟨key hv (by decide), key hp (by decide)⟩
    · exact ⟨key (h.fo j x (by omega) hx).1 (by decide), key (h.fo j x (by omega) hx).2 (by decide)⟩
/-- A node gets rows of its own. -/
theorem TcS.setN {g c : Nat} (h : TcS w0 W b0 b1 nm iv tv fv (.slice (some ⟨g, 0, none⟩) nx.length c) im ty fx fk nx nk) (hk : nk < nx.length) {v p : Value} (hv : W.ownsRow w0.heap.size 9 1 v nx[nk].1.keys.length (strs nx[nk].1.keys)) (hp : W.ownsRow w0.heap.size 3 1 p nx[nk].1.l.length (ints nx[nk].1.l)) {WF : World}
    (hF : WF = (W.setCell ⟨g, nk * 6 + 4, none⟩ v).setCell ⟨g, nk * 6 + 5, none⟩ p) : TcS w0 WF b0 b1 nm iv tv fv (.slice (some ⟨g, 0, none⟩) nx.length c) im ty fx fk (nx.set nk (nx[nk].1, v, p)) (nk + 1) := by
  subst hF
  have hkp : Kp (fun q => q = g) W ((W.setCell ⟨g, nk * 6 + 4, none⟩ v).setCell ⟨g, nk * 6 + 5, none⟩ p) := ((Kp.refl (fun q => q = g) W).setCell (p := ⟨g, nk * 6 + 4, none⟩) (.inl rfl) v).setCell (p := ⟨g, nk * 6 + 5, none⟩) (.inl rfl) p
  have key : ∀ {e : TypeId} {sz n : Nat} {u : Value} {xs : List Value}, W.ownsRow w0.heap.size e sz u n xs → e ≠ 57 → ((W.setCell ⟨g, nk * 6 + 4, none⟩ v).setCell ⟨g, nk * 6 + 5, none⟩ p).ownsRow w0.heap.size e sz u n xs := fun hr he => own_kp hr hkp fun q hq e => by
    have e : q = g := e
    subst e
    exact own_ne hr h.n he hq rfl
  have hbl : ∀ {b : Nat} {cs : Array Value}, Blk W b 31 cs → Blk ((W.setCell ⟨g, nk * 6 + 4, none⟩ v).setCell ⟨g, nk * 6 + 5, none⟩ p) b 31 cs := fun hb => hb.kp hkp fun e => by
    have e : _ = g := e
    subst e
    exact own_blk_ne h.n hb (by decide) rfl
  have hg := own_base h.n (k := g) rfl
  have hf := own_set (own_set h.n (nk * 6 + 4) v) (nk * 6 + 5) p
  refine ⟨(h.bel.setCell (p := ⟨g, nk * 6 + 4, none⟩) hg v).setCell (p := ⟨g, nk * 6 + 5, none⟩) hg p, hbl h.a0, hbl h.a1, h.n0, key h.i (by decide), key h.t (by decide), key h.f (by decide), ?_, fun j x hj hx => ⟨key (h.fo j x hj hx).1 (by decide), key (h.fo j x hj hx).2 (by decide)⟩, fun j x hj hx => ?_⟩
  · rw [flatN_upd nx nk hk, List.length_set]
    exact hf
  · rcases set_get hx with ⟨rfl, rfl⟩ | ⟨hne, hx⟩
    · exact ⟨key hv (by decide), key hp (by decide)⟩
    · exact ⟨key (h.no j x (by omega) hx).1 (by decide), key (h.no j x (by omega) hx).2 (by decide)⟩
/-- The copy is done: it is put into the result's box. -/
theorem TcS.done {m : Tr.Md} (h : TcS w0 W b0 b1 nm iv tv fv nv m.imports m.types fx fx.length nx nx.length) (hz : MdZ m) (hf : fx.map (·.1) = m.fns) (hn : nx.map (·.1) = m.nodes) (hb : w0.heap.size ≤ b1) {WF : World}
    (hF : WF = ((((W.setCell ⟨b1, 0, none⟩ nm).setCell ⟨b1, 1, none⟩ iv).setCell ⟨b1, 2, none⟩ tv).setCell ⟨b1, 3, none⟩ fv).setCell ⟨b1, 4, none⟩ nv) : Blk WF b1 31 #[nm, iv, tv, fv, nv] ∧ Hi w0.heap.size WF iv tv fv nv m fx nx ∧ Below w0.heap.size w0 WF := by
  subst hF
  have hk : Kp (fun q => q = b1) W (((((W.setCell ⟨b1, 0, none⟩ nm).setCell ⟨b1, 1, none⟩ iv).setCell ⟨b1, 2, none⟩ tv).setCell ⟨b1, 3, none⟩ fv).setCell ⟨b1, 4, none⟩ nv) := (((((Kp.refl (fun q => q = b1) W).setCell (p := ⟨b1, 0, none⟩) (.inl rfl) nm).setCell (p := ⟨b1, 1, none⟩) (.inl rfl) iv).setCell (p := ⟨b1, 2, none⟩) (.inl rfl) tv).setCell (p := ⟨b1, 3, none⟩) (.inl rfl) fv).setCell (p := ⟨b1, 4, none⟩) (.inl rfl) nv
  have key : ∀ {e : TypeId} {sz n : Nat} {v : Value} {xs : List Value}, W.ownsRow w0.heap.size e sz v n xs → e ≠ 31 → (((((W.setCell ⟨b1, 0, none⟩ nm).setCell ⟨b1, 1, none⟩ iv).setCell ⟨b1, 2, none⟩ tv).setCell ⟨b1, 3, none⟩ fv).setCell ⟨b1, 4, none⟩ nv).ownsRow w0.heap.size e sz v n xs := fun hr he => own_kp hr hk fun q hq e => by
    have e : q = b1 := e
    subst e
    exact own_blk_ne hr h.a1 he hq
  have hfl : fx.length = m.fns.length := by rw [← hf, List.length_map]
  have hnl : nx.length = m.nodes.length := by rw [← hn, List.length_map]
  have memF : ∀ x ∈ fx, ∃ j, j < fx.length ∧ fx[j]? = some x := fun x hx => by
    obtain ⟨j, hj, e⟩ := List.mem_iff_getElem.1 hx
    exact ⟨j, hj, by rw [List.getElem?_eq_getElem hj, e]⟩
  have memN : ∀ x ∈ nx, ∃ j, j < nx.length ∧ nx[j]? = some x := fun x hx => by
    obtain ⟨j, hj, e⟩ := List.mem_iff_getElem.1 hx
    exact ⟨j, hj, by rw [List.getElem?_eq_getElem hj, e]⟩
  refine ⟨((((h.a1.set_ 0 nm).set_ 1 iv).set_ 2 tv).set_ 3 fv).set_ 4 nv, ⟨hz, hf, hn, key h.i (by decide), key h.t (by decide), by rw [← hfl]; exact key h.f (by decide), by rw [← hnl]; exact key h.n (by decide), fun x hx => ?_, fun x hx => ?_⟩, ?_⟩
  · obtain ⟨j, hj, e⟩ := memF x hx
    exact ⟨key (h.fo j x hj e).1 (by decide), key (h.fo j x hj e).2 (by decide)⟩
  · obtain ⟨j, hj, e⟩ := memN x hx
    exact ⟨key (h.no j x hj e).1 (by decide), key (h.no j x hj e).2 (by decide)⟩
  · exact ((((h.bel.setCell (p := ⟨b1, 0, none⟩) hb nm).setCell (p := ⟨b1, 1, none⟩) hb iv).setCell (p := ⟨b1, 2, none⟩) hb tv).setCell (p := ⟨b1, 3, none⟩) hb fv).setCell (p := ⟨b1, 4, none⟩) hb nv
end
end Go.Proofs.YtmgjmagniefhoaaGreatDoor

/- A drawn region whose loads come first of all, though stores behind its calls write the same cells. Conditions: those that each theorem names. -/
namespace Go.Proofs.YtmgjmagniefhoaaGreatDoor
open Go.RowKit Go.Maps
section
variable {P : Program} {ops : Array Oper} {Q : Exit → Act → World → Prop} {md : Region.Mode} {T : World → Prop} {St : List Nat}
/-- While none of the stores has come up, T holds. -/
def TillL (T : World → Prop) (St : List Nat) (l : Array Bool) (w : World) : Prop := (∀ s ∈ St, l.getD s true = false) → T w
/-- Whatever order is picked from here on, and T holds till a store comes up. -/
def wpAnyL (P : Program) (md : Region.Mode) (ops : Array Oper) (Q : Exit → Act → World → Prop) (T : World → Prop) (St : List Nat) : Nat → Array Bool → Act → World → Prop
  | 0, listed, a, w => Region.ready md ops listed = [] ∧ Q .normal a w
  | fuel + 1, listed, a, w =>
    (Region.ready md ops listed = [] → Q .normal a w) ∧
    ∀ i ∈ Region.ready md ops listed, wpOp P ops Q i (fun a' w' => TillL T St (listed.setIfInBounds i true) w' ∧ wpAnyL P md ops Q T St fuel (listed.setIfInBounds i true) a' w') a w
theorem wpAny_ofL : ∀ (fuel : Nat) (listed : Array Bool) (a : Act) (w : World), wpAnyL P md ops Q T St fuel listed a w → wpAny P md ops Q fuel listed a w
  | 0, _, _, _, h => h
  | fuel + 1, _, _, _, h => ⟨h.1, fun i hi => wpOp_mono (fun a' w' h' => wpAny_ofL fuel _ a' w' h'.2) (h.2 i hi)⟩
/-- What waits for i, link by link. -/
def dam (md : Region.Mode) (ops : Array Oper) (B : List Nat) (i : Nat) : Bool :=
  B.all fun b => b == i || match ops[b]? with
    | some ob => ob.after.any fun e => Region.binds md e && B.contains e.on
    | none => false
theorem dam_spec {B : List Nat} {i b : Nat} (h : dam md ops B i = true) (hb : b ∈ B) (hne : b ≠ i) {ob : Oper} (ho : ops[b]? = some ob) : ∃ e ∈ ob.after, Region.binds md e = true ∧ e.on ∈ B := by
  have h1 := List.all_eq_true.1 h b hb
  simp only [ho, Bool.or_eq_true, beq_iff_eq, hne, false_or] at h1
  obtain ⟨e, he, hb⟩ := Array.any_eq_true'.1 h1
  simp only [Bool.and_eq_true] at hb
  exact ⟨e, he, hb.1, by simpa using hb.2⟩
theorem getD_off {listed : Array Bool} {j : Nat} (h : listed.getD j true = false) : listed.getD j false = false := by
  simp only [Array.getD_eq_getD_getElem?] at *
  cases hl : listed[j]? with
  | none => rfl
  | some u => rw [hl] at h; exact h
theorem wpAnyL_first {i : Nat} {oi : Oper} {v : Value} {B : List Nat} (hi : ops[i]? = some oi) (hsel : ∀ (j : Nat) (o : Oper) cs b, ops[j]? = some o → o.op ≠ .select cs b)
    (hQ : ∀ c a w, Q (.panic c) (a.put oi.dst v) w → Q (.panic c) a w) (hd : dam md ops B i = true) (hSB : ∀ s ∈ St, s ∈ B) (hiS : i ∉ St) :
    ∀ (fuel : Nat) (listed : Array Bool) (a : Act) (w : World),
      (∀ j oj, ops[j]? = some oj → j ≠ i → listed.getD j true = false → (∀ e ∈ oj.after, Region.binds md e = true → e.on ≠ i) → oi.apart ops oj = true) →
      (∀ b ∈ B, listed.getD b true = false) →
      i ∈ Region.ready md ops listed → YieldsIf P ops T oi v a → T w →
      wpAnyL P md ops Q T St fuel (listed.setIfInBounds i true) (a.put oi.dst v) w → wpAnyL P md ops Q T St (fuel + 1) listed a w := by
  intro fuel
  induction fuel with
  | zero =>
    intro listed a w _ _ hr hy hS H
    refine ⟨fun h => (by rw [h] at hr; cases hr), fun j hj => ?_⟩
    by_cases hji : j = i
    · subst hji; exact hy.wpOp hi hS ⟨fun _ => hS, H⟩
    · have := ready_mono hj hji
      rw [H.1] at this
      cases this
  | succ fuel ih =>
    intro listed a w hfree hB hr hy hS H
    refine ⟨fun h => (by rw [h] at hr; cases hr), fun j hj => ?_⟩
    by_cases hji : j = i
    · subst hji; exact hy.wpOp hi hS ⟨fun _ => hS, H⟩
    · have h1 := H.2 j (ready_mono hj hji)
      obtain ⟨hjun, oj, hoj, hall⟩ := mem_ready.1 hj
      have hjB : j ∉ B := fun hm => by
        obtain ⟨e, he, hb, hm'⟩ := dam_spec hd hm hji hoj
        have h2 := hall e he hb
        rw [getD_off (hB _ hm')] at h2
        cases h2
      have hnot : ∀ e ∈ oj.after, Region.binds md e = true → e.on ≠ i := fun e he hb heq => by
        have h1 := hall e he hb
        have h0 := (mem_ready.1 hr).1
        rw [heq, getD_off h0] at h1
        cases h1
      have h2 := wpOp_putIf hoj (hfree j oj hoj hji hjun hnot) (fun cs b => hsel i oi cs b hi) (fun cs b => hsel j oj cs b hoj) hQ hy h1
      have hB' : ∀ b ∈ B, (listed.setIfInBounds j true).getD b true = false := fun b hb => by
        rw [getD_set_ne true (fun e => hjB (by rw [e]; exact hb))]
        exact hB b hb
      have hfree' : ∀ k ok, ops[k]? = some ok → k ≠ i → (listed.setIfInBounds j true).getD k true = false →
          (∀ e ∈ ok.after, Region.binds md e = true → e.on ≠ i) → oi.apart ops ok = true := fun k ok hk hki hun hno => by
        refine hfree k ok hk hki ?_ hno
        by_cases hjk : j = k
        · subst hjk; exact hjun
        · rw [getD_set_ne true hjk] at hun; exact hun
      refine wpOp_mono (fun a' w' h3 => ?_) h2
      have hT : T w' := h3.2.1 fun s hs => by
        rw [getD_set_ne true (fun e => hjB (by rw [e]; exact hSB s hs)), getD_set_ne true (fun e => hiS (by rw [e]; exact hs))]
        exact hB s (hSB s hs)
      refine ⟨fun _ => hT, ih (listed.setIfInBounds j true) a' w' hfree' hB' (ready_mono hr (Ne.symm hji)) h3.1 hT ?_⟩
      rw [Array.setIfInBounds_comm _ _ hji]
      exact h3.2.2
/-- Number i first. -/
theorem wpAnyL_take {i : Nat} {oi : Oper} {v : Value} {fuel : Nat} {listed : Array Bool} {a : Act} {w : World} (B : List Nat) (hi : ops[i]? = some oi)
    (hs : Region.noSelect ops = true) (hf : Region.free md ops listed i = true) (hr : (Region.ready md ops listed).contains i = true)
    (hd : dam md ops B i = true) (hSB : (St.all fun s => B.contains s && !(s == i)) = true) (hun : (B.all fun b => !(listed.getD b true)) = true)
    (hQ : ∀ c a w, Q (.panic c) (a.put oi.dst v) w → Q (.panic c) a w) (hS : T w) (hy : YieldsIf P ops T oi v a)
    (h : wpAnyL P md ops Q T St fuel (listed.setIfInBounds i true) (a.put oi.dst v) w) : wpAnyL P md ops Q T St (fuel + 1) listed a w := by
  have hSB' := List.all_eq_true.1 hSB
  refine wpAnyL_first hi (Region.noSelect_spec hs) hQ hd (fun s hs => ?_) (fun hm => ?_) fuel listed a w (Region.free_spec hi hf) (fun b hb => ?_) (by simpa using hr) hy hS h
  · have := hSB' s hs
    simp only [Bool.and_eq_true] at this
    simpa using this.1
  · have := hSB' i hm
    simp at this
  · have := List.all_eq_true.1 hun b hb
    simpa using this
theorem wpAnyL_first0 {i : Nat} {oi : Oper} {v : Value} (hi : ops[i]? = some oi) (hsel : ∀ (j : Nat) (o : Oper) cs b, ops[j]? = some o → o.op ≠ .select cs b)
    (hQ : ∀ c a w, Q (.panic c) (a.put oi.dst v) w → Q (.panic c) a w) (hiS : i ∉ St) :
    ∀ (fuel : Nat) (listed : Array Bool) (a : Act) (w : World),
      (∀ j oj, ops[j]? = some oj → j ≠ i → listed.getD j true = false → (∀ e ∈ oj.after, Region.binds md e = true → e.on ≠ i) → oi.apart ops oj = true) →
      i ∈ Region.ready md ops listed → YieldsIf P ops (fun _ => True) oi v a → TillL T St listed w →
      wpAnyL P md ops Q T St fuel (listed.setIfInBounds i true) (a.put oi.dst v) w → wpAnyL P md ops Q T St (fuel + 1) listed a w := by
  have hset : ∀ {l : Array Bool} {w : World}, TillL T St (l.setIfInBounds i true) w ↔ TillL T St l w := fun {l w} => by
    unfold TillL
    refine ⟨fun h hs => h fun s hm => ?_, fun h hs => h fun s hm => ?_⟩
    · rw [getD_set_ne true (fun e => hiS (by rw [e]; exact hm))]
      exact hs s hm
    · have := hs s hm
      rw [getD_set_ne true (fun e => hiS (by rw [e]; exact hm))] at this
      exact this
  intro fuel
  induction fuel with
  | zero =>
    intro listed a w _ hr hy hS H
    refine ⟨fun h => (by rw [h] at hr; cases hr), fun j hj => ?_⟩
    by_cases hji : j = i
    · subst hji; exact hy.wpOp hi trivial ⟨hset.2 hS, H⟩
    · have := ready_mono hj hji
      rw [H.1] at this
      cases this
  | succ fuel ih =>
    intro listed a w hfree hr hy hS H
    refine ⟨fun h => (by rw [h] at hr; cases hr), fun j hj => ?_⟩
    by_cases hji : j = i
    · subst hji; exact hy.wpOp hi trivial ⟨hset.2 hS, H⟩
    · have h1 := H.2 j (ready_mono hj hji)
      obtain ⟨hjun, oj, hoj, hall⟩ := mem_ready.1 hj
      have hnot : ∀ e ∈ oj.after, Region.binds md e = true → e.on ≠ i := fun e he hb heq => by
        have h1 := hall e he hb
        have h0 := (mem_ready.1 hr).1
        rw [heq, getD_off h0] at h1
        cases h1
      have h2 := wpOp_putIf hoj (hfree j oj hoj hji hjun hnot) (fun cs b => hsel i oi cs b hi) (fun cs b => hsel j oj cs b hoj) hQ hy h1
      have hfree' : ∀ k ok, ops[k]? = some ok → k ≠ i → (listed.setIfInBounds j true).getD k true = false →
          (∀ e ∈ ok.after, Region.binds md e = true → e.on ≠ i) → oi.apart ops ok = true := fun k ok hk hki hun hno => by
        refine hfree k ok hk hki ?_ hno
        by_cases hjk : j = k
        · subst hjk; exact hjun
        · rw [getD_set_ne true hjk] at hun; exact hun
      refine wpOp_mono (fun a' w' h3 => ?_) h2
      have hT : TillL T St (listed.setIfInBounds j true) w' := hset.1 (by rw [Array.setIfInBounds_comm _ _ hji]; exact h3.2.1)
      refine ⟨hT, ih (listed.setIfInBounds j true) a' w' hfree' (ready_mono hr (Ne.symm hji)) h3.1 hT ?_⟩
      rw [Array.setIfInBounds_comm _ _ hji]
      exact h3.2.2
/-- Number i first, which yields in whatever world. -/
theorem wpAnyL_take0 {i : Nat} {oi : Oper} {v : Value} {fuel : Nat} {listed : Array Bool} {a : Act} {w : World} (hi : ops[i]? = some oi)
    (hs : Region.noSelect ops = true) (hf : Region.free md ops listed i = true) (hr : (Region.ready md ops listed).contains i = true)
    (hiS : St.contains i = false)
    (hQ : ∀ c a w, Q (.panic c) (a.put oi.dst v) w → Q (.panic c) a w) (hS : TillL T St listed w) (hy : YieldsIf P ops (fun _ => True) oi v a)
    (h : wpAnyL P md ops Q T St fuel (listed.setIfInBounds i true) (a.put oi.dst v) w) : wpAnyL P md ops Q T St (fuel + 1) listed a w :=
  wpAnyL_first0 hi (Region.noSelect_spec hs) hQ (fun hm => by simp [hm] at hiS) fuel listed a w (Region.free_spec hi hf) (by simpa using hr) hy hS h
/-- The one that may come up. -/
theorem wpAnyL_step {i : Nat} {o : Oper} {fuel : Nat} {listed : Array Bool} {a : Act} {w : World} (hr : Region.ready md ops listed = [i]) (ho : ops[i]? = some o)
    (h : ∀ K' : Act → World → Prop, Shut (∀ a w, TillL T St (listed.setIfInBounds i true) w → wpAnyL P md ops Q T St fuel (listed.setIfInBounds i true) a w → K' a w) → if Region.wanted o (yielded ops a.tmps) = true then Oper.wp P o a w K' Q else K' (a.put o.dst undef) w) : wpAnyL P md ops Q T St (fuel + 1) listed a w :=
  ⟨fun h0 => (by rw [h0] at hr; cases hr), fun j hj => by
    rw [hr] at hj
    obtain rfl : j = i := by simpa using hj
    exact wpOp_step ho fun K' hK => h K' fun a w hS hW => hK a w ⟨hS, hW⟩⟩
theorem wpAnyL_done {listed : Array Bool} {a : Act} {w : World} (hr : Region.ready md ops listed = []) (h : Q .normal a w) :
    ∀ fuel, wpAnyL P md ops Q T St fuel listed a w
  | 0 => ⟨hr, h⟩
  | _ + 1 => ⟨fun _ => h, by rw [hr]; simp⟩
theorem wp_regionL {id : Nat} {a : Act} {w : World} (T : World → Prop) (St : List Nat) (hm : P.follows .mixedOrders = true)
    (h : wpAnyL P .any ops Q T St ops.size (Array.replicate ops.size false) a w.drew) : (Code.region id ops true).wp P Q a w :=
  wp_region_any hm (wpAny_ofL _ _ _ _ h)
/-- A load, of a cell that T gives. -/
theorem tillL_off {l : Array Bool} {w : World} {s : Nat} (hs : s ∈ St) (h : l.getD s true = true) : TillL T St l w := fun h' => by
  rw [h' s hs] at h
  cases h
end
end Go.Proofs.YtmgjmagniefhoaaGreatDoor
