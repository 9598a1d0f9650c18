/- The tree's reader: fn. Conditions: those that each theorem names. -/
import Derived.Test.YtmgjmagniefhoaaGreatDoorAa17
namespace Go.Proofs.YtmgjmagniefhoaaGreatDoor
open Go.RowKit Go.Maps
theorem Tryz.infoF : (Tryz.prog.info? 54).map (fun i => (i.zero, i.size, i.bytes)) = some (some (.agg #[.string ⟨#[]⟩, .slice none 0 0, .slice none 0 0, .int .i64 0, .int .i64 0]), 5, 80) := by kernel_rfl
section
variable {w w' w0 : World} {rb k : Nat} {c : RC} {L : List Lx.Wd} {ns : List Tr.Nd} {im : List (List UInt8)} {ty : List Tr.Vr} {fs : List Tr.Fd}
/-- A function that is being read, in memory. -/
structure FuV (w0 : World) (rb nb : Nat) (x : Fx) (W : World) : Prop where
  fB : Blk W nb 54 #[.string (st x.1.name), x.2.1, x.2.2, .int .i64 x.1.ret, .int .i64 x.1.body]
  vs : MyS w0 W rb 67 2 x.2.1 x.1.vars.length (flatV x.1.vars)
  ps : MyS w0 W rb 67 2 x.2.2 x.1.params.length (flatV x.1.params)
  fr : Free W rb nb
  le : w0.heap.size ≤ nb
theorem FuV.to {nb : Nat} {x : Fx} (h : FuV w0 rb nb x w) (hF : Fr rb w w') : FuV w0 rb nb x w' := by
  obtain ⟨h1, h2⟩ := h.fB.fr h.fr hF
  exact ⟨h1, h.vs.fr hF, h.ps.fr hF, h2, h.le⟩
/-- One of its cells is set. -/
theorem FuV.set {nb : Nat} {x : Fx} (h : FuV w0 rb nb x w) (hR : Rd w rb c L k ns) (hF : Fr rb w0 w) (i : Nat) (u : Value) {x' : Fx} (hx : (#[.string (st x.1.name), x.2.1, x.2.2, .int .i64 x.1.ret, .int .i64 x.1.body] : Array Value).setIfInBounds i u = #[.string (st x'.1.name), x'.2.1, x'.2.2, .int .i64 x'.1.ret, .int .i64 x'.1.body])
    (hv : MyS w0 w rb 67 2 x'.2.1 x'.1.vars.length (flatV x'.1.vars)) (hp : MyS w0 w rb 67 2 x'.2.2 x'.1.params.length (flatV x'.1.params)) :
    FuV w0 rb nb x' (w.setCell ⟨nb, i, none⟩ u) ∧ Rd (w.setCell ⟨nb, i, none⟩ u) rb c L k ns ∧ Fr rb w0 (w.setCell ⟨nb, i, none⟩ u) := by
  obtain ⟨hr, hf, hfree, hk⟩ := hR.setOwn (i := i) (u := u) h.fr hF h.le
  have hB := h.fB.set_ i u
  rw [hx] at hB
  have key : ∀ {v : Value} {n : Nat} {xs : List Value}, MyS w0 w rb 67 2 v n xs → MyS w0 (w.setCell ⟨nb, i, none⟩ u) rb 67 2 v n xs := fun hm =>
    ⟨own_kp hm.own hk (fun q hq e => own_blk_ne hm.own h.fB (by decide) (by rw [hq, e])), fun q hq => hfree q (hm.free q hq)⟩
  exact ⟨⟨hB, key hv, key hp, hfree _ h.fr, h.le⟩, hr, hf⟩
/-- A function is put behind the others. -/
theorem MdR.func {fv fv' : Value} {W w1 : World} {x : Fx} (h : MdR w rb c im ty fs) (hfv : c.fv = fv) {xs : List Fx} (h1 : xs.map (·.1) = fs) (h2 : OwF w rb 54 5 fv fs.length (flatF xs)) (h3 : ∀ x ∈ xs, FdOwn w rb x) (hx : FdOwn w rb x) (hR : Rd w rb c L k ns) (hW : Below w.heap.size w W) (hg : W.grownBy w1 fv.ownBlock)
    (hown : w1.ownsRow rb 54 5 fv' (fs.length + 1) (flatF xs ++ cellF x)) (hat : ∀ q, fv'.ownBlock = some q → fv.ownBlock = some q ∨ W.heap.size ≤ q) :
    w1.cell? ⟨rb, 5, none⟩ = some fv ∧ w1.frozen? ⟨rb, 5, none⟩ = false ∧ Rd (w1.setCell ⟨rb, 5, none⟩ fv') rb { c with fv := fv' } L k ns ∧ Below rb w (w1.setCell ⟨rb, 5, none⟩ fv') ∧ MdR (w1.setCell ⟨rb, 5, none⟩ fv') rb { c with fv := fv' } im ty (fs ++ [x.1]) := by
  subst hfv
  obtain ⟨hm, hr, hk, hfree⟩ := h2.grown hR hW hg hown hat
  obtain ⟨hr2, hf2⟩ := hr.setC (i := 5) (u := fv') (c' := { c with fv := fv' }) (fun nv => rfl) rfl
  obtain ⟨_, _, _, _, _, _, c5, _⟩ := hr.cells
  have hb : Below rb w w1 := hk.toBelow (Nat.le_of_lt hR.rlt) (fun q hq e => by have := (h2.free q e).1; omega)
  have i1 := h.iR.far hk (h.iR.types h2 (by decide)) hfree
  have t1 := h.tR.far hk (h.tR.types h2 (by decide)) hfree
  have g1 : ∀ y, FdOwn w rb y → FdOwn w1 rb y := fun y hy => ⟨hy.1.far hk (hy.1.types h2 (by decide)) hfree, hy.2.far hk (hy.2.types h2 (by decide)) hfree⟩
  refine ⟨c5, hr.frz 5, hr2, hb.trans (hf2.bel hr), i1.fr hf2, t1.fr hf2, xs ++ [x], by rw [List.map_append, h1]; rfl, ?_, fun y hy => ?_⟩
  · rw [show flatF (xs ++ [x]) = flatF xs ++ cellF x by simp [flatF], List.length_append]
    exact hm.fr hf2
  · have : FdOwn w rb y := by
      rcases List.mem_append.1 hy with hy | hy
      · exact h3 y hy
      · rw [List.mem_singleton.1 hy]; exact hx
    exact ⟨(g1 y this).1.fr hf2, (g1 y this).2.fr hf2⟩
def fnR2 (L : List Lx.Wd) (s : List UInt8) (vs ps : List Tr.Vr) (k : Nat) (M : List Tr.Nd) : Tr.An Tr.Fd :=
  Tr.bind (Tr.must L [58] k M) fun _ k M => Tr.bind (Tr.typ L 1 k M) fun r k M => Tr.bind (Tr.must L [61] k M) fun _ k M => Tr.bind (Tr.expr L 1 k M) fun b k M => .ok (⟨s, vs, ps, r, b⟩, k, M)
def fnR1 (L : List Lx.Wd) (s : List UInt8) (vs : List Tr.Vr) (k : Nat) (M : List Tr.Nd) : Tr.An Tr.Fd :=
  Tr.bind (Tr.must L [40] k M) fun _ k M => Tr.bind (if Tr.isW L [41] k = true then .ok ([], k + 1, M) else Tr.vars L 1 [58] [41] k M) fun ps k M => fnR2 L s vs ps k M
theorem vars_on {kind : Int} {bt stop : List UInt8} {M : List Tr.Nd} {x : List Tr.Vr} {k' : Nat} {M' : List Tr.Nd} (h : Tr.vars L kind bt stop k M = .ok (x, k', M')) : k ≤ k' := by
  obtain ⟨s, k1, M1, h1, g1⟩ := Tr.bind_ok h
  obtain ⟨_, k2, M2, h2, g2⟩ := Tr.bind_ok g1
  obtain ⟨_, rfl, _⟩ := Tr.ok_inj g2
  obtain ⟨rfl, _⟩ := Tr.must_ok h2
  have : ∀ (f : Nat) (l : List Tr.Vr) (k : Nat) (M : List Tr.Nd) (x : List Tr.Vr) (k' : Nat) (M' : List Tr.Nd), Tr.varsF L f kind bt l k M = .ok (x, k', M') → k ≤ k' := by
    intro f
    induction f with
    | zero => intro l k M x k' M' h; unfold Tr.varsF at h; cases h
    | succ f ih =>
      intro l k M x k' M' h
      unfold Tr.varsF at h
      obtain ⟨_, k1, M1, h1, g1⟩ := Tr.bind_ok h
      obtain ⟨rfl, rfl⟩ := Tr.room_ok h1
      obtain ⟨s, k2, M2, h2, g2⟩ := Tr.bind_ok g1
      obtain ⟨rfl, rfl⟩ := Tr.fresh_ok h2
      obtain ⟨_, k3, M3, h3, g3⟩ := Tr.bind_ok g2
      obtain ⟨rfl, rfl⟩ := Tr.must_ok h3
      obtain ⟨t, k4, M4, h4, g4⟩ := Tr.bind_ok g3
      have := (Tr.prog _).typ h4
      split at g4
      · have := ih _ _ _ _ _ _ g4
        omega
      · obtain ⟨_, rfl, _⟩ := Tr.ok_inj g4
        omega
  have := this _ _ _ _ _ _ _ h1
  omega
set_option maxHeartbeats 8000000 in
set_option maxRecDepth 100000 in
theorem fn_c (h : Rd w rb c L k ns) (hM : MdR w rb c im ty fs) (hty : fs.length ≤ 64) (hk2 : k + 1 < L.length) : Calls Tryz.prog 68 #[rv rb] w (EPD (fun x c' w' => MdR w' rb c' im ty (fs ++ [x]) ∧ c'.nm = c.nm) w rb L (Tr.func L fs.length k ns)) := by
  have HR := hid_ h
  have HMd := hid_ hM
  have HE := hid_ (show Tr.func L fs.length k ns = Tr.bind (Tr.room L fs.length 64 k ns) fun _ k M => Tr.bind (Tr.word L 1 (k + 1) M) fun s k M => Tr.bind (if Tr.isW L [91] k = true then Tr.vars L 2 [60, 58] [93] (k + 1) M else .ok ([], k, M)) fun vs k M => fnR1 L s vs k M from rfl)
  have hfn : ∃ A0 d0, c.fv = .slice A0 fs.length d0 := by
    obtain ⟨xs, h1, h2, h3⟩ := hM.fR
    exact own_form h2.own
  obtain ⟨A0, d0, hA0⟩ := hfn
  have HTv := hid_ hA0
  have c5 : w.cell? ⟨rb, 5, none⟩ = some (.slice A0 fs.length d0) := by
    obtain ⟨_, _, _, _, _, _, c5, _⟩ := h.cells
    rw [c5, hA0]
  have HRm := hid_ (room_c h fs.length 64)
  obtain ⟨i0, hi0, hz0, hz1, hz2⟩ := info_parts Tryz.infoF
  clear h hM hA0
  generalize Tr.func L fs.length k ns = A at *
  unfold rv
  unfold rv at HRm
  go_enter Tryz.func68, Tryz.ntmps68
  go_wp2_with fail
  refine (HRm.out).mono ?_
  intro e w1 hE
  rcases hE.cases with ⟨u1, k1, ns1, hA, rfl, hR, hF⟩ | ⟨er, hA, rfl, hB⟩
  rotate_left
  · have HAe := hid_ (HE.out.trans (Tr.bind_err hA))
    have HBe := hid_ (hB)
    clear hE hA hB
    go_wp2_with fail
    rw [HAe.out]
    exact ⟨rfl, rfl, HBe.out⟩
  have HA1 := hid_ (HE.out.trans (Tr.bind_good hA))
  have HF1 := hid_ (hF)
  have HR1 := hid_ hR
  obtain ⟨rfl, rfl⟩ := Tr.room_ok hA
  obtain ⟨c1, f1⟩ := hR.at1
  have hfew := hR.few
  have HS := hid_ (hR.stepI hk2)
  have HWd := hid_ (word_c HS.out.1 1 (by decide))
  unfold rv at HWd
  have HF2 := hid_ (HF1.out.trans HS.out.2)
  clear hE hA hR hF
  go_wp2_with fail
  refine (HWd.out).mono ?_
  intro e w2 hE
  rcases hE.cases with ⟨s2, k2, ns2, hA, rfl, hR, hF⟩ | ⟨er, hA, rfl, hB⟩
  rotate_left
  · have HAe := hid_ (HA1.out.trans (Tr.bind_err hA))
    have HBe := hid_ ((HF2.out.bel HR.out).trans hB)
    clear hE hA hB
    go_wp2_with fail
    rw [HAe.out]
    exact ⟨rfl, rfl, HBe.out⟩
  have HA2 := hid_ (HA1.out.trans (Tr.bind_good hA))
  have HF3 := hid_ (HF2.out.trans hF)
  have HR2 := hid_ hR
  have HBk := hid_ (Blk.new w2 54 #[.string (st s2), .slice none 0 0, .slice none 0 0, .int .i64 0, .int .i64 0])
  have HB3 := hid_ (below_alloc w2 (.cells #[.string (st s2), .slice none 0 0, .slice none 0 0, .int .i64 0, .int .i64 0] 54))
  have hk3 := (Tr.word_ok hA).1
  have HK2 := hid_ hk3
  clear c1 f1 hk3
  clear hE hA hR hF
  go_wp2_with fail
  generalize w2.alloc (Obj.cells #[.string (st s2), .slice none 0 0, .slice none 0 0, .int .i64 0, .int .i64 0] 54) = W3 at HBk HB3 ⊢
  have HR3 := hid_ (HR2.out.below HB3.out)
  have HF4 := hid_ (HF3.out.trans (Fr.of_below HB3.out HR2.out))
  have HFn := hid_ (show FuV w rb w2.heap.size (⟨s2, [], [], 0, 0⟩, .slice none 0 0, .slice none 0 0) W3 from ⟨HBk.out, MyS.nil _ _ _ _ _, MyS.nil _ _ _ _ _, Free.new2 (q := w2.heap.size) HR2.out HB3.out (Nat.le_refl _), HF3.out.kp.size⟩)
  have HM := hid_ (may_c HR3.out [91])
  unfold rv at HM
  clear HBk HB3 HR2 HF3
  refine HM.out.mono ?_
  rintro e w4 ⟨rfl, hR4, hF4⟩
  have HR4 := hid_ hR4
  have HF5 := hid_ (HF4.out.trans hF4)
  have HFn4 := hid_ (HFn.out.to hF4)
  clear hR4 hF4 HM HFn HR3 HF4
  go_upto_if 22 with fail
  go_cut [] (fun wx => ∃ (vs : List Tr.Vr) (vv : Value) (k' : Nat) (ns' : List Tr.Nd), A = fnR1 L s2 vs k' ns' ∧ k2 ≤ k' ∧ FuV w rb w2.heap.size (⟨s2, vs, [], 0, 0⟩, vv, .slice none 0 0) wx ∧ Rd wx rb c L k' ns' ∧ Fr rb w wx)
  case first =>
    cases hb : Tr.isW L [91] k2 with
    | true =>
      have HR5 := hid_ (show Rd w4 rb c L (k2 + 1) ns2 by have := HR4.out; rw [hb] at this; exact this)
      have HA3 := hid_ (HA2.out.trans (congrArg (fun z => Tr.bind z _) (if_pos hb)))
      have HVs := hid_ (vars_c HR5.out (by omega) 2 (by decide) [60, 58] [93])
      unfold rv at HVs
      clear HR4 hb
      go_wp2_with fail
      refine HVs.out.mono ?_
      intro e w6 hE
      rcases hE.cases with ⟨l, k6, ns6, lv, hA, rfl, hR, hF, hl⟩ | ⟨er, hA, rfl, hB⟩
      rotate_left
      · have HAe := hid_ (HA3.out.trans (Tr.bind_err hA))
        have HBe := hid_ ((HF5.out.bel HR.out).trans hB)
        clear hE hA hB
        go_wp2_with fail
        rw [HAe.out]
        exact ⟨rfl, rfl, HBe.out⟩
      have HA4 := hid_ (HA3.out.trans (Tr.bind_good hA))
      have hk6 := vars_on hA
      have hFn6 := HFn4.out.to hF
      obtain ⟨Bl, dl, rfl⟩ := own_form hl.own
      have x1 : w6.cell? ⟨w2.heap.size, 1, none⟩ = some (.slice none 0 0) := hFn6.fB.cell 1
      have g1 : w6.frozen? ⟨w2.heap.size, 1, none⟩ = false := hFn6.fB.frozen 1
      obtain ⟨hn1, hn2, hn3⟩ := hFn6.set hR (HF5.out.trans hF) 1 (.slice Bl l.length dl) (x' := (⟨s2, l, [], 0, 0⟩, .slice Bl l.length dl, .slice none 0 0)) rfl (hl.base HF5.out.kp.size) hFn6.ps
      have HN1 := hid_ hn1
      have HN2 := hid_ hn2
      have HN3 := hid_ hn3
      have HK6 := hid_ hk6
      clear hE hA hR hF hl hFn6 hn1 hn2 hn3 hk6
      go_wp2_with fail
      go_meet
      exact ⟨_, _, _, _, HA4.out, by have := HK6.out; omega, HN1.out, HN2.out, HN3.out⟩
    | false =>
      have HR5 := hid_ (show Rd w4 rb c L k2 ns2 by have := HR4.out; rw [hb] at this; exact this)
      have HA3 := hid_ ((HA2.out.trans (congrArg (fun z => Tr.bind z _) (if_neg (by rw [hb]; decide)))).trans (show _ = fnR1 L s2 [] k2 ns2 from rfl))
      clear HR4 hb
      go_wp2_with fail
      go_meet
      exact ⟨_, _, _, _, HA3.out, Nat.le_refl _, HFn4.out, HR5.out, HF5.out⟩
  case rest =>
    obtain ⟨vs, vv, k3, ns3, hA, hkk, hFn, hR, hF⟩ := hcut
    have HA3 := hid_ (show A = Tr.bind (Tr.must L [40] k3 ns3) fun _ k M => Tr.bind (if Tr.isW L [41] k = true then .ok ([], k + 1, M) else Tr.vars L 1 [58] [41] k M) fun ps k M => fnR2 L s2 vs ps k M from hA)
    have HF6 := hid_ hF
    have HFn6 := hid_ hFn
    have HKK := hid_ hkk
    have HMu := hid_ (must_c hR [40])
    unfold rv at HMu
    clear hA hkk hFn hR hF HFn4 HR4 HF5
    go_wp2_with fail
    refine (HMu.out).mono ?_
    intro e w5 hE
    rcases hE.cases with ⟨u5, k5, ns5, hA, rfl, hR, hF⟩ | ⟨er, hA, rfl, hB⟩
    rotate_left
    · have HAe := hid_ (HA3.out.trans (Tr.bind_err hA))
      have HBe := hid_ ((HF6.out.bel HR.out).trans hB)
      clear hE hA hB
      go_wp2_with fail
      rw [HAe.out]
      exact ⟨rfl, rfl, HBe.out⟩
    have HA5 := hid_ (HA3.out.trans (Tr.bind_good hA))
    have HF7 := hid_ (HF6.out.trans hF)
    have HR6 := hid_ hR
    have hk5 := (Tr.must_ok hA).1
    have HK5 := hid_ hk5
    clear hk5
    have HFn7 := hid_ (HFn6.out.to hF)
    have HM := hid_ (may_c hR [41])
    unfold rv at HM
    clear hE hA hR hF
    go_wp2_with fail
    refine HM.out.mono ?_
    rintro e w6 ⟨rfl, hR6, hF6⟩
    have HR7 := hid_ hR6
    have HF8 := hid_ (HF7.out.trans hF6)
    have HFn8 := hid_ (HFn7.out.to hF6)
    clear hR6 hF6 HM HFn7 HFn6 HR6 HF7 HF6
    go_upto_if 30 with fail
    go_cut [] (fun wx => ∃ (ps : List Tr.Vr) (pv : Value) (k' : Nat) (ns' : List Tr.Nd), A = fnR2 L s2 vs ps k' ns' ∧ k5 ≤ k' ∧ FuV w rb w2.heap.size (⟨s2, vs, ps, 0, 0⟩, vv, pv) wx ∧ Rd wx rb c L k' ns' ∧ Fr rb w wx)
    case first =>
      cases hb : Tr.isW L [41] k5 with
      | true =>
        have HR8 := hid_ (show Rd w6 rb c L (k5 + 1) ns5 by have := HR7.out; rw [hb] at this; exact this)
        have HA6 := hid_ ((HA5.out.trans (congrArg (fun z => Tr.bind z _) (if_pos hb))).trans (show _ = fnR2 L s2 vs [] (k5 + 1) ns5 from rfl))
        clear HR7 hb
        go_wp2_with fail
        go_meet
        exact ⟨_, _, _, _, HA6.out, Nat.le_succ _, HFn8.out, HR8.out, HF8.out⟩
      | false =>
        have HR8 := hid_ (show Rd w6 rb c L k5 ns5 by have := HR7.out; rw [hb] at this; exact this)
        have HA6 := hid_ (HA5.out.trans (congrArg (fun z => Tr.bind z _) (if_neg (by rw [hb]; decide))))
        have HVs := hid_ (vars_c HR8.out (by have := HK5.out; omega) 1 (by decide) [58] [41])
        unfold rv at HVs
        clear HR7 hb
        go_wp2_with fail
        refine HVs.out.mono ?_
        intro e w7 hE
        rcases hE.cases with ⟨l, k7, ns7, lv, hA, rfl, hR, hF, hl⟩ | ⟨er, hA, rfl, hB⟩
        rotate_left
        · have HAe := hid_ (HA6.out.trans (Tr.bind_err hA))
          have HBe := hid_ ((HF8.out.bel HR.out).trans hB)
          clear hE hA hB
          go_wp2_with fail
          rw [HAe.out]
          exact ⟨rfl, rfl, HBe.out⟩
        have HA7 := hid_ (HA6.out.trans (Tr.bind_good hA))
        have hk7 := vars_on hA
        have hFn9 := HFn8.out.to hF
        obtain ⟨Bl, dl, rfl⟩ := own_form hl.own
        have x1 : w7.cell? ⟨w2.heap.size, 2, none⟩ = some (.slice none 0 0) := hFn9.fB.cell 2
        have g1 : w7.frozen? ⟨w2.heap.size, 2, none⟩ = false := hFn9.fB.frozen 2
        obtain ⟨hn1, hn2, hn3⟩ := hFn9.set hR (HF8.out.trans hF) 2 (.slice Bl l.length dl) (x' := (⟨s2, vs, l, 0, 0⟩, vv, .slice Bl l.length dl)) rfl hFn9.vs (hl.base HF8.out.kp.size)
        have HN1 := hid_ hn1
        have HN2 := hid_ hn2
        have HN3 := hid_ hn3
        have HK7 := hid_ hk7
        clear hE hA hR hF hl hFn9 hn1 hn2 hn3 hk7
        go_wp2_with fail
        go_meet
        exact ⟨_, _, _, _, HA7.out, HK7.out, HN1.out, HN2.out, HN3.out⟩
    case rest =>
      obtain ⟨ps, pv, k7, ns7, hA, hkk, hFn, hR, hF⟩ := hcut
      have HA7 := hid_ (show A = Tr.bind (Tr.must L [58] k7 ns7) fun _ k M => Tr.bind (Tr.typ L 1 k M) fun r k M => Tr.bind (Tr.must L [61] k M) fun _ k M => Tr.bind (Tr.expr L 1 k M) fun b k M => .ok (⟨s2, vs, ps, r, b⟩, k, M) from hA)
      have HF9 := hid_ hF
      have HFn9 := hid_ hFn
      have hk7 : 1 ≤ k7 := by have := HK5.out; omega
      have HMu2 := hid_ (must_c hR [58])
      unfold rv at HMu2
      clear hA hkk hFn hR hF HFn8 HR7 HF8
      go_wp2_with fail
      refine (HMu2.out).mono ?_
      intro e w8 hE
      rcases hE.cases with ⟨u8, k8, ns8, hA, rfl, hR, hF⟩ | ⟨er, hA, rfl, hB⟩
      rotate_left
      · have HAe := hid_ (HA7.out.trans (Tr.bind_err hA))
        have HBe := hid_ ((HF9.out.bel HR.out).trans hB)
        clear hE hA hB
        go_wp2_with fail
        rw [HAe.out]
        exact ⟨rfl, rfl, HBe.out⟩
      have HA8 := hid_ (HA7.out.trans (Tr.bind_good hA))
      have HF10 := hid_ (HF9.out.trans hF)
      have HR8 := hid_ hR
      have hk8 := (Tr.must_ok hA).1
      have HK8 := hid_ hk8
      have HFn10 := hid_ (HFn9.out.to hF)
      have HTy := hid_ (typ_all L w8 rb k8 c ns8 (Tr.fuel L) 1 (by omega) (by omega) (by omega) (by omega) (by unfold Tr.fuel; omega) hR)
      unfold rv at HTy
      clear hk8
      clear hE hA hR hF
      go_wp2_with fail
      refine (HTy.out).mono ?_
      intro e w9 hE
      rcases hE.cases with ⟨t9, k9, ns9, hA, rfl, hR, hF⟩ | ⟨er, hA, rfl, hB⟩
      rotate_left
      · have HAe := hid_ (HA8.out.trans (Tr.bind_err hA))
        have HBe := hid_ ((HF10.out.bel HR.out).trans hB)
        clear hE hA hB
        go_wp2_with fail
        rw [HAe.out]
        exact ⟨rfl, rfl, HBe.out⟩
      have HA9 := hid_ (HA8.out.trans (Tr.bind_good hA))
      have HF11 := hid_ (HF10.out.trans hF)
      have HR9 := hid_ hR
      have hk9 := (Tr.prog _).typ hA
      have HFn11 := hid_ (HFn10.out.to hF)
      have x3 : w9.cell? ⟨w2.heap.size, 3, none⟩ = some (.int .i64 0) := HFn11.out.fB.cell 3
      have g3 : w9.frozen? ⟨w2.heap.size, 3, none⟩ = false := HFn11.out.fB.frozen 3
      have hSet := HFn11.out.set hR HF11.out 3 (.int .i64 t9) (x' := (⟨s2, vs, ps, t9, 0⟩, vv, pv)) rfl HFn11.out.vs HFn11.out.ps
      have HSet := hid_ hSet
      have HK9 := hid_ (show 1 ≤ k9 by have := HK8.out; omega)
      have HFs9 := hid_ HSet.out.2.2
      have HMu3 := hid_ (must_c HSet.out.2.1 [61])
      unfold rv at HMu3
      clear hSet hk9
      clear hE hA hR hF
      go_wp2_with fail
      refine (HMu3.out).mono ?_
      intro e w10 hE
      rcases hE.cases with ⟨u10, k10, ns10, hA, rfl, hR, hF⟩ | ⟨er, hA, rfl, hB⟩
      rotate_left
      · have HAe := hid_ (HA9.out.trans (Tr.bind_err hA))
        have HBe := hid_ ((HFs9.out.bel HR.out).trans hB)
        clear hE hA hB
        go_wp2_with fail
        rw [HAe.out]
        exact ⟨rfl, rfl, HBe.out⟩
      have HA10 := hid_ (HA9.out.trans (Tr.bind_good hA))
      have HF12 := hid_ (HFs9.out.trans hF)
      have HR10 := hid_ hR
      have hk10 := (Tr.must_ok hA).1
      have HK10 := hid_ hk10
      have HFn12 := hid_ (HSet.out.1.to hF)
      have HEx := hid_ (expr_all L w10 rb k10 c ns10 (Tr.fuel L) 1 (by omega) (by omega) (by omega) (by omega) (by unfold Tr.fuel; omega) hR)
      unfold rv at HEx
      clear hk10
      clear hE hA hR hF
      go_wp2_with fail
      refine (HEx.out).mono ?_
      intro e w11 hE
      rcases hE.cases with ⟨t11, k11, ns11, hA, rfl, hR, hF⟩ | ⟨er, hA, rfl, hB⟩
      rotate_left
      · have HAe := hid_ (HA10.out.trans (Tr.bind_err hA))
        have HBe := hid_ ((HF12.out.bel HR.out).trans hB)
        clear hE hA hB
        go_wp2_with fail
        rw [HAe.out]
        exact ⟨rfl, rfl, HBe.out⟩
      have HA11 := hid_ (HA10.out.trans (Tr.bind_good hA))
      have HF13 := hid_ (HF12.out.trans hF)
      have HR11 := hid_ hR
      have HFn13 := hid_ (HFn12.out.to hF)
      have x4 : w11.cell? ⟨w2.heap.size, 4, none⟩ = some (.int .i64 0) := HFn13.out.fB.cell 4
      have g4 : w11.frozen? ⟨w2.heap.size, 4, none⟩ = false := HFn13.out.fB.frozen 4
      clear hE hA hR hF
      go_wp2_with fail
      obtain ⟨hn1, hn2, hn3⟩ := HFn13.out.set HR11.out HF13.out 4 (.int .i64 t11) (x' := (⟨s2, vs, ps, t9, t11⟩, vv, pv)) rfl HFn13.out.vs HFn13.out.ps
      have HMd6 := hid_ (HMd.out.fr hn3)
      have HFn6 := hid_ hn1
      have HR6 := hid_ hn2
      have HF7 := hid_ hn3
      clear hn1 hn2 hn3 x3 g3 x4 g4
      generalize w11.setCell ⟨w2.heap.size, 4, none⟩ (.int .i64 t11) = w6 at HMd6 HFn6 HR6 HF7 ⊢
      obtain ⟨Bv, dv, rfl⟩ := own_form (show w6.ownsRow w.heap.size 67 2 vv vs.length (flatV vs) from HFn6.out.vs.own)
      obtain ⟨Bp, dp, rfl⟩ := own_form (show w6.ownsRow w.heap.size 67 2 pv ps.length (flatV ps) from HFn6.out.ps.own)
      have y0 : w6.cell? ⟨w2.heap.size, 0, none⟩ = some (.string (st s2)) := HFn6.out.fB.cell 0
      have y1 : w6.cell? ⟨w2.heap.size, 1, none⟩ = some (.slice Bv vs.length dv) := HFn6.out.fB.cell 1
      have y2 : w6.cell? ⟨w2.heap.size, 2, none⟩ = some (.slice Bp ps.length dp) := HFn6.out.fB.cell 2
      have y3 : w6.cell? ⟨w2.heap.size, 3, none⟩ = some (.int .i64 t9) := HFn6.out.fB.cell 3
      have y4 : w6.cell? ⟨w2.heap.size, 4, none⟩ = some (.int .i64 t11) := HFn6.out.fB.cell 4
      have c6 : w6.cell? ⟨rb, 5, none⟩ = some (.slice A0 fs.length d0) := by
        obtain ⟨_, _, _, _, _, _, c5, _⟩ := HR6.out.cells
        rw [c5, HTv.out]
      have c6' : ∀ o, (w6.alloc o).cell? ⟨rb, 5, none⟩ = some (.slice A0 fs.length d0) := fun o => below_cell (below_alloc w6 o) c6
      obtain ⟨xs, q1, q2, q3⟩ := HMd6.out.fR
      rw [HTv.out] at q2
      have HQ1 := hid_ q1
      have HQ2 := hid_ q2
      have HQ3 := hid_ q3
      have HFo := hid_ (show FdOwn w6 rb (⟨s2, vs, ps, t9, t11⟩, .slice Bv vs.length dv, .slice Bp ps.length dp) from ⟨HFn6.out.vs.owF (Nat.le_of_lt HR.out.rlt), HFn6.out.ps.owF (Nat.le_of_lt HR.out.rlt)⟩)
      clear q1 q2 q3
      have HOW := hid_ (fun (W : World) (h : Below w6.heap.size w6 W) => (show W.ownsRow rb 54 5 (.slice A0 fs.length d0) fs.length (flatF xs) by exact own_kp HQ2.out.own (Kp.of_below h fun _ => False) (fun _ _ e => e)))
      have HLe := hid_ (Nat.le_of_lt HR6.out.rlt)
      have HBl := hid_ (HF7.out.bel HR.out)
      go_region_law (first
        | (refine step_append_any (by rfl) (.tmp 49) (.tmp 51) 28 (by rfl) rb 54 i0 _ 5 80 Tryz.underlying28 hi0 hz0 hz1 hz2 rfl (by omega) (.slice A0 fs.length d0) fs.length _ (by rfl) (HOW.out _ (by first | exact (Below.refl _ _).drew.alloc (Nat.le_refl _) _ | exact ((Below.refl _ _).alloc (Nat.le_refl _) _).drew | exact below_alloc _ _)) (some ⟨w6.heap.size, 0, none⟩) 1 1 [.string (st s2), .slice Bv vs.length dv, .slice Bp ps.length dp, .int .i64 t9, .int .i64 t11] (by rfl) rfl (fun h => by cases h) (by intro ad had j u hu; injection had with had; subst had; exact World.news_of_block (heap_alloc_new _ _) j u hu) (by simp [Value.oneCell']) (by unfold maxLen; omega) (by omega) (Nat.le_trans HLe.out (by first | exact ((Below.refl w6.heap.size w6).drew.alloc (Nat.le_refl _) _).size | exact (below_alloc _ _).size)) ?_; intro A1 c1 w7 hown hgrow hat; obtain ⟨e6, g6, hRn, hBn, hMn⟩ := HMd6.out.func HTv.out HQ1.out HQ2.out HQ3.out HFo.out HR6.out (by first | exact (Below.refl _ _).drew.alloc (Nat.le_refl _) _ | exact ((Below.refl _ _).alloc (Nat.le_refl _) _).drew | exact below_alloc _ _) hgrow hown hat; have HRn := hid_ hRn; have HBn := hid_ hBn; have HMn := hid_ hMn; clear hRn hBn hMn hown hgrow hat)
        | fail)
      all_goals
        go_wp2_with fail
        go_end0
        rw [HA11.out]
        exact ⟨rfl, HBl.out.trans HBn.out, _, HRn.out, HMn.out, rfl⟩
end
end Go.Proofs.YtmgjmagniefhoaaGreatDoor
