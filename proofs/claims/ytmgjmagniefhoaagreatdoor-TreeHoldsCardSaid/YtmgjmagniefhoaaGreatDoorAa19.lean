/- What stands in these texts of the proof: Yf Yg Yh Pc. Conditions: those that each theorem names. -/
import Derived.Test.YtmgjmagniefhoaaGreatDoorAa18
import Derived.Defers
import Derived.Recover
import Derived.Test.YtmgjmagniefhoaaGreatDoorAa06
import Derived.Test.YtmgjmagniefhoaaGreatDoorAa07
import Derived.Test.YtmgjmagniefhoaaGreatDoorAa08
/- The tree's reader: module. Conditions: those that each theorem names. -/
namespace Go.Proofs.YtmgjmagniefhoaaGreatDoor
open Go.RowKit Go.Maps
section
variable {w w' w0 : World} {rb k : Nat} {c : RC} {L : List Lx.Wd} {ns : List Tr.Nd} {im : List (List UInt8)} {ty : List Tr.Vr} {fs : List Tr.Fd}
theorem fld0 (a b c d : Value) (W : World) : (Instr.field 88 (.agg #[a, b, c, d]) 0).run Tryz.prog W = .ok a W := by kernel_rfl
abbrev Mt := List UInt8 × List (List UInt8) × List Tr.Vr × List Tr.Fd
def mdR3 (L : List Lx.Wd) (s : List UInt8) (is : List (List UInt8)) (ts : List Tr.Vr) (f : Nat) (l : List Tr.Fd) (k : Nat) (M : List Tr.Nd) : Tr.An Mt :=
  Tr.bind (Tr.funcsF L f l k M) fun fs k M => if (Tr.now L k).kind = 7 then (.ok ((s, is, ts, fs), k, M) : Tr.An Mt) else .error ((Tr.now L k).pos, 30)
def mdR2 (L : List Lx.Wd) (s : List UInt8) (is : List (List UInt8)) (f : Nat) (l : List Tr.Vr) (k : Nat) (M : List Tr.Nd) : Tr.An Mt :=
  Tr.bind (Tr.declsF L f l k M) fun ts k M => mdR3 L s is ts (Tr.fuel L) [] k M
def mdR1 (L : List Lx.Wd) (s : List UInt8) (f : Nat) (l : List (List UInt8)) (k : Nat) (M : List Tr.Nd) : Tr.An Mt :=
  Tr.bind (Tr.importsF L f l k M) fun is k M => mdR2 L s is (Tr.fuel L) [] k M
/-- A module, plainly, ahead of its nodes. -/
def moduleA (L : List Lx.Wd) : Tr.An Mt := Tr.bind (Tr.must L [109, 111, 100, 117, 108, 101] 0 []) fun _ k M => Tr.bind (Tr.word L 1 k M) fun s k M => mdR1 L s (Tr.fuel L) [] k M
theorem module_is (L : List Lx.Wd) : Tr.module_ L = match moduleA L with
  | .error e => .error e
  | .ok ((s, is, ts, fs), _, M) => .ok ⟨s, is, ts, fs, M⟩ := rfl
theorem Rd.c2 (h : Rd w rb c L k ns) : w.cell? ⟨rb, 2, none⟩ = some c.nm := by
  obtain ⟨_, _, _, c2, _⟩ := h.cells
  exact c2
/-- An import is put behind the others. -/
theorem MdR.imp {iv iv' : Value} {W w1 : World} {x : List UInt8} (h : MdR w rb c im ty fs) (hiv : c.iv = iv) (hR : Rd w rb c L k ns) (hW : Below w.heap.size w W) (hg : W.grownBy w1 iv.ownBlock) (hown : w1.ownsRow rb 9 1 iv' (im.length + 1) (strs im ++ [.string (st x)])) (hat : ∀ q, iv'.ownBlock = some q → iv.ownBlock = some q ∨ W.heap.size ≤ q) :
    w1.cell? ⟨rb, 3, none⟩ = some iv ∧ w1.frozen? ⟨rb, 3, none⟩ = false ∧ Rd (w1.setCell ⟨rb, 3, none⟩ iv') rb { c with iv := iv' } L k ns ∧ Below rb w (w1.setCell ⟨rb, 3, none⟩ iv') ∧ MdR (w1.setCell ⟨rb, 3, none⟩ iv') rb { c with iv := iv' } (im ++ [x]) ty fs := by
  subst hiv
  obtain ⟨hm, hr, hk, hfree⟩ := h.iR.grown hR hW hg hown hat
  obtain ⟨hr2, hf2⟩ := hr.setC (i := 3) (u := iv') (c' := { c with iv := iv' }) (fun nv => rfl) rfl
  obtain ⟨_, _, _, _, c3, _⟩ := hr.cells
  obtain ⟨xs, h1, h2, h3⟩ := h.fR
  have hb : Below rb w w1 := hk.toBelow (Nat.le_of_lt hR.rlt) (fun q hq e => by have := (h.iR.free q e).1; omega)
  have t1 := h.tR.far hk (h.tR.types h.iR (by decide)) hfree
  have f1 := h2.far hk (h2.types h.iR (by decide)) hfree
  have g1 : ∀ y ∈ xs, FdOwn w1 rb y := fun y hy => ⟨(h3 y hy).1.far hk ((h3 y hy).1.types h.iR (by decide)) hfree, (h3 y hy).2.far hk ((h3 y hy).2.types h.iR (by decide)) hfree⟩
  refine ⟨c3, hr.frz 3, hr2, hb.trans (hf2.bel hr), ?_, t1.fr hf2, xs, h1, f1.fr hf2, fun y hy => ⟨(g1 y hy).1.fr hf2, (g1 y hy).2.fr hf2⟩⟩
  rw [show strs (im ++ [x]) = strs im ++ [.string (st x)] by simp [strs], List.length_append]
  exact hm.fr hf2
theorem decl_on {m : Int} {M : List Tr.Nd} {x : Tr.Vr} {k' : Nat} {M' : List Tr.Nd} (h : Tr.decl L m k M = .ok (x, k', M')) : k < k' ∧ m < 64 := by
  unfold Tr.decl at h
  obtain ⟨_, k1, M1, h1, g1⟩ := Tr.bind_ok h
  have := Tr.room_lt h1
  obtain ⟨rfl, rfl⟩ := Tr.room_ok h1
  obtain ⟨s, k2, M2, h2, g2⟩ := Tr.bind_ok g1
  obtain ⟨rfl, rfl⟩ := Tr.word_ok h2
  obtain ⟨_, k3, M3, h3, g3⟩ := Tr.bind_ok g2
  obtain ⟨rfl, rfl⟩ := Tr.must_ok h3
  obtain ⟨t, k4, M4, h4, g4⟩ := Tr.bind_ok g3
  have := (Tr.prog _).typ h4
  obtain ⟨_, rfl, _⟩ := Tr.ok_inj g4
  omega
theorem func_on {m : Int} {M : List Tr.Nd} {x : Tr.Fd} {k' : Nat} {M' : List Tr.Nd} (h : Tr.func L m k M = .ok (x, k', M')) : k < k' ∧ m < 64 := by
  obtain ⟨_, k1, M1, h1, g1⟩ := Tr.bind_ok h
  have := Tr.room_lt h1
  obtain ⟨rfl, rfl⟩ := Tr.room_ok h1
  obtain ⟨s, k2, M2, h2, g2⟩ := Tr.bind_ok g1
  obtain ⟨rfl, rfl⟩ := Tr.word_ok h2
  obtain ⟨vs, k3, M3, h3, g3⟩ := Tr.bind_ok g2
  have a3 : k1 + 1 + 1 ≤ k3 := by
    split at h3
    · have := vars_on h3; omega
    · obtain ⟨_, rfl, _⟩ := Tr.ok_inj h3; omega
  obtain ⟨_, k4, M4, h4, g4⟩ := Tr.bind_ok g3
  obtain ⟨rfl, rfl⟩ := Tr.must_ok h4
  obtain ⟨ps, k5, M5, h5, g5⟩ := Tr.bind_ok g4
  have a5 : k3 + 1 ≤ k5 := by
    split at h5
    · obtain ⟨_, rfl, _⟩ := Tr.ok_inj h5; omega
    · exact vars_on h5
  obtain ⟨_, k6, M6, h6, g6⟩ := Tr.bind_ok g5
  obtain ⟨rfl, rfl⟩ := Tr.must_ok h6
  obtain ⟨t, k7, M7, h7, g7⟩ := Tr.bind_ok g6
  have := (Tr.prog _).typ h7
  obtain ⟨_, k8, M8, h8, g8⟩ := Tr.bind_ok g7
  obtain ⟨rfl, rfl⟩ := Tr.must_ok h8
  obtain ⟨b, k9, M9, h9, g9⟩ := Tr.bind_ok g8
  have := (Tr.prog _).expr h9
  obtain ⟨_, rfl, _⟩ := Tr.ok_inj g9
  omega
/-- The loops of module. -/
def ImR (L : List Lx.Wd) (rb : Nat) (w wr : World) (A : Tr.An Mt) (s : List UInt8) (g : Nat) : Prop :=
  ∃ (c : RC) (k : Nat) (ns : List Tr.Nd) (l : List (List UInt8)) (f : Nat), Rd wr rb c L k ns ∧ MdR wr rb c l [] [] ∧ c.nm = .string (st s) ∧ l.length ≤ 16 ∧ A = mdR1 L s f l k ns ∧ L.length - k + 1 ≤ f ∧ 1 ≤ k ∧ L.length - k + 1 ≤ g ∧ Below rb w wr
def DeR (L : List Lx.Wd) (rb : Nat) (w wr : World) (A : Tr.An Mt) (s : List UInt8) (is : List (List UInt8)) (g : Nat) : Prop :=
  ∃ (c : RC) (k : Nat) (ns : List Tr.Nd) (l : List Tr.Vr) (f : Nat), Rd wr rb c L k ns ∧ MdR wr rb c is l [] ∧ c.nm = .string (st s) ∧ l.length ≤ 64 ∧ A = mdR2 L s is f l k ns ∧ L.length - k + 1 ≤ f ∧ 1 ≤ k ∧ L.length - k + 1 ≤ g ∧ Below rb w wr
def FuR (L : List Lx.Wd) (rb : Nat) (w wr : World) (A : Tr.An Mt) (s : List UInt8) (is : List (List UInt8)) (ts : List Tr.Vr) (g : Nat) : Prop :=
  ∃ (c : RC) (k : Nat) (ns : List Tr.Nd) (l : List Tr.Fd) (f : Nat), Rd wr rb c L k ns ∧ MdR wr rb c is ts l ∧ c.nm = .string (st s) ∧ l.length ≤ 64 ∧ A = mdR3 L s is ts f l k ns ∧ L.length - k + 1 ≤ f ∧ 1 ≤ k ∧ L.length - k + 1 ≤ g ∧ Below rb w wr
set_option maxHeartbeats 8000000 in
set_option maxRecDepth 100000 in
theorem module_c (h : Rd w rb c L 0 []) (hM : MdR w rb c [] [] []) : Calls Tryz.prog 31 #[rv rb] w (EPD (fun x c w' => c.nm = .string (st x.1) ∧ MdR w' rb c x.2.1 x.2.2.1 x.2.2.2) w rb L (moduleA L)) := by
  have HR := hid_ h
  have HMd := hid_ hM
  have HE := hid_ (show moduleA L = Tr.bind (Tr.must L [109, 111, 100, 117, 108, 101] 0 []) fun _ k M => Tr.bind (Tr.word L 1 k M) fun s k M => mdR1 L s (Tr.fuel L) [] k M from rfl)
  have HMu := hid_ (must_c h [109, 111, 100, 117, 108, 101])
  obtain ⟨i0, hi0, hz0, hz1, hz2⟩ := info_parts Tryz.infoS
  clear h hM
  generalize moduleA L = A at *
  unfold rv
  unfold rv at HMu
  go_enter Tryz.func31, Tryz.ntmps31
  go_wp2_with fail
  refine (HMu.out).mono ?_
  intro e w1 hE
  rcases hE.cases with ⟨u1, k1, ns1, hA, rfl, hR, hF⟩ | ⟨er, hA, rfl, hB⟩
  rotate_left
  · have HAe := hid_ (HE.out.trans (Tr.bind_err hA))
    have HBe := hid_ (hB)
    clear hE hA hB
    go_wp2_with fail
    rw [HAe.out]
    exact ⟨rfl, rfl, HBe.out⟩
  have HA1 := hid_ (HE.out.trans (Tr.bind_good hA))
  have HF1 := hid_ (hF)
  have HR1 := hid_ hR
  have hk1 := hid_ (Tr.must_ok hA).1
  have HWd := hid_ (word_c hR 1 (by decide))
  unfold rv at HWd
  clear hE hA hR hF
  go_wp2_with fail
  refine (HWd.out).mono ?_
  intro e w2 hE
  rcases hE.cases with ⟨s2, k2, ns2, hA, rfl, hR, hF⟩ | ⟨er, hA, rfl, hB⟩
  rotate_left
  · have HAe := hid_ (HA1.out.trans (Tr.bind_err hA))
    have HBe := hid_ ((HF1.out.bel HR.out).trans hB)
    clear hE hA hB
    go_wp2_with fail
    rw [HAe.out]
    exact ⟨rfl, rfl, HBe.out⟩
  have HA2 := hid_ (HA1.out.trans (Tr.bind_good hA))
  have HF2 := hid_ (HF1.out.trans hF)
  have HR2 := hid_ hR
  have hk2 := hid_ (Tr.word_ok hA).1
  have x2 := hR.c2
  have g2 := hR.frz 2
  clear hE hA hR hF
  go_wp2_with fail
  have hS2 := HR2.out.setC (i := 2) (u := .string (st s2)) (c' := { c with nm := .string (st s2) }) (fun nv => rfl) rfl
  have HMd2 := hid_ ((HMd.out.fr HF2.out).fr hS2.2)
  have HIm := hid_ (show ImR L rb w (w2.setCell ⟨rb, 2, none⟩ (.string (st s2))) A s2 (L.length + 1) from ⟨{ c with nm := .string (st s2) }, k2, ns2, [], Tr.fuel L, hS2.1, ⟨HMd2.out.iR, HMd2.out.tR, HMd2.out.fR⟩, rfl, by simp, HA2.out, by unfold Tr.fuel; omega, by have := hk2.out; omega, by omega, (HF2.out.trans hS2.2).bel HR.out⟩)
  clear hS2 HMd2 x2 g2 HMd HWd HMu HE HA1 HA2 HF1 HF2 HR1 HR2
  go_loopg [] (L.length + 1) (fun g wr => ImR L rb w wr A s2 g)
  case atStart => exact HIm.out
  case round =>
    obtain ⟨c, k, ns, l, f, hR, hM, hnm, hl, hA, hf, hk, hg, hB⟩ := hrel
    obtain ⟨f, rfl⟩ : ∃ f', f = f' + 1 := ⟨f - 1, by omega⟩
    have HR1 := hid_ hR
    have HMd := hid_ hM
    have HNm := hid_ hnm
    have HB := hid_ hB
    have HA := hid_ (show A = Tr.bind (if Tr.isW L [105, 109, 112, 111, 114, 116] k = true then Tr.bind (Tr.room L l.length 16 (k + 1) ns) fun _ k M => Tr.bind (Tr.fresh L l 1 k M) fun s k M => Tr.importsF L f (l ++ [s]) k M else .ok (l, k, ns)) fun is k M => mdR2 L s2 is (Tr.fuel L) [] k M from by rw [hA]; unfold mdR1; rw [Tr.importsF])
    have HM := hid_ (may_c hR [105, 109, 112, 111, 114, 116])
    have HLt := hid_ (fun hs => isw_lt (s := [105, 109, 112, 111, 114, 116]) hR hs)
    unfold rv at HM
    clear hR hM hnm hA hB HIm
    cases hb : Tr.isW L [105, 109, 112, 111, 114, 116] k with
    | true =>
      rw [hb] at HM HA HLt
      have hkl := HLt.out rfl
      have HA3 := hid_ (HA.out.trans (show _ = Tr.bind (Tr.room L l.length 16 (k + 1) ns) fun _ k M => Tr.bind (Tr.fresh L l 1 k M) fun s k M => mdR1 L s2 f (l ++ [s]) k M from by rw [if_pos rfl, Tr.bind_bind]; simp only [Tr.bind_bind]; rfl))
      clear HA HLt
      go_wp2_with fail
      refine HM.out.mono ?_
      rintro e w3 ⟨rfl, hR3, hF3⟩
      have HR3 := hid_ (show Rd w3 rb c L (k + 1) ns from hR3)
      have HMd3 := hid_ (HMd.out.fr hF3)
      have HF3 := hid_ (Fr.refl HR3.out)
      have HB3 := hid_ (HB.out.trans (hF3.bel HR1.out))
      obtain ⟨A0, d0, hA0⟩ := own_form HMd3.out.iR.own
      have HIv := hid_ hA0
      have c3 : w3.cell? ⟨rb, 3, none⟩ = some (.slice A0 l.length d0) := by
        obtain ⟨_, _, _, _, c3, _⟩ := HR3.out.cells
        rw [c3, hA0]
      have HRm := hid_ (room_c HR3.out l.length 16)
      unfold rv at HRm
      clear hR3 hF3 hA0
      go_wp2_with fail
      refine HRm.out.mono ?_
      intro e w4 hE
      rcases hE.cases with ⟨u4, k4, ns4, hA, rfl, hR, hF⟩ | ⟨er, hA, rfl, hB⟩
      rotate_left
      · have HAe := hid_ (HA3.out.trans (Tr.bind_err hA))
        have HBe := hid_ (HB3.out.trans hB)
        clear hE hA hB
        go_wp2_with fail
        rw [HAe.out]
        exact ⟨rfl, rfl, HBe.out⟩
      have hl16 := Tr.room_lt hA
      have HA4 := hid_ (HA3.out.trans (Tr.bind_good hA))
      obtain ⟨rfl, rfl⟩ := Tr.room_ok hA
      have HR4 := hid_ hR
      have HB4 := hid_ (HB3.out.trans (hF.bel HR3.out))
      have HMd4 := hid_ (HMd3.out.fr hF)
      have c4 : w4.cell? ⟨rb, 3, none⟩ = some (.slice A0 l.length d0) := by
        obtain ⟨_, _, _, _, c3, _⟩ := hR.cells
        rw [c3, HIv.out]
      clear hE hA hR hF c3
      go_wp2_with fail
      go_region_law (first
        | (refine step_append_any (by rfl) (.tmp 25) (.tmp 33) 26 (by rfl) rb 9 i0 _ 1 16 Tryz.underlying26 hi0 hz0 hz1 hz2 rfl (by omega) (.slice A0 l.length d0) l.length _ (by rfl) HO5.out (some ⟨w5.heap.size, 0, none⟩) 1 1 [.string (st x)] (by rfl) rfl (fun h => by cases h) (by intro ad had j u hu; injection had with had; subst had; exact World.news_of_block (heap_alloc_new _ _) j u hu) (by simp [Value.oneCell']) (by unfold maxLen; omega) (by omega) (Nat.le_trans (Nat.le_of_lt HR5.out.rlt) (below_alloc _ _).size) ?_; intro A1 c1 w6 hown hgrow hat; obtain ⟨e1, e2, hr, hb2, hm2⟩ := HMd5.out.imp (x := x) HIv.out HR5.out (below_alloc _ _) hgrow hown hat; have HRk := hid_ hr; have HBk := hid_ hb2; have HMk := hid_ hm2; clear hr hb2 hm2 hown hgrow hat)
        | (go_simp; go_at_call 65; refine (fresh_c (HR4.out.drew 1) (by rw [← HIv.out]; exact (HMd4.out.fr (Fr.drew HR4.out 1)).iR.own) (by omega) 1 (by decide)).mono ?_; intro e w5 hE; rcases hE.cases with ⟨x, k5, ns5, hA, rfl, hR, hF⟩ | ⟨er, hA, rfl, hB⟩; rotate_left; (focus (have HAe := hid_ (HA4.out.trans (Tr.bind_err hA)); have HBe := hid_ (HB4.out.trans ((Fr.drew HR4.out 1).bel HR4.out |>.trans hB)); have HQ := hid_ (show EPD (fun x c w' => c.nm = .string (st x.1) ∧ MdR w' rb c x.2.1 x.2.2.1 x.2.2.2) w rb L A (.panicked (thrown er)) w5 from by rw [HAe.out]; exact ⟨rfl, HBe.out⟩); clear hE hA hB; exact ⟨rfl, HQ.out⟩)); have hgo := hid_ (Tr.fresh_ok hA).1; have HA5 := hid_ (HA4.out.trans (Tr.bind_good hA)); have HR5 := hid_ hR; have HB5 := hid_ (HB4.out.trans (((Fr.drew HR4.out 1).trans hF).bel HR4.out)); have HMd5 := hid_ (HMd4.out.fr ((Fr.drew HR4.out 1).trans hF)); have HO5 := hid_ (show (w5.alloc (.cells #[.string (st x)] 9)).ownsRow rb 9 1 (.slice A0 l.length d0) l.length (strs l) from by rw [← HIv.out]; exact (HMd5.out.iR.fr (Fr.of_below (below_alloc w5 _) hR)).own); have c5 : w5.cell? ⟨rb, 3, none⟩ = some (.slice A0 l.length d0) := (by obtain ⟨_, _, _, _, c3, _⟩ := hR.cells; rw [c3, HIv.out]); have c5' : ∀ o, (w5.alloc o).cell? ⟨rb, 3, none⟩ = some (.slice A0 l.length d0) := (fun o => below_cell (below_alloc w5 o) c5); clear hE hA hR hF)
        | fail)
      all_goals
        go_wp2_with fail
        go_roundg (gk - 1)
        case rel => exact ⟨_, k5, ns5, l ++ [x], f, HRk.out, HMk.out, HNm.out, by rw [List.length_append]; simp; omega, HA5.out, by have := hgo.out; omega, by have := hgo.out; omega, by have := hgo.out; omega, HB5.out.trans HBk.out⟩
        case measure => omega
    | false =>
      rw [hb] at HM HA
      have HA3 := hid_ (HA.out.trans (show _ = mdR2 L s2 l (Tr.fuel L) [] k ns from by rw [if_neg (by decide)]; rfl))
      clear HA HLt
      go_wp2_with fail
      refine HM.out.mono ?_
      rintro e w3 ⟨rfl, hR3, hF3⟩
      have HDe := hid_ (show DeR L rb w w3 A s2 l (L.length + 1) from ⟨c, k, ns, [], Tr.fuel L, hR3, HMd.out.fr hF3, HNm.out, by simp, HA3.out, by unfold Tr.fuel; omega, hk, by omega, HB.out.trans (hF3.bel HR1.out)⟩)
      clear hR3 hF3 HM HA3 HMd HB HR1
      go_wp2_with fail
      go_loopg [] (L.length + 1) (fun g wr => DeR L rb w wr A s2 l g)
      case atStart => exact HDe.out
      case round =>
        obtain ⟨c, k, ns, ts, f, hR, hM, hnm, hl, hA, hf, hk, hg, hB⟩ := hrel
        obtain ⟨f, rfl⟩ : ∃ f', f = f' + 1 := ⟨f - 1, by omega⟩
        have HR1 := hid_ hR
        have HMd := hid_ hM
        have HNm := hid_ hnm
        have HB := hid_ hB
        have HA := hid_ (show A = Tr.bind (if Tr.isW L [116, 121, 112, 101] k = true then Tr.bind (Tr.decl L ts.length k ns) fun x k M => Tr.declsF L f (ts ++ [x]) k M else .ok (ts, k, ns)) fun ts k M => mdR3 L s2 l ts (Tr.fuel L) [] k M from by rw [hA]; unfold mdR2; rw [Tr.declsF])
        have HI := hid_ (is_c hR [116, 121, 112, 101])
        have HLt := hid_ (fun hs => isw_lt (s := [116, 121, 112, 101]) hR hs)
        unfold rv at HI
        clear hR hM hnm hA hB HDe
        cases hb : Tr.isW L [116, 121, 112, 101] k with
        | true =>
          rw [hb] at HI HA HLt
          have hkl := HLt.out rfl
          have HA3 := hid_ (HA.out.trans (show _ = Tr.bind (Tr.decl L ts.length k ns) fun x k M => mdR2 L s2 l f (ts ++ [x]) k M from by rw [if_pos rfl, Tr.bind_bind]; rfl))
          clear HA HLt
          go_wp2_with fail
          refine HI.out.mono ?_
          rintro e w3 ⟨rfl, hb3⟩
          have HR3 := hid_ (HR1.out.below hb3)
          have HMd3 := hid_ (HMd.out.fr (Fr.of_below hb3 HR1.out))
          have HB3 := hid_ (HB.out.trans ((Fr.of_below hb3 HR1.out).bel HR1.out))
          have HDc := hid_ (decl_c HR3.out HMd3.out hl hkl)
          unfold rv at HDc
          clear hb3
          go_wp2_with fail
          refine HDc.out.mono ?_
          intro e w4 hE
          rcases hE.cases with ⟨x, k4, ns4, c4, hA, rfl, hB, hR, hM⟩ | ⟨er, hA, rfl, hB⟩
          rotate_left
          · have HAe := hid_ (HA3.out.trans (Tr.bind_err hA))
            have HBe := hid_ (HB3.out.trans hB)
            clear hE hA hB
            go_wp2_with fail
            rw [HAe.out]
            exact ⟨rfl, rfl, HBe.out⟩
          have hgo := decl_on hA
          have HA4 := hid_ (HA3.out.trans (Tr.bind_good hA))
          have HRk := hid_ hR
          have HMk := hid_ hM
          have HBk := hid_ (HB3.out.trans hB)
          clear hE hA hR hM hB
          go_wp2_with fail
          go_roundg (gk - 1)
          case rel => exact ⟨_, k4, ns4, ts ++ [x], f, HRk.out, HMk.out.1, HMk.out.2.trans HNm.out, by rw [List.length_append]; simp; omega, HA4.out, by omega, by omega, by omega, HBk.out⟩
          case measure => omega
        | false =>
          rw [hb] at HI HA
          have HA3 := hid_ (HA.out.trans (show _ = mdR3 L s2 l ts (Tr.fuel L) [] k ns from by rw [if_neg (by decide)]; rfl))
          clear HA HLt
          go_wp2_with fail
          refine HI.out.mono ?_
          rintro e w3 ⟨rfl, hb3⟩
          have HFu := hid_ (show FuR L rb w w3 A s2 l ts (L.length + 1) from ⟨c, k, ns, [], Tr.fuel L, HR1.out.below hb3, HMd.out.fr (Fr.of_below hb3 HR1.out), HNm.out, by simp, HA3.out, by unfold Tr.fuel; omega, hk, by omega, HB.out.trans ((Fr.of_below hb3 HR1.out).bel HR1.out)⟩)
          clear hb3 HI HA3 HMd HB HR1
          go_wp2_with fail
          go_loopg [] (L.length + 1) (fun g wr => FuR L rb w wr A s2 l ts g)
          case atStart => exact HFu.out
          case round =>
            obtain ⟨c, k, ns, fs, f, hR, hM, hnm, hl, hA, hf, hk, hg, hB⟩ := hrel
            obtain ⟨f, rfl⟩ : ∃ f', f = f' + 1 := ⟨f - 1, by omega⟩
            have HR1 := hid_ hR
            have HMd := hid_ hM
            have HNm := hid_ hnm
            have HB := hid_ hB
            have HA := hid_ (show A = Tr.bind (if Tr.isW L [102, 110] k = true then Tr.bind (Tr.func L fs.length k ns) fun x k M => Tr.funcsF L f (fs ++ [x]) k M else .ok (fs, k, ns)) fun fs k M => if (Tr.now L k).kind = 7 then (.ok ((s2, l, ts, fs), k, M) : Tr.An Mt) else .error ((Tr.now L k).pos, 30) from by rw [hA]; unfold mdR3; rw [Tr.funcsF])
            have HI := hid_ (is_c hR [102, 110])
            have HLt := hid_ (fun hs => isw_lt (s := [102, 110]) hR hs)
            unfold rv at HI
            clear hR hM hnm hA hB HFu
            cases hb : Tr.isW L [102, 110] k with
            | true =>
              rw [hb] at HI HA HLt
              have hkl := HLt.out rfl
              have HA3 := hid_ (HA.out.trans (show _ = Tr.bind (Tr.func L fs.length k ns) fun x k M => mdR3 L s2 l ts f (fs ++ [x]) k M from by rw [if_pos rfl, Tr.bind_bind]; rfl))
              clear HA HLt
              go_wp2_with fail
              refine HI.out.mono ?_
              rintro e w3 ⟨rfl, hb3⟩
              have HR3 := hid_ (HR1.out.below hb3)
              have HMd3 := hid_ (HMd.out.fr (Fr.of_below hb3 HR1.out))
              have HB3 := hid_ (HB.out.trans ((Fr.of_below hb3 HR1.out).bel HR1.out))
              have HDc := hid_ (fn_c HR3.out HMd3.out hl hkl)
              unfold rv at HDc
              clear hb3
              go_wp2_with fail
              refine HDc.out.mono ?_
              intro e w4 hE
              rcases hE.cases with ⟨x, k4, ns4, c4, hA, rfl, hB, hR, hM⟩ | ⟨er, hA, rfl, hB⟩
              rotate_left
              · have HAe := hid_ (HA3.out.trans (Tr.bind_err hA))
                have HBe := hid_ (HB3.out.trans hB)
                clear hE hA hB
                go_wp2_with fail
                rw [HAe.out]
                exact ⟨rfl, rfl, HBe.out⟩
              have hgo := func_on hA
              have HA4 := hid_ (HA3.out.trans (Tr.bind_good hA))
              have HRk := hid_ hR
              have HMk := hid_ hM
              have HBk := hid_ (HB3.out.trans hB)
              clear hE hA hR hM hB
              go_wp2_with fail
              go_roundg (gk - 1)
              case rel => exact ⟨_, k4, ns4, fs ++ [x], f, HRk.out, HMk.out.1, HMk.out.2.trans HNm.out, by rw [List.length_append]; simp; omega, HA4.out, by omega, by omega, by omega, HBk.out⟩
              case measure => omega
            | false =>
              rw [hb] at HI HA
              have HA3 := hid_ (HA.out.trans (show _ = if (Tr.now L k).kind = 7 then (.ok ((s2, l, ts, fs), k, ns) : Tr.An Mt) else .error ((Tr.now L k).pos, 30) from by rw [if_neg (by decide)]; rfl))
              clear HA HLt
              go_wp2_with fail
              refine HI.out.mono ?_
              rintro e w3 ⟨rfl, hb3⟩
              have HR3 := hid_ (HR1.out.below hb3)
              have HMd3 := hid_ (HMd.out.fr (Fr.of_below hb3 HR1.out))
              have HB3 := hid_ (HB.out.trans ((Fr.of_below hb3 HR1.out).bel HR1.out))
              have HN := hid_ (now_c HR3.out)
              unfold rv wordV at HN
              clear hb3
              go_wp2_with fail
              refine HN.out.mono ?_
              rintro e w4 ⟨rfl, hb4⟩
              have HR4 := hid_ (HR3.out.below hb4)
              have HMd4 := hid_ (HMd3.out.fr (Fr.of_below hb4 HR3.out))
              have HB4 := hid_ (HB3.out.trans ((Fr.of_below hb4 HR3.out).bel HR3.out))
              have q0 := fld0 (.int .i64 (Tr.now L k).kind) (.string (st (Tr.now L k).text)) (.int .i64 (Tr.now L k).num) (.int .i64 (Tr.now L k).pos) w4
              clear hb4
              by_cases h7 : (Tr.now L k).kind = 7
              · have q7 : ((Tr.now L k).kind != 7) = false := by rw [h7]; rfl
                have HA4 := hid_ (HA3.out.trans (if_pos h7))
                clear h7 HA3
                go_wp2_with fail
                go_end0
                rw [HA4.out]
                exact ⟨rfl, HB4.out, _, HR4.out, HNm.out, HMd4.out⟩
              · have q7 : ((Tr.now L k).kind != 7) = true := by simp [h7]
                have HA4 := hid_ (HA3.out.trans (if_neg h7))
                have HFl := hid_ (fail_c HR4.out 30)
                unfold rv at HFl
                clear h7 HA3
                go_wp2_with fail
                refine HFl.out.mono ?_
                rintro e w5 ⟨rfl, hb5⟩
                have HB5 := hid_ (HB4.out.trans hb5)
                clear hb5
                go_wp2_with fail
                rw [HA4.out]
                exact ⟨rfl, rfl, HB5.out⟩
end
end Go.Proofs.YtmgjmagniefhoaaGreatDoor

/- Parse: its deferred closure. Conditions: those that each theorem names. -/
namespace Go.Proofs.YtmgjmagniefhoaaGreatDoor
open Go.RowKit Go.Maps
section
def zeroM : Array Value := #[.string ⟨#[]⟩, .slice none 0 0, .slice none 0 0, .slice none 0 0, .slice none 0 0]
set_option maxHeartbeats 4000000 in
set_option maxRecDepth 100000 in
theorem catch_idle (g : Nat) (w : World) : CallsD Tryz.prog 30 #[.pointer (some ⟨g, 0, none⟩), .pointer (some ⟨g + 1, 0, none⟩), .pointer (some ⟨g + 2, 0, none⟩)] .returning w fun e u' w' => e = .returned (.tuple #[]) ∧ u' = .returning ∧ w' = w := by
  refine callsD_of_wpS Tryz.func30 rfl fun c₀ cs hu => ?_
  apply wpS_seq
  apply wpS_region
  simp [wpOpsS, go_sem, recoverD, hu, Tryz.ntmps30, Exit.thenS]
  refine wpS_of_wp ?_
  go_wp2_with fail
  cases c₀
  simp_all [bodyPostS, results, Tryz.results30]
set_option maxHeartbeats 4000000 in
set_option maxRecDepth 100000 in
theorem catch_err (g : Nat) (er : Tr.Er) (w : World) (cs0 : Array Value) (x y : Value) (hm : Blk w g 31 cs0) (h5 : cs0.size = 5) (ha : Blk w (g + 1) 3 #[x]) (he : Blk w (g + 2) 32 #[y]) :
    CallsD Tryz.prog 30 #[.pointer (some ⟨g, 0, none⟩), .pointer (some ⟨g + 1, 0, none⟩), .pointer (some ⟨g + 2, 0, none⟩)] (.panicking (thrown er)) w fun e u' w' =>
      e = .returned (.tuple #[]) ∧ (∃ p, u' = .panicking [p] ∧ p.recovered = true) ∧ Below g w w' ∧ Blk w' g 31 zeroM ∧ Blk w' (g + 1) 3 #[.int .i64 er.1] ∧ Blk w' (g + 2) 32 #[.int .i64 er.2] := by
  refine callsD_of_wpS Tryz.func30 rfl fun c₀ cs hu => ?_
  unfold thrown at hu
  have hta : ∀ (a b : Int) (W : World), (Instr.typeAssert (.iface 62 (.agg #[.int .i64 a, .int .i64 b])) 20 62 true).run Tryz.prog W = .ok (.tuple #[.agg #[.int .i64 a, .int .i64 b], .bool true]) W := fun a b W => by kernel_rfl
  apply wpS_seq
  apply wpS_region
  simp [wpOpsS, go_sem, recoverD, hu, Tryz.ntmps30, Exit.thenS]
  refine wpS_of_wp ?_
  rw [show (#[Value.pointer (some ⟨g, 0, none⟩), Value.pointer (some ⟨g + 1, 0, none⟩), Value.pointer (some ⟨g + 2, 0, none⟩)] ++ (Array.replicate 14 undef).setIfInBounds 3 (Value.iface 62 (Value.agg #[Value.int IntKind.i64 er.1, Value.int IntKind.i64 er.2]))) = #[Value.pointer (some ⟨g, 0, none⟩), Value.pointer (some ⟨g + 1, 0, none⟩), Value.pointer (some ⟨g + 2, 0, none⟩), undef, undef, undef, Value.iface 62 (Value.agg #[Value.int IntKind.i64 er.1, Value.int IntKind.i64 er.2]), undef, undef, undef, undef, undef, undef, undef, undef, undef, undef] from by rfl]
  go_wp2_with fail
  have hW := Blk.new w 62 #[.int .i64 er.1, .int .i64 er.2]
  have hb0 := below_alloc w (.cells #[.int .i64 er.1, .int .i64 er.2] 62)
  have hl := he.lt
  have hm' := hm.alloc (.cells #[.int .i64 er.1, .int .i64 er.2] 62)
  have ha' := ha.alloc (.cells #[.int .i64 er.1, .int .i64 er.2] 62)
  have he' := he.alloc (.cells #[.int .i64 er.1, .int .i64 er.2] 62)
  have e0 := hW.cell 0
  have e1 := hW.cell 1
  have HB := hid_ (show w.heap.size ≠ g ∧ w.heap.size ≠ g + 1 ∧ w.heap.size ≠ g + 2 from ⟨by omega, by omega, by omega⟩)
  have HBg := hid_ (hb0.mono (show g ≤ w.heap.size by omega))
  have n0 : ¬ w.heap.size = g := by omega
  have n1 : ¬ g = w.heap.size := by omega
  have n2 : ¬ w.heap.size = g + 1 := by omega
  have n3 : ¬ w.heap.size = g + 2 := by omega
  generalize w.alloc (.cells #[.int .i64 er.1, .int .i64 er.2] 62) = W at *
  obtain ⟨u0, u1, u2, u3, u4, rfl⟩ : ∃ a b c d e, cs0 = #[a, b, c, d, e] := by
    obtain ⟨l⟩ := cs0
    match l, h5 with
    | [a, b, c, d, e], _ => exact ⟨a, b, c, d, e, rfl⟩
  have m0 := hm'.cell 0
  have m1 := hm'.cell 1
  have m2 := hm'.cell 2
  have m3 := hm'.cell 3
  have m4 := hm'.cell 4
  have k0 := hm'.frozen 0
  have k1 := hm'.frozen 1
  have k2 := hm'.frozen 2
  have k3 := hm'.frozen 3
  have k4 := hm'.frozen 4
  have a0 := ha'.cell 0
  have a1 := ha'.frozen 0
  have b0 := he'.cell 0
  have b1 := he'.frozen 0
  have HM := hid_ hm'
  have HA := hid_ ha'
  have HE := hid_ he'
  generalize w.heap.size = B at *
  clear hm ha he hm' ha' he' hW hb0 h5 hl
  go_region
  have f1 := ((((((((HM.out.set_ 0 (.string ⟨#[]⟩)).set_ 1 (.slice none 0 0)).set_ 2 (.slice none 0 0)).set_ 3 (.slice none 0 0)).set_ 4 (.slice none 0 0)).far (p := ⟨g + 1, 0, none⟩) (by show g ≠ g + 1; omega) (.int .i64 er.1)).far (p := ⟨g + 2, 0, none⟩) (by show g ≠ g + 2; omega) (.int .i64 er.2))).drew
  have f2 := ((((((((HA.out.far (p := ⟨g, 0, none⟩) (by show g + 1 ≠ g; omega) (.string ⟨#[]⟩)).far (p := ⟨g, 1, none⟩) (by show g + 1 ≠ g; omega) (.slice none 0 0)).far (p := ⟨g, 2, none⟩) (by show g + 1 ≠ g; omega) (.slice none 0 0)).far (p := ⟨g, 3, none⟩) (by show g + 1 ≠ g; omega) (.slice none 0 0)).far (p := ⟨g, 4, none⟩) (by show g + 1 ≠ g; omega) (.slice none 0 0)).set_ 0 (.int .i64 er.1)).far (p := ⟨g + 2, 0, none⟩) (by show g + 1 ≠ g + 2; omega) (.int .i64 er.2))).drew
  have f3 := ((((((((HE.out.far (p := ⟨g, 0, none⟩) (by show g + 2 ≠ g; omega) (.string ⟨#[]⟩)).far (p := ⟨g, 1, none⟩) (by show g + 2 ≠ g; omega) (.slice none 0 0)).far (p := ⟨g, 2, none⟩) (by show g + 2 ≠ g; omega) (.slice none 0 0)).far (p := ⟨g, 3, none⟩) (by show g + 2 ≠ g; omega) (.slice none 0 0)).far (p := ⟨g, 4, none⟩) (by show g + 2 ≠ g; omega) (.slice none 0 0)).far (p := ⟨g + 1, 0, none⟩) (by show g + 2 ≠ g + 1; omega) (.int .i64 er.1)).set_ 0 (.int .i64 er.2))).drew
  have f4 := ((((((((HBg.out.setCell (p := ⟨g, 0, none⟩) (Nat.le_refl _) (.string ⟨#[]⟩)).setCell (p := ⟨g, 1, none⟩) (Nat.le_refl _) (.slice none 0 0)).setCell (p := ⟨g, 2, none⟩) (Nat.le_refl _) (.slice none 0 0)).setCell (p := ⟨g, 3, none⟩) (Nat.le_refl _) (.slice none 0 0)).setCell (p := ⟨g, 4, none⟩) (Nat.le_refl _) (.slice none 0 0)).setCell (p := ⟨g + 1, 0, none⟩) (by show g ≤ g + 1; omega) (.int .i64 er.1)).setCell (p := ⟨g + 2, 0, none⟩) (by show g ≤ g + 2; omega) (.int .i64 er.2))).drew
  refine ⟨rfl, _, rfl, .tuple #[], by simp [results, Tryz.results30], rfl, ⟨_, rfl, rfl⟩, f4, f1, f2, f3⟩
end
end Go.Proofs.YtmgjmagniefhoaaGreatDoor

/- Parse. Conditions: those that each theorem names. -/
namespace Go.Proofs.YtmgjmagniefhoaaGreatDoor
open Go.RowKit Go.Maps
section
variable {w w' : World}
/-- A row, wherever it lies. -/
def RowAt (w : World) (v : Value) (n : Nat) (xs : List Value) : Prop := ∃ A c, v = .slice A n c ∧ (A = none → n = 0) ∧ ∀ b off q, A = some ⟨b, off, q⟩ → q = none ∧ ∀ j u, xs[j]? = some u → w.cell? ⟨b, off + j, none⟩ = some u
theorem RowAt.below {v : Value} {n : Nat} {xs : List Value} (h : RowAt w v n xs) (hb : Below w.heap.size w w') : RowAt w' v n xs := by
  obtain ⟨A, c, e, hn, h2⟩ := h
  exact ⟨A, c, e, hn, fun b off q ha => ⟨(h2 b off q ha).1, fun j u hu => below_cell hb ((h2 b off q ha).2 j u hu)⟩⟩
theorem RowAt.of {base : Nat} {e : TypeId} {sz n : Nat} {v : Value} {xs : List Value} (h : w.ownsRow base e sz v n xs) : RowAt w v n xs := by
  rcases h.2 with ⟨hv, h0⟩ | ⟨g, cap, cur, hv, _⟩
  · subst hv
    exact ⟨none, 0, by rw [h0], fun _ => h0, fun b off q ha => by cases ha⟩
  · subst hv
    refine ⟨some ⟨g, 0, none⟩, cap, rfl, fun ha => (by cases ha), fun b off q ha => ?_⟩
    injection ha with ha
    injection ha with ha1 ha2 ha3
    subst ha1 ha2 ha3
    exact ⟨rfl, fun j u hu => by rw [show (0 : Nat) + j = j from Nat.zero_add j]; exact own_cell h j u hu⟩
/-- A module of no more parts than memory holds. -/
structure MdS (m : Tr.Md) : Prop where
  im : m.imports.length ≤ 9223372036854775807
  ty : m.types.length ≤ 9223372036854775807
  fn : m.fns.length ≤ 9223372036854775807
  nd : m.nodes.length ≤ 9223372036854775807
  fb : ∀ x ∈ m.fns, x.vars.length ≤ 9223372036854775807 ∧ x.params.length ≤ 9223372036854775807
  nb : ∀ x ∈ m.nodes, x.keys.length ≤ 9223372036854775807 ∧ x.l.length ≤ 9223372036854775807
theorem own_max {base : Nat} {e : TypeId} {sz n : Nat} {v : Value} {xs : List Value} (h : w.ownsRow base e sz v n xs) : n ≤ 9223372036854775807 := by
  rcases h.2 with ⟨_, h0⟩ | ⟨g, cap, cur, hv, _, _, h1, h2, _⟩
  · omega
  · unfold maxLen at h2
    omega
/-- A module, wherever it lies. -/
def ModAt (w : World) (v : Value) (m : Tr.Md) : Prop := ∃ iv tv fv nv, MdS m ∧ v = .agg #[.string (st m.name), iv, tv, fv, nv] ∧ RowAt w iv m.imports.length (strs m.imports) ∧ RowAt w tv m.types.length (flatV m.types) ∧
  (∃ fx : List Fx, fx.map (·.1) = m.fns ∧ RowAt w fv m.fns.length (flatF fx) ∧ ∀ x ∈ fx, RowAt w x.2.1 x.1.vars.length (flatV x.1.vars) ∧ RowAt w x.2.2 x.1.params.length (flatV x.1.params)) ∧
  (∃ nx : List (Tr.Nd × Value × Value), nx.map (·.1) = m.nodes ∧ RowAt w nv m.nodes.length (flatN nx) ∧ ∀ x ∈ nx, RowAt w x.2.1 x.1.keys.length (strs x.1.keys) ∧ RowAt w x.2.2 x.1.l.length (ints x.1.l))
theorem ModAt.below {v : Value} {m : Tr.Md} (h : ModAt w v m) (hb : Below w.heap.size w w') : ModAt w' v m := by
  obtain ⟨iv, tv, fv, nv, hs, e, h1, h2, ⟨fx, f1, f2, f3⟩, nx, n1, n2, n3⟩ := h
  exact ⟨iv, tv, fv, nv, hs, e, h1.below hb, h2.below hb, ⟨fx, f1, f2.below hb, fun x hx => ⟨(f3 x hx).1.below hb, (f3 x hx).2.below hb⟩⟩, nx, n1, n2.below hb, fun x hx => ⟨(n3 x hx).1.below hb, (n3 x hx).2.below hb⟩⟩
theorem RowAt.nil (w : World) : RowAt w (.slice none 0 0) 0 [] := ⟨none, 0, rfl, fun _ => rfl, fun b off q h => by cases h⟩
theorem ModAt.none (w : World) : ModAt w (.agg zeroM) Tr.Md.none := ⟨_, _, _, _, ⟨Nat.zero_le _, Nat.zero_le _, Nat.zero_le _, Nat.zero_le _, (fun x hx => by cases hx), fun x hx => by cases hx⟩, rfl, RowAt.nil w, RowAt.nil w, ⟨[], rfl, RowAt.nil w, fun x hx => by cases hx⟩, [], rfl, RowAt.nil w, fun x hx => by cases hx⟩
/-- What Parse answers. -/
def parseR (s : ByteArray) : Tr.Md × Int × Int := if (wordsR s).2.2 ≠ 0 then (Tr.Md.none, (wordsR s).2.1, (wordsR s).2.2) else match Tr.module_ (wordsR s).1 with
  | .error er => (Tr.Md.none, er.1, er.2)
  | .ok m => (m, 0, 0)
theorem ends_of {ws : List Lx.Wd} {e : Lx.Wd} (h : ∀ x ∈ ws, x.kind ≠ 7) (he : e.kind = 7) : EndsL (ws ++ [e]) := by
  intro k hk
  rw [List.length_append] at hk ⊢
  have hk : k < ws.length + 1 := hk
  show _ ↔ k + 1 = ws.length + 1
  rw [now_at (by rw [List.length_append]; exact hk)]
  by_cases hw : k < ws.length
  · rw [List.getElem_append_left hw]
    exact ⟨fun h7 => absurd h7 (h _ (List.getElem_mem hw)), fun h7 => by omega⟩
  · rw [List.getElem_append_right (by omega)]
    exact ⟨fun _ => by omega, fun _ => by simp [he]⟩
theorem txt_of {L : List Lx.Wd} {n : Nat} (h : ∀ x ∈ L, x.text.length ≤ n) (j : Nat) : (Tr.now L j).text.length ≤ n := by
  unfold Tr.now
  rw [List.getD_eq_getElem?_getD]
  cases hj : L[j]? with
  | none => exact Nat.zero_le _
  | some x => exact h x (List.mem_of_getElem? hj)
/-- The reader is made. -/
theorem Rd.made {lv : Value} {L : List Lx.Wd} (hW : WsAt w lv L) (hL : L ≠ []) (hE : EndsL L) (hf : L.length ≤ 70000) (ht : ∀ j, (Tr.now L j).text.length ≤ 70000) :
    Rd (w.alloc (.cells #[lv, .int .i64 0, .string ⟨#[]⟩, .slice none 0 0, .slice none 0 0, .slice none 0 0, .slice none 0 0] 65)) w.heap.size ⟨lv, .string ⟨#[]⟩, .slice none 0 0, .slice none 0 0, .slice none 0 0⟩ L 0 [] ∧
    MdR (w.alloc (.cells #[lv, .int .i64 0, .string ⟨#[]⟩, .slice none 0 0, .slice none 0 0, .slice none 0 0, .slice none 0 0] 65)) w.heap.size ⟨lv, .string ⟨#[]⟩, .slice none 0 0, .slice none 0 0, .slice none 0 0⟩ [] [] [] := by
  have hlen : 0 < L.length := List.length_pos_iff.2 hL
  refine ⟨⟨⟨.slice none 0 0, Blk.new w _ _, [], rfl, ⟨by simp [flatN], .inl ⟨rfl, rfl⟩⟩, fun x hx => by cases hx⟩, hW.below (below_alloc w _), ?_, hlen, hE, hf, ht, by simp, fun x hx => by cases hx⟩, OwF.nil _ _ _ _, OwF.nil _ _ _ _, [], rfl, OwF.nil _ _ _ _, fun x hx => by cases hx⟩
  intro ad n cc e
  obtain ⟨A, c2, e2, hn, hA⟩ := hW
  rw [e2] at e
  injection e with e3 e4 _
  obtain ⟨b, off, q⟩ := ad
  have h2 := (hA b off q e3).2 0 hlen 0 (by omega)
  have h3 : w.cell? ⟨b, off, none⟩ = some (.int .i64 L[0].kind) := h2
  exact World.block_lt_of_cell? w ⟨b, off, none⟩ h3
end
end Go.Proofs.YtmgjmagniefhoaaGreatDoor

/- Blanks and remarks change nothing about what is read. No program is walked here. -/
namespace Go.Proofs.YtmgjmagniefhoaaGreatDoor
namespace Lx
theorem good_part {x : Wd} (h : Good (strip x)) : part x = some (shown x.kind x.text) := by
  have h7 : x.kind ≠ 7 := h.k7
  have hne : x.text ≠ [] := h.tne
  unfold Lx.part shown
  rw [if_neg h7]
  by_cases h4 : x.kind = 4
  · rw [if_pos h4, if_pos h4]
  · rw [if_neg h4, if_neg h4, if_neg hne]
theorem good_parts : ∀ {ys : List Wd}, (∀ y ∈ ys, Good (strip y)) → parts ys = ys.map fun x => shown x.kind x.text
  | [], _ => rfl
  | x :: ys, h => by
    unfold parts
    rw [List.filterMap_cons_some (good_part (h x List.mem_cons_self)), List.map_cons]
    have := good_parts (ys := ys) (fun y hy => h y (List.mem_cons_of_mem _ hy))
    unfold parts at this
    rw [this]
theorem parts_end {ws : List Wd} {e : Wd} (he : e.kind = 7) : parts (ws ++ [e]) = parts ws := by
  unfold parts
  rw [List.filterMap_append, List.filterMap_cons_none (by unfold Lx.part; rw [if_pos he])]
  simp
theorem zip_32 : ∀ (xs : List Wd), (List.zipWith (fun p x => p ++ shown x.kind x.text) (List.replicate xs.length [32]) xs).flatten = (xs.map fun x => 32 :: shown x.kind x.text).flatten
  | [] => rfl
  | x :: xs => by
    rw [List.length_cons, List.replicate_succ, List.zipWith_cons_cons, List.flatten_cons, List.map_cons, List.flatten_cons, zip_32 xs]
    rfl
theorem join_32 (L : List Bs) (x : Bs) : Lib.join (x :: L) [32] = x ++ (L.map fun t => 32 :: t).flatten := Lib.join_cons x L [32]
theorem skip_on {c : UInt8} {r : Bs} (h32 : c ≠ 32) (h10 : c ≠ 10) (h35 : c ≠ 35) : skip false (c :: r) = c :: r := by
  unfold skip
  rw [if_neg (by rintro (h | h); exact h32 h; exact h10 h), if_neg h35]
theorem flat_len : ∀ (ws : List Wd), ((ws.map fun x => 32 :: shown x.kind x.text).flatten).length = (ws.map fun x => (shown x.kind x.text).length + 1).sum
  | [] => rfl
  | x :: ws => by
    rw [List.map_cons, List.flatten_cons, List.length_append, List.map_cons, List.sum_cons, flat_len ws]
    rfl
theorem sum_ge : ∀ (ws : List Wd), ws.length ≤ (ws.map fun x => (shown x.kind x.text).length + 1).sum
  | [] => Nat.zero_le _
  | x :: ws => by
    have := sum_ge ws
    rw [List.map_cons, List.sum_cons, List.length_cons]
    omega
/-- What is joined, with a remark ahead of it, one behind. -/
def blankT (ws : List Wd) : Bs := ([35, 32, 40, 10] ++ joinL ws) ++ [32, 35, 41]
theorem join_is {ws : List Wd} {e : Wd} (hg : ∀ x ∈ ws, Good (strip x)) (he : e.kind = 7) : (ws = [] ∧ joinL (ws ++ [e]) = []) ∨ ∃ (x : Wd) (xs : List Wd), ws = x :: xs ∧ joinL (ws ++ [e]) = shown x.kind x.text ++ (xs.map fun x => 32 :: shown x.kind x.text).flatten := by
  unfold joinL
  rw [parts_end he, good_parts hg]
  cases ws with
  | nil => exact .inl ⟨rfl, rfl⟩
  | cons x xs =>
    refine .inr ⟨x, xs, rfl, ?_⟩
    rw [List.map_cons, join_32, List.map_map]
    rfl
theorem blank_len {ws : List Wd} {e : Wd} (hg : ∀ x ∈ ws, Good (strip x)) (he : e.kind = 7) : (blankT (ws ++ [e])).length ≤ (ws.map fun x => (shown x.kind x.text).length + 1).sum + 7 := by
  unfold blankT
  rcases join_is hg he with ⟨rfl, h⟩ | ⟨x, xs, rfl, h⟩
  · rw [h]; decide
  · rw [h]
    simp only [List.length_append, List.length_cons, List.length_nil, flat_len, List.map_cons, List.sum_cons]
    omega
def bodyT (x : Wd) (xs : List Wd) : Bs := ([35, 32, 40, 10] ++ (shown x.kind x.text ++ (xs.map fun y : Wd => 32 :: shown y.kind y.text).flatten)) ++ [32, 35, 41]
theorem blank_cut {ws : List Wd} {e : Wd} (hg : ∀ x ∈ ws, Good (strip x)) (he : e.kind = 7) : ∃ ws', cut (blankT (ws ++ [e])) = .ok ws' ∧ ws'.map Tr.kw = ws.map Tr.kw := by
  unfold blankT
  rcases join_is hg he with ⟨rfl, h⟩ | ⟨x, xs, rfl, h⟩
  · rw [h]
    exact ⟨[], rfl, rfl⟩
  · rw [h]
    unfold cut
    show ∃ ws', cutF (bodyT x xs).length ((bodyT x xs).length + 1) (bodyT x xs) = .ok ws' ∧ _
    have hlen : (x :: xs).length < (bodyT x xs).length + 1 := by
      have := sum_ge xs
      unfold bodyT
      simp only [List.length_append, List.length_cons, List.length_nil, flat_len]
      omega
    obtain ⟨ws', h1, h2⟩ := cutF_good (bodyT x xs).length _ (bodyT x xs) ((x :: xs).map strip) ([35, 32, 40, 10] :: List.replicate xs.length [32]) (by rw [List.length_map]; exact hlen) (fun y hy => by
        obtain ⟨z, hz, rfl⟩ := List.mem_map.1 hy
        exact hg z hz) (by simp) ⟨[32, 35, 41], rfl, .inr ⟨32, _, rfl, .inl rfl⟩, by
        rw [List.map_cons, List.zipWith_cons_cons, List.flatten_cons]
        have hz := zip_32 (xs.map strip)
        rw [List.length_map] at hz
        rw [hz, List.map_map]
        show bodyT x xs = (([35, 32, 40, 10] ++ shown x.kind x.text) ++ (xs.map fun y : Wd => 32 :: shown y.kind y.text).flatten) ++ [32, 35, 41]
        unfold bodyT
        simp only [List.append_assoc]⟩ (fun p hp q hq => by
        obtain ⟨c, r, rfl, a, b, d⟩ := hq
        rcases List.mem_cons.1 hp with rfl | hp
        · show skip false (c :: r) = _
          exact skip_on a b d
        · rw [(List.mem_replicate.1 hp).2]
          show skip false (c :: r) = _
          exact skip_on a b d) (fun p hp q => by
        rw [List.drop_succ_cons, List.drop_zero] at hp
        rw [(List.mem_replicate.1 hp).2]
        exact .inr ⟨32, q, rfl, .inl rfl⟩)
    refine ⟨ws', h1, ?_⟩
    have h3 : ws'.map Tr.kw = ((x :: xs).map strip).map Tr.kw := h2
    rw [h3, List.map_map]
    rfl
end Lx
/-- What is read of it is the same, but for places. -/
theorem parse_blank {s : ByteArray} (h : (wordsR s).2.2 = 0) (hs : s.size ≤ 30000) : (parseR (st (Lx.blankT (wordsR s).1))).1 = (parseR s).1 ∧ (parseR (st (Lx.blankT (wordsR s).1))).2.2 = (parseR s).2.2 := by
  obtain ⟨_, ws, hc, hw, _, _⟩ := wordsR_ok h
  obtain ⟨hg, hsum⟩ := Lx.cutF_strip _ _ _ _ hc
  rw [bl_len] at hsum
  rw [hw]
  show (parseR (st (Lx.blankT (ws ++ [endW s])))).1 = _ ∧ _
  obtain ⟨ws', h1, h2⟩ := Lx.blank_cut (e := endW s) hg rfl
  have hl := Lx.blank_len (e := endW s) hg rfl
  generalize Lx.blankT (ws ++ [endW s]) = T at *
  have hT : wordsR (st T) = (ws' ++ [endW (st T)], 0, 0) := by
    unfold wordsR
    rw [if_neg (by rw [st_size]; omega), show bl (st T) = T from bl_st T, h1]
  have hm : Tr.erM (Tr.module_ (ws' ++ [endW (st T)])) = Tr.erM (Tr.module_ (ws ++ [endW s])) := Tr.module_kw (by rw [List.map_append, List.map_append, h2]; rfl)
  unfold parseR
  rw [hT, hw]
  rw [if_neg (fun h => h rfl), if_neg (fun h => h rfl)]
  show (match Tr.module_ (ws' ++ [endW (st T)]) with | .error er => (Tr.Md.none, er.1, er.2) | .ok m => (m, 0, 0)).1 = (match Tr.module_ (ws ++ [endW s]) with | .error er => (Tr.Md.none, er.1, er.2) | .ok m => (m, 0, 0)).1 ∧ _
  cases ha : Tr.module_ (ws' ++ [endW (st T)]) with
  | error e1 =>
    rw [ha] at hm
    cases hb : Tr.module_ (ws ++ [endW s]) with
    | error e2 =>
      rw [hb] at hm
      injection hm with hm
      exact ⟨rfl, hm⟩
    | ok m2 => rw [hb] at hm; cases hm
  | ok m1 =>
    rw [ha] at hm
    cases hb : Tr.module_ (ws ++ [endW s]) with
    | error e2 => rw [hb] at hm; cases hm
    | ok m2 =>
      rw [hb] at hm
      injection hm with hm
      subst hm
      exact ⟨rfl, rfl⟩
end Go.Proofs.YtmgjmagniefhoaaGreatDoor
