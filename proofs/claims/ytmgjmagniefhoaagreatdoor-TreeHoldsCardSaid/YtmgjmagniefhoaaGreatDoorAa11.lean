/- What stands in these texts of the proof: Tj Tk Tn Tl. Conditions: those that each theorem names. -/
import Derived.Test.YtmgjmagniefhoaaGreatDoorAa10
import Derived.Deep.DeepCutAuto
import Derived.Shelf.Abstract
/- The tree's reader: the closure of fields. Conditions: those that each theorem names. -/
namespace Go.Proofs.YtmgjmagniefhoaaGreatDoor
open Go.RowKit Go.Maps
section
variable {rb : Nat} {c : RC} {L : List Lx.Wd}
/-- One field, plainly. -/
def fieldG (L : List Lx.Wd) (VF : Nat → Int → Nat → List Tr.Nd → Tr.An Int) (d : Int) (f : Nat) (_many : Nat) (s : List (List UInt8) × List Int) (k : Nat) (M : List Tr.Nd) : Tr.An (List (List UInt8) × List Int) :=
  Tr.bind (Tr.fresh L s.1 1 k M) fun x k M => Tr.bind (Tr.must L [58] k M) fun _ k M => Tr.bind (VF f (d + 1) k M) fun n k M => .ok ((s.1 ++ [x], s.2 ++ [n]), k, M)
set_option maxHeartbeats 4000000 in
set_option maxRecDepth 100000 in
theorem fields1_c {k0 V : Nat} {VF : Nat → Int → Nat → List Tr.Nd → Tr.An Int} (hV : ValC L k0 V VF) (hent : ∀ args w, (callFunc V args).run Tryz.prog w = .ok (.enter V args) w) {w0 : World} (h00 : ∃ k ns, Rd w0 rb c L k ns) (g : Nat) (d kind : Int) (hd0 : 0 ≤ d) (hd : d ≤ 60) :
    OneC (FdI w0 rb g d kind V) w0 rb c L k0 (fun many s => s.1.length = many ∧ s.2.length = many) (fieldG L VF d) 161 #[.pointer (some ⟨g + 3, 0, none⟩), .pointer (some ⟨g, 0, none⟩), .pointer (some ⟨g + 2, 0, none⟩), .pointer (some ⟨g + 1, 0, none⟩)] := by
  intro f many s k ns w hk0 hk1 hmany hP hf hR hF hI
  obtain ⟨ks, ls⟩ := s
  obtain ⟨hP1, hP2⟩ : ks.length = many ∧ ls.length = many := hP
  subst hP1
  have HP2 := hid_ hP2
  clear hP2
  have wd : IntKind.i64.wrap (d + 1) = d + 1 := IntWalk.i64_in _ (by omega)
  obtain ⟨kz, nsz, h00⟩ := h00
  obtain ⟨kv, lv, hI⟩ := hI
  obtain ⟨A0, dd0, rfl⟩ := own_form hI.ks.own
  have HR0 := hid_ h00
  have HR := hid_ hR
  have HF := hid_ hF
  have HFd := hid_ hI
  have HV := hid_ hV
  have HE := hid_ (show fieldG L VF d f ks.length (ks, ls) k ns = Tr.bind (Tr.fresh L ks 1 k ns) fun x k M => Tr.bind (Tr.must L [58] k M) fun _ k M => Tr.bind (VF f (d + 1) k M) fun n k M => .ok ((ks ++ [x], ls ++ [n]), k, M) from rfl)
  have c0 : w.cell? ⟨g, 0, none⟩ = some (rv rb) := hI.rB.cell 0
  have c4 : w.cell? ⟨g + 3, 4, none⟩ = some (.slice A0 ks.length dd0) := hI.nB.cell 4
  obtain ⟨i0, hi0, hz0, hz1, hz2⟩ := info_parts Tryz.infoS
  obtain ⟨j0, hj0, hy0, hy1, hy2⟩ := info_parts Tryz.infoI
  clear h00 hR hF hI hV
  generalize fieldG L VF d f ks.length (ks, ls) k ns = A at *
  unfold rv at c0
  show Calls _ _ #[_, _, _, _, _] _ _
  go_enter Tryz.func161, Tryz.ntmps161
  go_wp2_with fail
  go_cut [] (fun wx => ∃ (x : List UInt8) (k2 : Nat) (ns2 : List Tr.Nd), k2 = k + 1 ∧ A = (Tr.bind (Tr.must L [58] k2 ns2) fun _ k M => Tr.bind (VF f (d + 1) k M) fun n k M => .ok ((ks ++ [x], ls ++ [n]), k, M)) ∧ Rd wx rb c L k2 ns2 ∧ Fr rb w0 wx ∧ FdI w0 rb g d kind V (ks ++ [x], ls) wx)
  case first =>
    go_region_law (first
      | (refine step_append_any (by rfl) (.tmp 7) (.tmp 12) 26 (by rfl) w0.heap.size 9 i0 _ 1 16 Tryz.underlying26 hi0 hz0 hz1 hz2 rfl (by omega) (.slice A0 ks.length dd0) ks.length _ (by rfl) HO3.out.own (some ⟨w2.heap.size, 0, none⟩) 1 1 [.string (st x)] (by rfl) rfl (fun h => by cases h) (by intro ad had j u hu; injection had with had; subst had; exact World.news_of_block (heap_alloc_new _ _) j u hu) (by simp [Value.oneCell']) (by unfold maxLen; omega) (by omega) (Nat.le_trans HF2.out.kp.size (below_alloc _ _).size) ?_; intro A1 c1 w3 hown hgrow hat; obtain ⟨e1, e2, hr, hf2, hz⟩ := HFd2.out.key HR2.out HF2.out (below_alloc _ _) hgrow hown hat; have HRk := hid_ hr; have HFk := hid_ hf2; have HZk := hid_ hz; clear hr hf2 hz hown hgrow hat)
      | (go_simp; go_at_call 65; refine (fresh_c (HR.out.drew 1) (HFd.out.to (Fr.drew HR.out 1)).ks.own (by show ks.length ≤ 1000000; omega) 1 (by decide)).mono ?_; intro e w2 hE; rcases hE.cases with ⟨x, k2, ns2, hA, rfl, hR, hF⟩ | ⟨er, hA, rfl, hB⟩; rotate_left; (focus (have HAe := hid_ (HE.out.trans (Tr.bind_err hA)); have HBe := hid_ ((HF.out.bel HR0.out).trans ((Fr.drew HR.out 1).bel HR.out |>.trans hB)); clear hE hA hB; rw [HAe.out]; exact ⟨rfl, rfl, HBe.out⟩)); have hgo := (Tr.fresh_ok hA).1; have HA2 := hid_ (HE.out.trans (Tr.bind_good hA)); have HF2 := hid_ (HF.out.trans ((Fr.drew HR.out 1).trans hF)); have HR2 := hid_ hR; have HFd2 := hid_ ((HFd.out.to (Fr.drew HR.out 1)).to hF); have HO3 := hid_ (HFd2.out.ks.fr (Fr.of_below (below_alloc w2 (.cells #[.string (st x)] 9)) hR)); have d4 := HFd2.out.nB.cell 4; have e4 := fun o => (HFd2.out.nB.alloc o).cell 4; clear hE hA hR hF)
      | fail)
    all_goals
      go_wp2_with fail
      go_meet
      exact ⟨x, k2, ns2, hgo, HA2.out, HRk.out, HFk.out, HZk.out⟩
  case rest =>
    obtain ⟨x, k2, ns2, hgo, hA2, hRk, hFk, hZk⟩ := hcut
    have HA2 := hid_ hA2
    have HRk := hid_ hRk
    have HFk := hid_ hFk
    obtain ⟨kv4, lv4, hf4⟩ := hZk
    clear hA2 hRk hFk
    clear c0 c4 HR HF HFd HE
    obtain ⟨A4, dd4, rfl⟩ := own_form hf4.ls.own
    have r00 : wc.cell? ⟨g, 0, none⟩ = some (rv rb) := hf4.rB.cell 0
    have HFd4 := hid_ hf4
    have HMu := hid_ (must_c HRk.out [58])
    unfold rv at r00 HMu
    clear hf4
    go_wp2_with fail
    refine (HMu.out).mono ?_
    intro e w5 hE
    rcases hE.cases with ⟨u5, k5, ns5, hA, rfl, hR, hF⟩ | ⟨er, hA, rfl, hB⟩
    rotate_left
    · have HAe := hid_ (HA2.out.trans (Tr.bind_err hA))
      have HBe := hid_ ((HFk.out.bel HR0.out).trans hB)
      clear hE hA hB
      go_wp2_with fail
      rw [HAe.out]
      exact ⟨rfl, rfl, HBe.out⟩
    have HA5 := hid_ (HA2.out.trans (Tr.bind_good hA))
    have HF5 := hid_ (HFk.out.trans hF)
    have HR5 := hid_ hR
    obtain ⟨rfl, rfl⟩ := Tr.must_ok hA
    have HFd5 := hid_ (HFd4.out.to hF)
    have c5 : w5.cell? ⟨g + 3, 5, none⟩ = some (.slice A4 ls.length dd4) := HFd5.out.nB.cell 5
    have c2 : w5.cell? ⟨g + 2, 0, none⟩ = some (.func (.func V) #[rv rb] #[]) := HFd5.out.vB.cell 0
    have c1' : w5.cell? ⟨g + 1, 0, none⟩ = some (.int .i64 d) := HFd5.out.dB.cell 0
    unfold rv at c2
    have HVc := hid_ (fun n => HV.out (w5.drewN n) rb (k2 + 1) c ns5 f (d + 1) (by omega) (by omega) (by omega) (by omega) (by omega) (HR5.out.drew n))
    clear hE hA hR hF
    go_wp2_with fail
    go_region_law (first
      | (refine step_append_any (by rfl) (.tmp 18) (.tmp 23) 22 (by rfl) w0.heap.size 3 j0 _ 1 8 Tryz.underlying22 hj0 hy0 hy1 hy2 rfl (by omega) (.slice A4 ls.length dd4) ls.length _ (by rfl) HO7.out.own (some ⟨w6.heap.size, 0, none⟩) 1 1 [.int .i64 n6] (by rfl) rfl (fun h => by cases h) (by intro ad had j u hu; injection had with had; subst had; exact World.news_of_block (heap_alloc_new _ _) j u hu) (by simp [Value.oneCell']) (by have := HP2.out; unfold maxLen; omega) (by have := HP2.out; omega) (Nat.le_trans HF6.out.kp.size (below_alloc _ _).size) ?_; intro A7 c7 w7 hown hgrow hat; obtain ⟨e1, e2, hr, hf2, hz⟩ := HFd6.out.num HR6.out HF6.out (below_alloc _ _) hgrow hown hat; have HRk := hid_ hr; have HFk := hid_ hf2; have HZk := hid_ hz; clear hr hf2 hz hown hgrow hat)
      | (go_simp; refine (HVc.out 1).mono ?_; intro e w6 hE; rcases hE.cases with ⟨n6, k6, ns6, hA, rfl, hR, hF⟩ | ⟨er, hA, rfl, hB⟩; rotate_left; (focus (have HAe := hid_ (HA5.out.trans (Tr.bind_err hA)); have HBe := hid_ ((HF5.out.bel HR0.out).trans ((Fr.drew HR5.out 1).bel HR5.out |>.trans hB)); clear hE hA hB; rw [HAe.out]; exact ⟨rfl, rfl, HBe.out⟩)); have HA6 := hid_ (HA5.out.trans (Tr.bind_good hA)); have HF6 := hid_ (HF5.out.trans ((Fr.drew HR5.out 1).trans hF)); have HR6 := hid_ hR; have HFd6 := hid_ ((HFd5.out.to (Fr.drew HR5.out 1)).to hF); have HO7 := hid_ (HFd6.out.ls.fr (Fr.of_below (below_alloc w6 (.cells #[.int .i64 n6] 3)) hR)); have d4 := HFd6.out.nB.cell 5; have e4 := fun o => (HFd6.out.nB.alloc o).cell 5; clear hE hA hR hF)
      | fail)
    all_goals
      go_wp2_with fail
      go_end0
      rw [HA6.out]
      exact ⟨rfl, HRk.out, HFk.out, HZk.out⟩
end
end Go.Proofs.YtmgjmagniefhoaaGreatDoor

/- The tree's reader: fields. Conditions: those that each theorem names. -/
namespace Go.Proofs.YtmgjmagniefhoaaGreatDoor
open Go.RowKit Go.Maps
section
variable {w w' : World} {rb k : Nat} {c : RC} {L : List Lx.Wd} {ns : List Tr.Nd}
abbrev valF (L : List Lx.Wd) (t : Bool) : Nat → Int → Nat → List Tr.Nd → Tr.An Int := if t = true then Tr.typF L else Tr.exprF L
theorem valF_on {t : Bool} {f : Nat} {d : Int} {k : Nat} {M : List Tr.Nd} {x : Int} {k' : Nat} {M' : List Tr.Nd} (h : valF L t f d k M = .ok (x, k', M')) : k < k' := by
  cases t with
  | true => exact (Tr.prog f).typ h
  | false => exact (Tr.prog f).expr h
theorem field_row (L : List Lx.Wd) (t : Bool) (d : Int) : RowF L (fun many s => s.1.length = many ∧ s.2.length = many) (fieldG L (valF L t) d) (fun f _ s k M => Tr.fieldF L f t d s.1 s.2 k M) := by
  refine ⟨fun f many s k M hP => ?_, fun f many s k M s' k' M' h => ?_, fun f many s k M s' k' M' hP h => ?_⟩
  · obtain ⟨ks, ls⟩ := s
    obtain ⟨h1, h2⟩ : ks.length = many ∧ ls.length = many := hP
    subst h1
    show Tr.fieldF L (f + 1) t d ks ls k M = _
    rw [Tr.fieldF]
    unfold fieldG
    cases t <;> simp only [Tr.bind_bind] <;> rfl
  · unfold fieldG at h
    obtain ⟨x, k1, M1, h1, g1⟩ := Tr.bind_ok h
    obtain ⟨u, k2, M2, h2, g2⟩ := Tr.bind_ok g1
    obtain ⟨n, k3, M3, h3, g3⟩ := Tr.bind_ok g2
    obtain ⟨rfl, _⟩ := Tr.fresh_ok h1
    obtain ⟨rfl, _⟩ := Tr.must_ok h2
    have := valF_on h3
    obtain ⟨_, rfl, _⟩ := Tr.ok_inj g3
    omega
  · unfold fieldG at h
    obtain ⟨x, k1, M1, h1, g1⟩ := Tr.bind_ok h
    obtain ⟨u, k2, M2, h2, g2⟩ := Tr.bind_ok g1
    obtain ⟨n, k3, M3, h3, g3⟩ := Tr.bind_ok g2
    obtain ⟨rfl, _, _⟩ := Tr.ok_inj g3
    simp only [List.length_append, List.length_cons, List.length_nil]
    exact ⟨by rw [hP.1], by rw [hP.2]⟩
theorem alloc_sz (w : World) (o : Obj) : (w.alloc o).heap.size = w.heap.size + 1 := by simp
/-- The variables of fields are made. -/
theorem FdV.made (hR : Rd w rb c L k ns) (d kind : Int) (V : Nat) {W : World} (hW : W = (((w.alloc (.cells #[rv rb] 63)).alloc (.cells #[.int .i64 d] 3)).alloc (.cells #[.func (.func V) #[rv rb] #[]] 97)).alloc (.cells #[.int .i64 kind, .int .i64 0, .string ⟨#[]⟩, .string ⟨#[]⟩, .slice none 0 0, .slice none 0 0] 57)) :
    FdV w rb w.heap.size d kind V (.slice none 0 0) (.slice none 0 0) ([], []) W ∧ Rd W rb c L k ns ∧ Fr rb w W := by
  subst hW
  have hb : Below w.heap.size w ((((w.alloc (.cells #[rv rb] 63)).alloc (.cells #[.int .i64 d] 3)).alloc (.cells #[.func (.func V) #[rv rb] #[]] 97)).alloc (.cells #[.int .i64 kind, .int .i64 0, .string ⟨#[]⟩, .string ⟨#[]⟩, .slice none 0 0, .slice none 0 0] 57)) :=
    (((below_alloc w _).alloc (by simp) _).alloc (by simp; omega) _).alloc (by simp; omega) _
  have hR4 := hR.below hb
  have h0 := Blk.new w 63 #[rv rb]
  have h1 := Blk.new (w.alloc (.cells #[rv rb] 63)) 3 #[.int .i64 d]
  have h2 := Blk.new ((w.alloc (.cells #[rv rb] 63)).alloc (.cells #[.int .i64 d] 3)) 97 #[.func (.func V) #[rv rb] #[]]
  have h3 := Blk.new (((w.alloc (.cells #[rv rb] 63)).alloc (.cells #[.int .i64 d] 3)).alloc (.cells #[.func (.func V) #[rv rb] #[]] 97)) 57 #[.int .i64 kind, .int .i64 0, .string ⟨#[]⟩, .string ⟨#[]⟩, .slice none 0 0, .slice none 0 0]
  simp only [alloc_sz] at h1 h2 h3
  refine ⟨⟨((h0.alloc _).alloc _).alloc _, (h1.alloc _).alloc _, h2.alloc _, h3, MyR.nil w _ rb _, MyR.nil w _ rb _, (fun e => by cases e), fun i hi => ?_, Nat.le_refl _⟩, hR4, Fr.of_below hb hR⟩
  exact (hR.far (Kp.of_below hb fun _ => False) (fun _ e => e.elim)).2.1 _ (Free.new hR (Nat.le_add_right _ _))
/-- The node of fields. -/
theorem FdV.node {w0 : World} {g V : Nat} {d kind : Int} {kv lv : Value} {s : List (List UInt8) × List Int} (h : FdV w0 rb g d kind V kv lv s w) (hR : Rd w rb c L k ns) (hF : Fr rb w0 w) (hk : 1 ≤ k) (h0 : ∃ k ns, Rd w0 rb c L k ns) (h18 : kind ≠ 18) :
    Calls Tryz.prog 121 #[rv rb, .agg #[.int .i64 kind, .int .i64 0, .string ⟨#[]⟩, .string ⟨#[]⟩, kv, lv]] w (EP (fun z => .int .i64 z) w0 rb c L (Tr.node L ⟨kind, 0, [], [], s.1, s.2⟩ k ns)) := by
  obtain ⟨k1, ns1, hR1⟩ := h0
  obtain ⟨hN, hX⟩ := MyR.nd (x := ⟨kind, 0, [], [], s.1, s.2⟩) h.ks h.ls (Nat.le_of_lt hR1.rlt)
  exact (node_c hR hk hN (fun h => absurd h h18)).mono fun e w' hE => hE.pre2 ⟨_, _, hR1⟩ hF hX
theorem ent_fields1 : ∀ args w, (callFunc 161 args).run Tryz.prog w = .ok (.enter 161 args) w := enters_of Tryz.func161 rfl rfl
set_option maxHeartbeats 4000000 in
set_option maxRecDepth 100000 in
theorem fields_c {k0 V : Nat} (t : Bool) (hV : ValC L k0 V (valF L t)) (hent : ∀ args w, (callFunc V args).run Tryz.prog w = .ok (.enter V args) w) (h : Rd w rb c L k ns) (hk0 : k0 ≤ k) (hk1 : 1 ≤ k) (f : Nat) (hf : 8 * (L.length - k) + 9 ≤ f) (d : Int) (hd0 : 0 ≤ d) (hd : d ≤ 60) :
    Calls Tryz.prog 147 #[rv rb, .int .i64 d, .int .i64 (if t = true then 7 else 17), .func (.func V) #[rv rb] #[]] w (EP (fun z => .int .i64 z) w rb c L (Tr.fieldsF L f t d k ns)) := by
  obtain ⟨f, rfl⟩ : ∃ f', f = f' + 1 := ⟨f - 1, by omega⟩
  have HR := hid_ h
  have HV := hid_ hV
  have HE := hid_ (show Tr.fieldsF L (f + 1) t d k ns = if Tr.isW L [125] k = true then Tr.node L ⟨if t = true then 7 else 17, 0, [], [], [], []⟩ (k + 1) ns else Tr.bind (Tr.fieldF L f t d [] [] k ns) fun x k M => Tr.bind (Tr.must L [125] k M) fun _ k M => Tr.node L ⟨if t = true then 7 else 17, 0, [], [], x.1, x.2⟩ k M from by rw [Tr.fieldsF])
  clear h hV
  generalize Tr.fieldsF L (f + 1) t d k ns = A at *
  have H18 := hid_ (show (if t = true then (7 : Int) else 17) ≠ 18 by cases t <;> decide)
  generalize (if t = true then (7 : Int) else 17) = kind at *
  unfold rv
  go_enter Tryz.func147, Tryz.ntmps147
  go_wp2_with fail
  obtain ⟨hFd, hR4, hF4⟩ := FdV.made HR.out d kind V rfl
  unfold rv at hFd hR4 hF4
  have HFd := hid_ hFd
  have HR4 := hid_ hR4
  have HF4 := hid_ hF4
  have HM := hid_ (may_c hR4 [125])
  have HEnt := hid_ hent
  have HR0 := hid_ (show ∃ k ns, Rd w rb c L k ns from ⟨_, _, HR.out⟩)
  unfold rv at HM
  clear hFd hR4 hF4 hent
  generalize (((w.alloc (Obj.cells #[Value.pointer (some ⟨rb, 0, none⟩)] 63)).alloc (Obj.cells #[Value.int IntKind.i64 d] 3)).alloc (Obj.cells #[Value.func (Fn.func V) #[Value.pointer (some ⟨rb, 0, none⟩)] #[]] 97)).alloc (Obj.cells #[Value.int IntKind.i64 kind, Value.int IntKind.i64 0, Value.string { data := #[] }, Value.string { data := #[] }, Value.slice none 0 0, Value.slice none 0 0] 57) = W at *
  refine HM.out.mono ?_
  cases hb : Tr.isW L [125] k with
  | true =>
    rw [hb] at HE
    have HA := hid_ (HE.out.trans (if_pos rfl))
    clear HE
    rintro e w1 ⟨rfl, hR1, hF1⟩
    have HR1 := hid_ (show Rd w1 rb c L (k + 1) ns from hR1)
    have HFd1 := hid_ (HFd.out.to hF1)
    have HNd := hid_ (HFd1.out.node HR1.out (HF4.out.trans hF1) (by omega) HR0.out H18.out)
    have c0 : w1.cell? ⟨w.heap.size, 0, none⟩ = some (.pointer (some ⟨rb, 0, none⟩)) := HFd1.out.rB.cell 0
    have n0 : w1.cell? ⟨w.heap.size + 1 + 1 + 1, 0, none⟩ = some (.int .i64 kind) := HFd1.out.nB.cell 0
    have n1 : w1.cell? ⟨w.heap.size + 1 + 1 + 1, 1, none⟩ = some (.int .i64 0) := HFd1.out.nB.cell 1
    have n2 : w1.cell? ⟨w.heap.size + 1 + 1 + 1, 2, none⟩ = some (.string ⟨#[]⟩) := HFd1.out.nB.cell 2
    have n3 : w1.cell? ⟨w.heap.size + 1 + 1 + 1, 3, none⟩ = some (.string ⟨#[]⟩) := HFd1.out.nB.cell 3
    have n4 : w1.cell? ⟨w.heap.size + 1 + 1 + 1, 4, none⟩ = some (.slice none 0 0) := HFd1.out.nB.cell 4
    have n5 : w1.cell? ⟨w.heap.size + 1 + 1 + 1, 5, none⟩ = some (.slice none 0 0) := HFd1.out.nB.cell 5
    unfold rv at HNd
    clear hR1 hF1
    go_wp2_with fail
    refine (HNd.out).mono ?_
    intro e w99 hE
    rw [← HA.out] at hE
    rcases hE.cases with ⟨x, k99, ns99, hA, rfl, hR, hF⟩ | ⟨er, hA, rfl, hB⟩
    · have HE2 := hid_ hE
      clear hE hA hR hF
      go_wp2_with fail
      go_ret
      exact HE2.out
    · have HE2 := hid_ hE
      clear hE hA hB
      go_wp2_with fail
      exact ⟨rfl, HE2.out⟩
  | false =>
    rw [hb] at HE
    have HA := hid_ ((HE.out.trans (if_neg (by decide))).trans (show _ = Tr.bind (Tr.bind (Tr.fieldF L f t d [] [] k ns) fun s k M => Tr.bind (Tr.must L [125] k M) fun _ k M => .ok (s, k, M)) fun s k M => Tr.node L ⟨kind, 0, [], [], s.1, s.2⟩ k M from by simp only [Tr.bind_bind]; rfl))
    clear HE
    rintro e w1 ⟨rfl, hR1, hF1⟩
    have HR1 := hid_ (show Rd w1 rb c L k ns from hR1)
    have HF1 := hid_ (HF4.out.trans hF1)
    have HFd1 := hid_ (HFd.out.to hF1)
    have c0 : w1.cell? ⟨w.heap.size, 0, none⟩ = some (.pointer (some ⟨rb, 0, none⟩)) := HFd1.out.rB.cell 0
    have HRow := hid_ (row_c (Inv := FdI w rb w.heap.size d kind V) (w0 := w) (field_row L t d) (fun s w w' h hF => h.to hF) (fields1_c HV.out HEnt.out HR0.out w.heap.size d kind hd0 hd) ent_fields1 HR0.out HR1.out HF1.out ([], []) ⟨_, _, HFd1.out⟩ ⟨rfl, rfl⟩ hk0 hk1 f (by omega) [125])
    unfold rv at HRow
    clear hR1 hF1
    go_wp2_with fail
    refine HRow.out.mono ?_
    intro e w2 hE
    rcases hE.cases with ⟨s, k2, ns2, hA, rfl, hR, hF, hI⟩ | ⟨er, hA, rfl, hB⟩
    rotate_left
    · have HAe := hid_ (HA.out.trans (Tr.bind_err hA))
      have HBe := hid_ hB
      clear hE hA hB
      go_wp2_with fail
      rw [HAe.out]
      exact ⟨rfl, rfl, HBe.out⟩
    have HA2 := hid_ (HA.out.trans (Tr.bind_good hA))
    have hk2 : 1 ≤ k2 := by
      obtain ⟨x1, k3, M3, h1, g1⟩ := Tr.bind_ok hA
      obtain ⟨x2, k4, M4, h2, g2⟩ := Tr.bind_ok g1
      obtain ⟨_, rfl, _⟩ := Tr.ok_inj g2
      obtain ⟨rfl, _⟩ := Tr.must_ok h2
      omega
    obtain ⟨kv, lv, hI⟩ := hI
    have HNd := hid_ (hI.node hR hF hk2 HR0.out H18.out)
    have d0 : w2.cell? ⟨w.heap.size, 0, none⟩ = some (.pointer (some ⟨rb, 0, none⟩)) := hI.rB.cell 0
    have n0 : w2.cell? ⟨w.heap.size + 1 + 1 + 1, 0, none⟩ = some (.int .i64 kind) := hI.nB.cell 0
    have n1 : w2.cell? ⟨w.heap.size + 1 + 1 + 1, 1, none⟩ = some (.int .i64 0) := hI.nB.cell 1
    have n2 : w2.cell? ⟨w.heap.size + 1 + 1 + 1, 2, none⟩ = some (.string ⟨#[]⟩) := hI.nB.cell 2
    have n3 : w2.cell? ⟨w.heap.size + 1 + 1 + 1, 3, none⟩ = some (.string ⟨#[]⟩) := hI.nB.cell 3
    have n4 : w2.cell? ⟨w.heap.size + 1 + 1 + 1, 4, none⟩ = some kv := hI.nB.cell 4
    have n5 : w2.cell? ⟨w.heap.size + 1 + 1 + 1, 5, none⟩ = some lv := hI.nB.cell 5
    unfold rv at HNd
    clear hE hA hR hF hI
    go_wp2_with fail
    refine (HNd.out).mono ?_
    intro e w99 hE
    rw [← HA2.out] at hE
    rcases hE.cases with ⟨x, k99, ns99, hA, rfl, hR, hF⟩ | ⟨er, hA, rfl, hB⟩
    · have HE2 := hid_ hE
      clear hE hA hR hF
      go_wp2_with fail
      go_ret
      exact HE2.out
    · have HE2 := hid_ hE
      clear hE hA hB
      go_wp2_with fail
      exact ⟨rfl, HE2.out⟩
end
end Go.Proofs.YtmgjmagniefhoaaGreatDoor

/- The tree's reader: nodes of few parts; a step; dictionaries of a call's own. Conditions: those that each theorem names. -/
namespace Go.Proofs.YtmgjmagniefhoaaGreatDoor
open Go.RowKit Go.Maps
section
variable {w w' : World} {rb k : Nat} {c : RC} {L : List Lx.Wd} {ns : List Tr.Nd}
theorem Rd.at1 (h : Rd w rb c L k ns) : w.cell? ⟨rb, 1, none⟩ = some (.int .i64 k) ∧ w.frozen? ⟨rb, 1, none⟩ = false := by
  obtain ⟨nv, _, c1, _, _, _, _, _, f, _⟩ := h.cells
  exact ⟨c1, f 1⟩
theorem Rd.stepI (h : Rd w rb c L k ns) (hk : k + 1 < L.length) : Rd (w.setCell ⟨rb, 1, none⟩ (.int .i64 ((k : Int) + 1))) rb c L (k + 1) ns ∧ Fr rb w (w.setCell ⟨rb, 1, none⟩ (.int .i64 ((k : Int) + 1))) := by
  have hS := h.step hk
  rw [show (((k + 1 : Nat) : Int)) = (k : Int) + 1 from by omega] at hS
  exact hS
theorem Rd.more (h : Rd w rb c L k ns) (h7 : (Tr.now L k).kind ≠ 7) : k + 1 < L.length := by
  have := h.lt
  by_cases e2 : k + 1 = L.length
  · exact absurd ((h.ends k h.lt).2 e2) h7
  · omega
theorem Free.new2 (h : Rd w rb c L k ns) (hb : Below w.heap.size w w') {q : Nat} (hq : w.heap.size ≤ q) : Free w' rb q :=
  (h.far (Kp.of_below hb fun _ => False) (fun _ e => e.elim)).2.1 _ (Free.new h hq)
theorem Blk.fr {g : Nat} {t : TypeId} {cs : Array Value} (h : Blk w g t cs) (hf : Free w rb g) (hF : Fr rb w w') : Blk w' g t cs ∧ Free w' rb g :=
  ⟨hF.blk h (by have := hf.1; omega) hf.2.1, hf.fr h.lt hF⟩
/-- A node without lists. -/
theorem leaf_c (h : Rd w rb c L k ns) (hk : 1 ≤ k) (x : Tr.Nd) (hkeys : x.keys = []) (hl : x.l = []) (h18 : x.kind ≠ 18 := by simp [Tr.leaf]) : Calls Tryz.prog 121 #[rv rb, .agg #[.int .i64 x.kind, .int .i64 x.num, .string (st x.mod), .string (st x.name), .slice none 0 0, .slice none 0 0]] w (EP (fun z => .int .i64 z) w rb c L (Tr.node L x k ns)) := by
  have hn : NdOwn w rb (x, .slice none 0 0, .slice none 0 0) := ⟨by rw [show (x, Value.slice none 0 0, Value.slice none 0 0).1.keys = [] from hkeys]; exact ⟨rfl, .inl ⟨rfl, rfl⟩⟩, by rw [show (x, Value.slice none 0 0, Value.slice none 0 0).1.l = [] from hl]; exact ⟨rfl, .inl ⟨rfl, rfl⟩⟩⟩
  refine (node_c h hk hn (fun h => absurd h h18)).mono fun e w' hE => ?_
  exact hE.pre2 ⟨_, _, h⟩ (Fr.refl h) (fun q hq => by rcases hq with hq | hq <;> cases hq)
/-- A node with a list of numbers, just made. -/
theorem nodeL_c (h : Rd w rb c L k ns) (hk : 1 ≤ k) (x : Tr.Nd) (hkeys : x.keys = []) (n : Nat) (hn : x.l.length = n) (hm : n ≤ 1000) (hok : x.kind = 18 → ∃ m : Int, x.l = [m] ∧ 0 ≤ m ∧ m < ns.length := by intro h; exact absurd h (by simp)) : Calls Tryz.prog 121 #[rv rb, .agg #[.int .i64 x.kind, .int .i64 x.num, .string (st x.mod), .string (st x.name), .slice none 0 0, .slice (some ⟨w.heap.size, 0, none⟩) n n]] (w.alloc (.cells (ints x.l).toArray 3)) (EP (fun z => .int .i64 z) w rb c L (Tr.node L x k ns)) := by
  subst hn
  have hM := MyR.made (w0 := w) (e := 3) h (Nat.le_refl _) x.l.length (ints x.l).toArray (by simp [ints]) hm
  have hF := Fr.of_below (below_alloc w (.cells (ints x.l).toArray 3)) h
  have hR := h.below (below_alloc w (.cells (ints x.l).toArray 3))
  have hM0 : MyR w (w.alloc (.cells (ints x.l).toArray 3)) rb 9 (.slice none 0 0) x.keys.length (strs x.keys) := by rw [hkeys]; exact MyR.nil w _ rb _
  obtain ⟨hN, hX⟩ := MyR.nd (x := x) hM0 hM (Nat.le_of_lt h.rlt)
  refine (node_c hR hk hN hok).mono fun e w' hE => ?_
  exact hE.pre2 ⟨_, _, h⟩ hF hX
set_option maxRecDepth 100000 in
/-- A dictionary of a call's own is filled. -/
theorem dict_put2 {W w : World} {b n : Nat} {f : List UInt8 → Int} (h : DictP w b n f) (hW : Below W.heap.size W w) (hb : W.heap.size ≤ b) (hn : n < 100) {k : List UInt8} (hk : k.length ≤ 1000000) (z : Int) (hz : (Lit.int .i64 z).wf = true) :
    ∃ w', (Instr.mapUpdate 138 (.map (some b)) (.string (st k)) (.int .i64 z)).run Tryz.prog w = .ok () w' ∧ DictP w' b (n + 1) (fun t => if t = k then z else f t) ∧ Below W.heap.size W w' := by
  obtain ⟨w', h1, h2, h3⟩ := dict_put h hn hk z hz
  have hk2 : Kp (fun q => q = b) W w' := (Kp.of_below hW _).grown h3 (fun q hq => .inl (by injection hq with hq; exact hq.symm))
  exact ⟨w', h1, h2, hk2.toBelow (Nat.le_refl _) (fun q hq e => by subst e; omega)⟩
theorem dict_new2 (w : World) : DictP (w.alloc (.map #[] 0)) w.heap.size 0 (fun _ => 0) ∧ Below w.heap.size w (w.alloc (.map #[] 0)) := ⟨dict_new w, below_alloc w _⟩
set_option maxRecDepth 100000 in
/-- The dictionary of types. -/
theorem dict_T (W : World) : ∃ m1 m2 m3 m4, (Instr.mapUpdate 138 (.map (some W.heap.size)) (.string ⟨#[100, 121, 110]⟩) (.int .i64 1)).run Tryz.prog (W.alloc (.map #[] 0)) = .ok () m1 ∧ (Instr.mapUpdate 138 (.map (some W.heap.size)) (.string ⟨#[110, 117, 108, 108]⟩) (.int .i64 2)).run Tryz.prog m1 = .ok () m2 ∧ (Instr.mapUpdate 138 (.map (some W.heap.size)) (.string ⟨#[98, 111, 111, 108]⟩) (.int .i64 3)).run Tryz.prog m2 = .ok () m3 ∧ (Instr.mapUpdate 138 (.map (some W.heap.size)) (.string ⟨#[105, 110, 116]⟩) (.int .i64 4)).run Tryz.prog m3 = .ok () m4 ∧
    DictP m4 W.heap.size 4 Tr.plainT ∧ Below W.heap.size W m4 := by
  obtain ⟨h0, b0⟩ := dict_new2 W
  obtain ⟨m1, r1, h1, b1⟩ := dict_put2 h0 b0 (Nat.le_refl _) (by omega) (k := [100, 121, 110]) (by decide) 1 (by decide)
  obtain ⟨m2, r2, h2, b2⟩ := dict_put2 h1 b1 (Nat.le_refl _) (by omega) (k := [110, 117, 108, 108]) (by decide) 2 (by decide)
  obtain ⟨m3, r3, h3, b3⟩ := dict_put2 h2 b2 (Nat.le_refl _) (by omega) (k := [98, 111, 111, 108]) (by decide) 3 (by decide)
  obtain ⟨m4, r4, h4, b4⟩ := dict_put2 h3 b3 (Nat.le_refl _) (by omega) (k := [105, 110, 116]) (by decide) 4 (by decide)
  refine ⟨m1, m2, m3, m4, r1, r2, r3, r4, ?_, b4⟩
  have e : (fun t => if t = [105, 110, 116] then (4 : Int) else if t = [98, 111, 111, 108] then 3 else if t = [110, 117, 108, 108] then 2 else if t = [100, 121, 110] then 1 else 0) = Tr.plainT := by
    funext t
    unfold Tr.plainT
    by_cases e1 : t = [105, 110, 116]
    · subst e1; rfl
    by_cases e2 : t = [98, 111, 111, 108]
    · subst e2; rfl
    by_cases e3 : t = [110, 117, 108, 108]
    · subst e3; rfl
    by_cases e4 : t = [100, 121, 110]
    · subst e4; rfl
    simp [e1, e2, e3, e4]
  rw [← e]
  exact h4
set_option maxRecDepth 100000 in
/-- The dictionary of expressions. -/
theorem dict_E (W : World) : ∃ m1 m2 m3, (Instr.mapUpdate 138 (.map (some W.heap.size)) (.string ⟨#[116, 114, 117, 101]⟩) (.int .i64 13)).run Tryz.prog (W.alloc (.map #[] 0)) = .ok () m1 ∧ (Instr.mapUpdate 138 (.map (some W.heap.size)) (.string ⟨#[102, 97, 108, 115, 101]⟩) (.int .i64 14)).run Tryz.prog m1 = .ok () m2 ∧ (Instr.mapUpdate 138 (.map (some W.heap.size)) (.string ⟨#[110, 117, 108, 108]⟩) (.int .i64 15)).run Tryz.prog m2 = .ok () m3 ∧
    DictP m3 W.heap.size 3 Tr.plainE ∧ Below W.heap.size W m3 := by
  obtain ⟨h0, b0⟩ := dict_new2 W
  obtain ⟨m1, r1, h1, b1⟩ := dict_put2 h0 b0 (Nat.le_refl _) (by omega) (k := [116, 114, 117, 101]) (by decide) 13 (by decide)
  obtain ⟨m2, r2, h2, b2⟩ := dict_put2 h1 b1 (Nat.le_refl _) (by omega) (k := [102, 97, 108, 115, 101]) (by decide) 14 (by decide)
  obtain ⟨m3, r3, h3, b3⟩ := dict_put2 h2 b2 (Nat.le_refl _) (by omega) (k := [110, 117, 108, 108]) (by decide) 15 (by decide)
  refine ⟨m1, m2, m3, r1, r2, r3, ?_, b3⟩
  have e : (fun t => if t = [110, 117, 108, 108] then (15 : Int) else if t = [102, 97, 108, 115, 101] then 14 else if t = [116, 114, 117, 101] then 13 else 0) = Tr.plainE := by
    funext t
    unfold Tr.plainE
    by_cases e2 : t = [110, 117, 108, 108]
    · subst e2; rfl
    by_cases e3 : t = [102, 97, 108, 115, 101]
    · subst e3; rfl
    by_cases e4 : t = [116, 114, 117, 101]
    · subst e4; rfl
    simp [e2, e3, e4]
  rw [← e]
  exact h3
theorem plainT_is (s : List UInt8) : Tr.plainT s = 0 ∨ 0 < Tr.plainT s := by
  unfold Tr.plainT
  split
  · exact .inr (by decide)
  split
  · exact .inr (by decide)
  split
  · exact .inr (by decide)
  split
  · exact .inr (by decide)
  · exact .inl rfl
theorem plainT_18 (p : Prop) [Decidable p] (s : List UInt8) : (if p then Tr.plainT s else 0) ≠ 18 := by
  unfold Tr.plainT
  repeat' split
  all_goals decide
theorem plainE_18 (p : Prop) [Decidable p] (s : List UInt8) : (if p then Tr.plainE s else 0) ≠ 18 := by
  unfold Tr.plainE
  repeat' split
  all_goals decide
theorem plainE_is (s : List UInt8) : Tr.plainE s = 0 ∨ 0 < Tr.plainE s := by
  unfold Tr.plainE
  split
  · exact .inr (by decide)
  split
  · exact .inr (by decide)
  split
  · exact .inr (by decide)
  · exact .inl rfl
end
end Go.Proofs.YtmgjmagniefhoaaGreatDoor

/- The tree's reader: part. Conditions: those that each theorem names. -/
namespace Go.Proofs.YtmgjmagniefhoaaGreatDoor
open Go.RowKit Go.Maps
section
variable {w w' : World} {rb k : Nat} {c : RC} {L : List Lx.Wd} {ns : List Tr.Nd}
theorem ent_typ : ∀ args w, (callFunc 95 args).run Tryz.prog w = .ok (.enter 95 args) w := enters_of Tryz.func95 rfl rfl
theorem partF_eq (L : List Lx.Wd) (f : Nat) (d : Int) (k : Nat) (M : List Tr.Nd) : Tr.partF L (f + 1) d k M =
    if 0 < (if (Tr.now L k).kind = 5 then Tr.plainT (Tr.now L k).text else 0) then Tr.node L (Tr.leaf (if (Tr.now L k).kind = 5 then Tr.plainT (Tr.now L k).text else 0) []) (k + 1) M
    else if (Tr.now L k).kind = 4 then Tr.node L (Tr.leaf 5 (Tr.now L k).text) (k + 1) M
    else if (Tr.now L k).kind = 2 then Tr.node L (Tr.leaf 6 (Tr.now L k).text) (k + 1) M
    else if (Tr.now L k).kind = 1 then Tr.bind (Tr.must L [58, 58] (k + 1) M) fun _ k2 M => Tr.bind (Tr.word L 2 k2 M) fun s k3 M => Tr.node L ⟨6, 0, (Tr.now L k).text, s, [], []⟩ k3 M
    else if Tr.isW L [123] k = true then Tr.fieldsF L f true d (k + 1) M
    else if Tr.isW L [40] k = true then Tr.bind (Tr.typF L f (d + 1) (k + 1) M) fun n k M => Tr.bind (Tr.must L [41] k M) fun _ k M => .ok (n, k, M)
    else .error ((Tr.now L k).pos, 30) := by
  rw [Tr.partF]
  by_cases hP : (Tr.now L k).kind = 5 ∧ Tr.plainT (Tr.now L k).text ≠ 0
  · rw [if_pos hP]
    have e : (if (Tr.now L k).kind = 5 then Tr.plainT (Tr.now L k).text else 0) = Tr.plainT (Tr.now L k).text := if_pos hP.1
    rw [e, if_pos (by have := plainT_is (Tr.now L k).text; have := hP.2; omega)]
  · rw [if_neg hP]
    have e : (if (Tr.now L k).kind = 5 then Tr.plainT (Tr.now L k).text else 0) = 0 := by
      by_cases h5 : (Tr.now L k).kind = 5
      · rw [if_pos h5]
        exact Classical.byContradiction fun h => hP ⟨h5, h⟩
      · exact if_neg h5
    rw [e, if_neg (by decide : ¬ (0 : Int) < 0)]
    rfl
set_option maxHeartbeats 4000000 in
set_option maxRecDepth 100000 in
theorem part_c {k0 : Nat} (hp : PartC L (k0 + 1)) : PartC L k0 := by
  intro w rb k c ns f d hd0 hd hk0 hk1 hf h
  obtain ⟨f, rfl⟩ : ∃ f', f = f' + 1 := ⟨f - 1, by omega⟩
  have HV := hid_ (typ_val hp)
  have HR := hid_ h
  have HE := hid_ (partF_eq L f d k ns)
  have HN := hid_ (now_c h)
  clear h hp
  generalize Tr.partF L (f + 1) d k ns = A at *
  unfold rv
  unfold rv wordV at HN
  have hmm := @run_makeMap Tryz.prog
  go_enter Tryz.func120, Tryz.ntmps120
  go_wp2_with fail
  refine HN.out.mono ?_
  rintro e w1 ⟨rfl, hb1⟩
  have HB1 := hid_ hb1
  have HW1 := hid_ hb1.size
  clear hb1
  obtain ⟨m1, m2, m3, m4, r1, r2, r3, r4, hD, hB⟩ := dict_T (w1.alloc (.cells #[.int .i64 (Tr.now L k).kind, .string (st (Tr.now L k).text), .int .i64 (Tr.now L k).num, .int .i64 (Tr.now L k).pos] 88))
  simp only [alloc_sz] at r1 r2 r3 r4 hD
  have HB2 := hid_ (HB1.out.alloc HB1.out.size (.cells #[.int .i64 (Tr.now L k).kind, .string (st (Tr.now L k).text), .int .i64 (Tr.now L k).num, .int .i64 (Tr.now L k).pos] 88))
  have HW := hid_ (((Blk.new w1 88 #[.int .i64 (Tr.now L k).kind, .string (st (Tr.now L k).text), .int .i64 (Tr.now L k).num, .int .i64 (Tr.now L k).pos])).kp (Kp.of_below hB fun _ => False) id)
  have HB3 := hid_ (HB2.out.trans (hB.mono HB2.out.size))
  have HBc := hid_ (base_c m4 hD (Tr.now L k) (by have := HR.out.txt k; omega))
  unfold wordV at HBc
  clear hD hB HB1 HB2
  go_wp2_with fail
  refine HBc.out.mono ?_
  rintro e w3 ⟨rfl, hb3⟩
  have HB4 := hid_ (HB3.out.trans (hb3.mono HB3.out.size))
  have HR3 := hid_ (HR.out.below HB4.out)
  have HF3 := hid_ (Fr.of_below HB4.out HR.out)
  have HW3 := hid_ (HW.out.kp (Kp.of_below hb3 fun _ => False) id)
  have HFree := hid_ (Free.new2 (q := w1.heap.size) HR.out HB4.out HW1.out)
  have e0 : w3.cell? ⟨w1.heap.size, 0, none⟩ = some (.int .i64 (Tr.now L k).kind) := HW3.out.cell 0
  have e1 : w3.cell? ⟨w1.heap.size, 1, none⟩ = some (.string (st (Tr.now L k).text)) := HW3.out.cell 1
  have t1 : ∀ v, (w3.setCell ⟨rb, 1, none⟩ v).cell? ⟨w1.heap.size, 1, none⟩ = some (.string (st (Tr.now L k).text)) := fun v => (HW3.out.far (p := ⟨rb, 1, none⟩) (by have := HFree.out.1; show w1.heap.size ≠ rb; omega) v).cell 1
  obtain ⟨c1, f1⟩ := HR3.out.at1
  have hfew := HR3.out.few
  have hlt := HR3.out.lt
  have wd : IntKind.i64.wrap (d + 1) = d + 1 := IntWalk.i64_in _ (by omega)
  have H18 := hid_ (show (if (Tr.now L k).kind = 5 then Tr.plainT (Tr.now L k).text else 0) ≠ 18 from plainT_18 _ _)
  have H5 := hid_ (show 0 < (if (Tr.now L k).kind = 5 then Tr.plainT (Tr.now L k).text else 0) → (Tr.now L k).kind = 5 from fun h => Classical.byContradiction fun h5 => by rw [if_neg h5] at h; exact absurd h (by decide))
  clear hb3 HB3 HB4 HBc HW r1 r2 r3 r4 hmm HN
  generalize (if (Tr.now L k).kind = 5 then Tr.plainT (Tr.now L k).text else 0) = z at *
  by_cases hz : 0 < z
  · have HA := hid_ (HE.out.trans (if_pos hz))
    have HS := hid_ (HR3.out.stepI (HR3.out.more (by rw [H5.out hz]; decide)))
    have HNd := hid_ (leaf_c HS.out.1 (by omega) (Tr.leaf z []) rfl rfl H18.out)
    have HFs := hid_ (HF3.out.trans HS.out.2)
    unfold rv at HNd
    clear HE
    go_wp2_with fail
    refine (HNd.out).mono ?_
    intro e w99 hE
    have hE2 := hE.pre HR.out HFs.out
    rw [← HA.out] at hE2
    rcases hE2.cases with ⟨x, k99, ns99, hA, rfl, hR, hF⟩ | ⟨er, hA, rfl, hB⟩
    · have HE2 := hid_ hE2
      clear hE hE2 hA hR hF
      go_wp2_with fail
      go_ret
      exact HE2.out
    · have HE2 := hid_ hE2
      clear hE hE2 hA hB
      go_wp2_with fail
      exact ⟨rfl, HE2.out⟩
  have HE2 := hid_ (HE.out.trans (if_neg hz))
  by_cases h4 : (Tr.now L k).kind = 4
  · have q4 : ((Tr.now L k).kind == 4) = true := by rw [h4]; rfl
    have HA := hid_ (HE2.out.trans (if_pos h4))
    have HS := hid_ (HR3.out.stepI (HR3.out.more (by rw [h4]; decide)))
    have HNd := hid_ (leaf_c HS.out.1 (by omega) (Tr.leaf 5 (Tr.now L k).text) rfl rfl)
    have HFs := hid_ (HF3.out.trans HS.out.2)
    unfold rv at HNd
    clear HE HE2 h4
    go_wp2_with fail
    refine (HNd.out).mono ?_
    intro e w99 hE
    have hE2 := hE.pre HR.out HFs.out
    rw [← HA.out] at hE2
    rcases hE2.cases with ⟨x, k99, ns99, hA, rfl, hR, hF⟩ | ⟨er, hA, rfl, hB⟩
    · have HE2 := hid_ hE2
      clear hE hE2 hA hR hF
      go_wp2_with fail
      go_ret
      exact HE2.out
    · have HE2 := hid_ hE2
      clear hE hE2 hA hB
      go_wp2_with fail
      exact ⟨rfl, HE2.out⟩
  have q4 : ((Tr.now L k).kind == 4) = false := by rw [beq_eq_false_iff_ne]; exact h4
  have HE3 := hid_ (HE2.out.trans (if_neg h4))
  clear h4 HE HE2
  by_cases h4 : (Tr.now L k).kind = 2
  · have q2 : ((Tr.now L k).kind == 2) = true := by rw [h4]; rfl
    have HA := hid_ (HE3.out.trans (if_pos h4))
    have HS := hid_ (HR3.out.stepI (HR3.out.more (by rw [h4]; decide)))
    have HNd := hid_ (leaf_c HS.out.1 (by omega) (Tr.leaf 6 (Tr.now L k).text) rfl rfl)
    have HFs := hid_ (HF3.out.trans HS.out.2)
    unfold rv at HNd
    clear HE3 h4
    go_wp2_with fail
    refine (HNd.out).mono ?_
    intro e w99 hE
    have hE2 := hE.pre HR.out HFs.out
    rw [← HA.out] at hE2
    rcases hE2.cases with ⟨x, k99, ns99, hA, rfl, hR, hF⟩ | ⟨er, hA, rfl, hB⟩
    · have HE2 := hid_ hE2
      clear hE hE2 hA hR hF
      go_wp2_with fail
      go_ret
      exact HE2.out
    · have HE2 := hid_ hE2
      clear hE hE2 hA hB
      go_wp2_with fail
      exact ⟨rfl, HE2.out⟩
  have q2 : ((Tr.now L k).kind == 2) = false := by rw [beq_eq_false_iff_ne]; exact h4
  have HE4 := hid_ (HE3.out.trans (if_neg h4))
  clear h4 HE3
  by_cases h4 : (Tr.now L k).kind = 1
  · have q1 : ((Tr.now L k).kind == 1) = true := by rw [h4]; rfl
    have HA := hid_ (HE4.out.trans (if_pos h4))
    have HS := hid_ (HR3.out.stepI (HR3.out.more (by rw [h4]; decide)))
    have HWs := hid_ (HW3.out.fr HFree.out HS.out.2)
    have HFs := hid_ (HF3.out.trans HS.out.2)
    have HRs := hid_ HS.out.1
    have HMu := hid_ (must_c HRs.out [58, 58])
    unfold rv at HMu
    clear HE4 h4
    go_wp2_with fail
    refine (HMu.out).mono ?_
    intro e w4 hE
    rcases hE.cases with ⟨u, k4, ns4, hA, rfl, hR, hF⟩ | ⟨er, hA, rfl, hB⟩
    rotate_left
    · have HAe := hid_ (HA.out.trans (Tr.bind_err hA))
      have HBe := hid_ ((HFs.out.bel HR.out).trans hB)
      clear hE hA hB
      go_wp2_with fail
      rw [HAe.out]
      exact ⟨rfl, rfl, HBe.out⟩
    have HA4 := hid_ (HA.out.trans (Tr.bind_good hA))
    have HF4 := hid_ (HFs.out.trans hF)
    have HR4 := hid_ hR
    obtain ⟨rfl, rfl⟩ := Tr.must_ok hA
    have HW4 := hid_ (HWs.out.1.fr HWs.out.2 hF)
    have x1 : w4.cell? ⟨w1.heap.size, 1, none⟩ = some (.string (st (Tr.now L k).text)) := HW4.out.1.cell 1
    clear hE hA hR hF
    go_wp2_with fail
    go_region_law (first
      | (go_simp; go_at_call 121; refine (leaf_c HR6.out (by omega) ⟨6, 0, (Tr.now L k).text, s6, [], []⟩ rfl rfl).mono ?_; intro e w99 hE; have hE2 := hE.pre HR.out HF6.out; rw [← HA6.out] at hE2; rcases hE2.cases with ⟨x, k99, ns99, hA, rfl, hR, hF⟩ | ⟨er, hA, rfl, hB⟩; rotate_left; (focus (have HE2 := hid_ hE2; clear hE hE2 hA hB; exact ⟨rfl, HE2.out⟩)); have HE2 := hid_ hE2; clear hE hE2 hA hR hF)
      | (go_simp; go_at_call 62; refine (word_c (HR4.out.drew 1) 2 (by decide)).mono ?_; intro e w6 hE; rcases hE.cases with ⟨s6, k6, ns6, hA, rfl, hR, hF⟩ | ⟨er, hA, rfl, hB⟩; rotate_left; (focus (have HAe := hid_ (HA4.out.trans (Tr.bind_err hA)); have HBe := hid_ ((HF4.out.bel HR.out).trans ((Fr.drew HR4.out 1).bel HR4.out |>.trans hB)); have HQ := hid_ (show EP (fun z => .int .i64 z) w rb c L A (.panicked (thrown er)) w6 from by rw [HAe.out]; exact ⟨rfl, HBe.out⟩); clear hE hA hB; exact ⟨rfl, HQ.out⟩)); have hk6 := (Tr.word_ok hA).1; have HA6 := hid_ (HA4.out.trans (Tr.bind_good hA)); have HF6 := hid_ (HF4.out.trans ((Fr.drew HR4.out 1).trans hF)); have HR6 := hid_ hR; have HW6 := hid_ (HW4.out.1.fr HW4.out.2 ((Fr.drew HR4.out 1).trans hF)); have y1 : w6.cell? ⟨w1.heap.size, 1, none⟩ = some (.string (st (Tr.now L k).text)) := HW6.out.1.cell 1; clear hE hA hR hF)
      | fail)
    all_goals
      go_wp2_with fail
      go_ret
      exact HE2.out
  have q1 : ((Tr.now L k).kind == 1) = false := by rw [beq_eq_false_iff_ne]; exact h4
  have HE5 := hid_ (HE4.out.trans (if_neg h4))
  clear h4 HE4
  have HM := hid_ (may_c HR3.out [123])
  unfold rv at HM
  go_wp2_with fail
  refine HM.out.mono ?_
  cases hb : Tr.isW L [123] k with
  | true =>
    rintro e w4 ⟨rfl, hR4, hF4⟩
    have HA := hid_ (HE5.out.trans (if_pos hb))
    have HR4 := hid_ (show Rd w4 rb c L (k + 1) ns from hR4)
    have HF4 := hid_ (HF3.out.trans hF4)
    have HFi := hid_ (fields_c true (V := 95) HV.out ent_typ HR4.out (by omega) (by omega) f (by omega) d hd0 hd)
    unfold rv at HFi
    clear hR4 hF4 HE5 HM hb
    go_wp2_with fail
    refine (HFi.out).mono ?_
    intro e w99 hE
    have hE2 := hE.pre HR.out HF4.out
    rw [← HA.out] at hE2
    rcases hE2.cases with ⟨x, k99, ns99, hA, rfl, hR, hF⟩ | ⟨er, hA, rfl, hB⟩
    · have HE2 := hid_ hE2
      clear hE hE2 hA hR hF
      go_wp2_with fail
      go_ret
      exact HE2.out
    · have HE2 := hid_ hE2
      clear hE hE2 hA hB
      go_wp2_with fail
      exact ⟨rfl, HE2.out⟩
  | false =>
    rintro e w4 ⟨rfl, hR4, hF4⟩
    have HE6 := hid_ (HE5.out.trans (if_neg (by rw [hb]; decide)))
    have HR4 := hid_ (show Rd w4 rb c L k ns from hR4)
    have HF4 := hid_ (HF3.out.trans hF4)
    have HM2 := hid_ (may_c HR4.out [40])
    unfold rv at HM2
    clear hR4 hF4 HE5 HM hb
    go_wp2_with fail
    refine HM2.out.mono ?_
    cases hb : Tr.isW L [40] k with
    | true =>
      rintro e w5 ⟨rfl, hR5, hF5⟩
      have HA := hid_ (HE6.out.trans (if_pos hb))
      have HR5 := hid_ (show Rd w5 rb c L (k + 1) ns from hR5)
      have HF5 := hid_ (HF4.out.trans hF5)
      have HVt := hid_ (HV.out w5 rb (k + 1) c ns f (d + 1) (by omega) (by omega) (by omega) (by omega) (by omega) HR5.out)
      unfold rv at HVt
      clear hR5 hF5 HE6 HM2 hb
      go_wp2_with fail
      refine (HVt.out).mono ?_
      intro e w6 hE
      rcases hE.cases with ⟨n6, k6, ns6, hA, rfl, hR, hF⟩ | ⟨er, hA, rfl, hB⟩
      rotate_left
      · have HAe := hid_ (HA.out.trans (Tr.bind_err hA))
        have HBe := hid_ ((HF5.out.bel HR.out).trans hB)
        clear hE hA hB
        go_wp2_with fail
        rw [HAe.out]
        exact ⟨rfl, rfl, HBe.out⟩
      have HA6 := hid_ (HA.out.trans (Tr.bind_good hA))
      have HF6 := hid_ (HF5.out.trans hF)
      have HR6 := hid_ hR
      have HMu := hid_ (must_c hR [41])
      unfold rv at HMu
      clear hE hA hR hF
      go_wp2_with fail
      refine (HMu.out).mono ?_
      intro e w7 hE
      rcases hE.cases with ⟨u7, k7, ns7, hA, rfl, hR, hF⟩ | ⟨er, hA, rfl, hB⟩
      rotate_left
      · have HAe := hid_ (HA6.out.trans (Tr.bind_err hA))
        have HBe := hid_ ((HF6.out.bel HR.out).trans hB)
        clear hE hA hB
        go_wp2_with fail
        rw [HAe.out]
        exact ⟨rfl, rfl, HBe.out⟩
      have HA7 := hid_ (HA6.out.trans (Tr.bind_good hA))
      have HF7 := hid_ (HF6.out.trans hF)
      have HR7 := hid_ hR
      clear hE hA hR hF
      go_wp2_with fail
      go_ret
      rw [HA7.out]
      exact ⟨rfl, HR7.out, HF7.out⟩
    | false =>
      rintro e w5 ⟨rfl, hR5, hF5⟩
      have HA := hid_ (HE6.out.trans (if_neg (by rw [hb]; decide)))
      have HR5 := hid_ (show Rd w5 rb c L k ns from hR5)
      have HF5 := hid_ (HF4.out.trans hF5)
      have HFl := hid_ (fail_c HR5.out 30)
      unfold rv at HFl
      clear hR5 hF5 HE6 HM2 hb
      go_wp2_with fail
      refine HFl.out.mono ?_
      rintro e w6 ⟨rfl, hb6⟩
      have HB6 := hid_ ((HF5.out.bel HR.out).trans hb6)
      clear hb6
      go_wp2_with fail
      rw [HA.out]
      exact ⟨rfl, rfl, HB6.out⟩
end
end Go.Proofs.YtmgjmagniefhoaaGreatDoor
