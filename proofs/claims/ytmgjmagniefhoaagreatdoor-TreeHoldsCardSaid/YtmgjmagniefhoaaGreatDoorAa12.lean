/- What stands in these texts of the proof: Tm To Tq. Conditions: those that each theorem names. -/
import Derived.Test.YtmgjmagniefhoaaGreatDoorAa11
import Derived.Test.YtmgjmagniefhoaaGreatDoorAa08
/- The tree's reader: typ whole; as, prim, sum. Conditions: those that each theorem names. -/
namespace Go.Proofs.YtmgjmagniefhoaaGreatDoor
open Go.RowKit Go.Maps
section
variable {w w' : World} {rb k : Nat} {c : RC} {L : List Lx.Wd} {ns : List Tr.Nd}
theorem part_all (L : List Lx.Wd) : ∀ n k0 : Nat, L.length ≤ k0 + n → PartC L k0
  | 0, k0, h => fun w rb k c ns f d _ _ hk0 _ _ hR => absurd hR.lt (by omega)
  | n + 1, k0, h => part_c (part_all L n (k0 + 1) (by omega))
theorem typ_all (L : List Lx.Wd) : ValC L 0 95 (Tr.typF L) := typ_val (part_all L L.length 0 (by omega))
/-- What something is that reads, from a word on, at a depth that may be. -/
def RdC (L : List Lx.Wd) (k0 V b : Nat) (VF : Nat → Int → Nat → List Tr.Nd → Tr.An Int) : Prop := ∀ (w : World) (rb k : Nat) (c : RC) (ns : List Tr.Nd) (f : Nat) (d : Int), 0 ≤ d → d ≤ 60 → k0 ≤ k → 1 ≤ k → 8 * (L.length - k) + b ≤ f → Rd w rb c L k ns → Calls Tryz.prog V #[rv rb, .int .i64 d] w (EP (fun z => .int .i64 z) w rb c L (VF f d k ns))
set_option maxHeartbeats 4000000 in
set_option maxRecDepth 100000 in
theorem as_c (h : Rd w rb c L k ns) (hk : 1 ≤ k) (n t : Int) : Calls Tryz.prog 172 #[rv rb, .int .i64 n, .int .i64 t] w (EP (fun z => .int .i64 z) w rb c L (Tr.bind (Tr.must L [41] k ns) fun _ k M => Tr.node L ⟨24, 0, [], [], [], [n, t]⟩ k M)) := by
  have HR := hid_ h
  have HMu := hid_ (must_c h [41])
  clear h
  generalize hA0 : (Tr.bind (Tr.must L [41] k ns) fun _ k M => Tr.node L ⟨24, 0, [], [], [], [n, t]⟩ k M) = A
  have HE := hid_ hA0.symm
  clear hA0
  unfold rv
  unfold rv at HMu
  go_enter Tryz.func172, Tryz.ntmps172
  go_wp2_with fail
  refine (HMu.out).mono ?_
  intro e w1 hE
  rcases hE.cases with ⟨u, k1, ns1, hA, rfl, hR, hF⟩ | ⟨er, hA, rfl, hB⟩
  rotate_left
  · have HAe := hid_ (HE.out.trans (Tr.bind_err hA))
    have HBe := hid_ (hB)
    clear hE hA hB
    go_wp2_with fail
    rw [HAe.out]
    exact ⟨rfl, rfl, HBe.out⟩
  have HA1 := hid_ (HE.out.trans (Tr.bind_good hA))
  have HF1 := hid_ (hF)
  have HR1 := hid_ hR
  obtain ⟨rfl, rfl⟩ := Tr.must_ok hA
  have HNd := hid_ (nodeL_c hR (by omega) ⟨24, 0, [], [], [], [n, t]⟩ rfl 2 rfl (by omega))
  unfold rv at HNd
  clear hE hA hR hF
  go_wp2_with fail
  refine (HNd.out).mono ?_
  intro e w99 hE
  have hE2 := hE.pre HR.out HF1.out
  rw [← HA1.out] at hE2
  rcases hE2.cases with ⟨x, k99, ns99, hA, rfl, hR, hF⟩ | ⟨er, hA, rfl, hB⟩
  · have HE2 := hid_ hE2
    clear hE hE2 hA hR hF
    go_wp2_with fail
    go_ret
    exact HE2.out
  · have HE2 := hid_ hE2
    clear hE hE2 hA hB
    go_wp2_with fail
    exact ⟨rfl, HE2.out⟩
/-- The loop of prim. -/
structure PrR (L : List Lx.Wd) (rb : Nat) (c : RC) (w wr : World) (A : Tr.An Int) (v : Value) (g : Nat) : Prop where
  ex : ∃ (k : Nat) (ns : List Tr.Nd) (n : Int) (f : Nat), v = .int .i64 n ∧ Tr.In n ns ∧ Rd wr rb c L k ns ∧ A = Tr.dotF L f n k ns ∧ L.length - k + 1 ≤ f ∧ 1 ≤ k ∧ L.length - k + 1 ≤ g
  fr : Fr rb w wr
set_option maxHeartbeats 4000000 in
set_option maxRecDepth 100000 in
theorem prim_c {k0 : Nat} (ha : RdC L k0 162 5 (Tr.atomF L)) : RdC L k0 148 6 (Tr.primF L) := by
  intro w rb k c ns f d hd0 hd hk0 hk1 hf h
  obtain ⟨f, rfl⟩ : ∃ f', f = f' + 1 := ⟨f - 1, by omega⟩
  have HR := hid_ h
  have HE := hid_ (show Tr.primF L (f + 1) d k ns = Tr.bind (Tr.atomF L f d k ns) fun n k M => Tr.dotF L f n k M from by rw [Tr.primF])
  have HAt := hid_ (ha w rb k c ns f d hd0 hd hk0 hk1 (by omega) h)
  have HR0 := hid_ h
  clear h ha
  generalize Tr.primF L (f + 1) d k ns = A at *
  unfold rv
  unfold rv at HAt
  go_enter Tryz.func148, Tryz.ntmps148
  go_wp2_with fail
  refine (HAt.out).mono ?_
  intro e w1 hE
  rcases hE.cases with ⟨n1, k1, ns1, hA, rfl, hR, hF⟩ | ⟨er, hA, rfl, hB⟩
  rotate_left
  · have HAe := hid_ (HE.out.trans (Tr.bind_err hA))
    have HBe := hid_ (hB)
    clear hE hA hB
    go_wp2_with fail
    rw [HAe.out]
    exact ⟨rfl, rfl, HBe.out⟩
  have HA1 := hid_ (HE.out.trans (Tr.bind_good hA))
  have HF1 := hid_ (hF)
  have HR1 := hid_ hR
  have hgo := (Tr.prog f).atom hA
  have HS := hid_ (show PrR L rb c w w1 A (.int .i64 n1) (L.length + 1) from ⟨⟨k1, ns1, n1, f, rfl, ((Tr.vals f).atom hA).1, hR, HA1.out, by omega, by omega, by omega⟩, hF⟩)
  clear hE hA hR hF
  go_wp2_with fail
  clear HE HA1 HF1 HR1 HAt HR hgo
  go_loopg [5] (L.length + 1) (fun g v wr => PrR L rb c w wr A v g)
  case atStart => exact HS.out
  case round =>
    obtain ⟨⟨k, ns, n, f, rfl, hin, hR, hA, hf, hk1, hg⟩, hF⟩ := hrel
    have HIn := hid_ hin
    clear hin
    obtain ⟨f, rfl⟩ : ∃ f', f = f' + 1 := ⟨f - 1, by omega⟩
    have HF := hid_ hF
    have HM := hid_ (may_c hR [46])
    have HAl := hid_ (show A = if Tr.isW L [46] k = true then Tr.bind (Tr.word L 1 (k + 1) ns) fun s k M => Tr.bind (Tr.node L ⟨18, 0, [], s, [], [n]⟩ k M) fun n k M => Tr.dotF L f n k M else .ok (n, k, ns) from by rw [hA, Tr.dotF])
    have HLt := hid_ (fun hs => isw_lt (s := [46]) hR hs)
    unfold rv at HM
    clear hR hF hA HS
    cases hb : Tr.isW L [46] k with
    | true =>
      rw [hb] at HM HAl HLt
      have hkl := HLt.out rfl
      have HA3 := hid_ (HAl.out.trans (if_pos rfl))
      clear HAl HLt
      go_wp2_with fail
      refine HM.out.mono ?_
      rintro e w3 ⟨rfl, hR3, hF3⟩
      have HF3 := hid_ (HF.out.trans hF3)
      have HWd := hid_ (word_c (show Rd w3 rb c L (k + 1) ns from hR3) 1 (by decide))
      unfold rv at HWd
      clear hR3 hF3
      go_wp2_with fail
      refine (HWd.out).mono ?_
      intro e w4 hE
      rcases hE.cases with ⟨s4, k4, ns4, hA, rfl, hR, hF⟩ | ⟨er, hA, rfl, hB⟩
      rotate_left
      · have HAe := hid_ (HA3.out.trans (Tr.bind_err hA))
        have HBe := hid_ ((HF3.out.bel HR0.out).trans hB)
        clear hE hA hB
        go_wp2_with fail
        rw [HAe.out]
        exact ⟨rfl, rfl, HBe.out⟩
      have HA4 := hid_ (HA3.out.trans (Tr.bind_good hA))
      have HF4 := hid_ (HF3.out.trans hF)
      have HR4 := hid_ hR
      obtain ⟨rfl, rfl⟩ := Tr.word_ok hA
      have HNd := hid_ (nodeL_c hR (by omega) ⟨18, 0, [], s4, [], [n]⟩ rfl 1 rfl (by omega) (fun _ => ⟨n, rfl, HIn.out.1, HIn.out.2⟩))
      unfold rv at HNd
      clear hE hA hR hF
      go_wp2_with fail
      refine (HNd.out).mono ?_
      intro e w5 hE
      rcases hE.cases with ⟨n5, k5, ns5, hA, rfl, hR, hF⟩ | ⟨er, hA, rfl, hB⟩
      rotate_left
      · have HAe := hid_ (HA4.out.trans (Tr.bind_err hA))
        have HBe := hid_ ((HF4.out.bel HR0.out).trans hB)
        clear hE hA hB
        go_wp2_with fail
        rw [HAe.out]
        exact ⟨rfl, rfl, HBe.out⟩
      have HA5 := hid_ (HA4.out.trans (Tr.bind_good hA))
      have HF5 := hid_ (HF4.out.trans hF)
      have HR5 := hid_ hR
      have hk5 := hid_ (Tr.node_ok hA).1
      have HPr := hid_ (show PrR L rb c w w5 A (.int .i64 n5) (gk - 1) from ⟨⟨k5, ns5, n5, f, rfl, (Tr.node_in hA).1, hR, HA5.out, by have := hk5.out; omega, by have := hk5.out; omega, by have := hk5.out; omega⟩, HF5.out⟩)
      clear hE hA hR hF
      go_wp2_with fail
      go_roundg (gk - 1)
      case rel => exact HPr.out
      case measure => omega
    | false =>
      rw [hb] at HM HAl
      have HA3 := hid_ (HAl.out.trans (if_neg (by decide)))
      clear HAl HLt
      go_wp2_with fail
      refine HM.out.mono ?_
      rintro e w3 ⟨rfl, hR3, hF3⟩
      have HR3 := hid_ (show Rd w3 rb c L k ns from hR3)
      have HF3 := hid_ (HF.out.trans hF3)
      clear hR3 hF3
      go_wp2_with fail
      go_ret
      rw [HA3.out]
      exact ⟨rfl, HR3.out, HF3.out⟩
end
end Go.Proofs.YtmgjmagniefhoaaGreatDoor

/- The tree's reader: sum. Conditions: those that each theorem names. -/
namespace Go.Proofs.YtmgjmagniefhoaaGreatDoor
open Go.RowKit Go.Maps
section
variable {w w' : World} {rb k : Nat} {c : RC} {L : List Lx.Wd} {ns : List Tr.Nd}
theorem fld1 (a b c d : Value) (W : World) : (Instr.field 88 (.agg #[a, b, c, d]) 1).run Tryz.prog W = .ok b W := by kernel_rfl
/-- Sums, plainly. -/
def sumG (L : List Lx.Wd) (f : Nat) (d : Int) (k : Nat) (M : List Tr.Nd) : Tr.An Int := Tr.bind (Tr.primF L f d k M) fun n k M => Tr.sumF L f d n k M
/-- The loop of sum. -/
structure SuR (L : List Lx.Wd) (rb : Nat) (c : RC) (w wr : World) (A : Tr.An Int) (d : Int) (k0 : Nat) (v : Value) (g : Nat) : Prop where
  ex : ∃ (k : Nat) (ns : List Tr.Nd) (n : Int) (f : Nat), v = .int .i64 n ∧ Rd wr rb c L k ns ∧ A = Tr.sumF L f d n k ns ∧ 8 * (L.length - k) + 7 ≤ f ∧ k0 ≤ k ∧ 1 ≤ k ∧ L.length - k + 1 ≤ g
  fr : Fr rb w wr
set_option maxHeartbeats 4000000 in
set_option maxRecDepth 100000 in
theorem sum_c {k0 : Nat} (ha : RdC L k0 148 6 (Tr.primF L)) : RdC L k0 125 6 (sumG L) := by
  intro w rb k c ns f d hd0 hd hk0 hk1 hf h
  have HR := hid_ h
  have HE := hid_ (show sumG L f d k ns = Tr.bind (Tr.primF L f d k ns) fun n k M => Tr.sumF L f d n k M from rfl)
  have HAt := hid_ (ha w rb k c ns f d hd0 hd hk0 hk1 (by omega) h)
  have HR0 := hid_ h
  have HPc := hid_ ha
  clear h ha
  generalize sumG L f d k ns = A at *
  unfold rv
  unfold rv at HAt
  go_enter Tryz.func125, Tryz.ntmps125
  go_wp2_with fail
  refine (HAt.out).mono ?_
  intro e w1 hE
  rcases hE.cases with ⟨n1, k1, ns1, hA, rfl, hR, hF⟩ | ⟨er, hA, rfl, hB⟩
  rotate_left
  · have HAe := hid_ (HE.out.trans (Tr.bind_err hA))
    have HBe := hid_ (hB)
    clear hE hA hB
    go_wp2_with fail
    rw [HAe.out]
    exact ⟨rfl, rfl, HBe.out⟩
  have HA1 := hid_ (HE.out.trans (Tr.bind_good hA))
  have HF1 := hid_ (hF)
  have HR1 := hid_ hR
  have hgo := (Tr.prog f).prim hA
  have hlt1 := hR.lt
  have HS := hid_ (show SuR L rb c w w1 A d k0 (.int .i64 n1) (L.length + 1) from ⟨⟨k1, ns1, n1, f, rfl, hR, HA1.out, by omega, by omega, by omega, by omega⟩, hF⟩)
  clear hE hA hR hF
  go_wp2_with fail
  clear HE HA1 HF1 HR1 HAt HR hgo
  go_loopg [5, 6] (L.length + 1) (fun g v _ wr => SuR L rb c w wr A d k0 v g)
  case atStart => exact HS.out
  case round =>
    obtain ⟨⟨k, ns, n, f, rfl, hR, hA, hf, hk0, hk1, hg⟩, hF⟩ := hrel
    obtain ⟨f, rfl⟩ : ∃ f', f = f' + 1 := ⟨f - 1, by omega⟩
    have HF := hid_ hF
    have HR := hid_ hR
    have HAl := hid_ (show A = if (Tr.isW L [43] k || Tr.isW L [60] k || Tr.isW L [61, 61] k) = true then Tr.bind (Tr.primF L f d (k + 1) ns) fun b k2 M => Tr.bind (Tr.node L ⟨23, 0, [], (Tr.now L k).text, [], [n, b]⟩ k2 M) fun n k M => Tr.sumF L f d n k M else .ok (n, k, ns) from by rw [hA, Tr.sumF])
    clear hR hF hA HS
    go_upto_region 2 with fail
    go_cut [19] (fun s19 wx => s19 = .bool (Tr.isW L [43] k || Tr.isW L [60] k || Tr.isW L [61, 61] k) ∧ Rd wx rb c L k ns ∧ Fr rb w wx)
    case first =>
      have HI1 := hid_ (is_c HR.out [43])
      unfold rv at HI1
      go_wp2_with fail
      refine HI1.out.mono ?_
      cases hb1 : Tr.isW L [43] k with
      | true =>
        rintro e w3 ⟨rfl, hb3⟩
        have HR3 := hid_ (HR.out.below hb3)
        have HF3 := hid_ (HF.out.trans (Fr.of_below hb3 HR.out))
        clear hb3
        go_wp2_with fail
        go_meet
        exact ⟨by rw [hb1]; rfl, HR3.out, HF3.out⟩
      | false =>
        rintro e w3 ⟨rfl, hb3⟩
        have HR3 := hid_ (HR.out.below hb3)
        have HF3 := hid_ (HF.out.trans (Fr.of_below hb3 HR.out))
        clear hb3
        have HI2 := hid_ (is_c HR3.out [60])
        unfold rv at HI2
        go_wp2_with fail
        refine HI2.out.mono ?_
        cases hb2 : Tr.isW L [60] k with
        | true =>
          rintro e w4 ⟨rfl, hb4⟩
          have HR4 := hid_ (HR3.out.below hb4)
          have HF4 := hid_ (HF3.out.trans (Fr.of_below hb4 HR3.out))
          clear hb4
          go_wp2_with fail
          go_meet
          exact ⟨by rw [hb1, hb2]; rfl, HR4.out, HF4.out⟩
        | false =>
          rintro e w4 ⟨rfl, hb4⟩
          have HR4 := hid_ (HR3.out.below hb4)
          have HF4 := hid_ (HF3.out.trans (Fr.of_below hb4 HR3.out))
          clear hb4
          have HI3 := hid_ (is_c HR4.out [61, 61])
          unfold rv at HI3
          go_wp2_with fail
          refine HI3.out.mono ?_
          rintro e w5 ⟨rfl, hb5⟩
          have HR5 := hid_ (HR4.out.below hb5)
          have HF5 := hid_ (HF4.out.trans (Fr.of_below hb5 HR4.out))
          clear hb5
          go_wp2_with fail
          go_meet
          exact ⟨by rw [hb1, hb2]; rfl, HR5.out, HF5.out⟩
    case rest =>
      obtain ⟨rfl, hR3, hF3⟩ := hcut
      have HLt := hid_ (show (Tr.isW L [43] k || Tr.isW L [60] k || Tr.isW L [61, 61] k) = true → k + 1 < L.length from fun h => by
        rw [Bool.or_eq_true, Bool.or_eq_true] at h
        rcases h with (h | h) | h
        · exact isw_lt hR3 h
        · exact isw_lt hR3 h
        · exact isw_lt hR3 h)
      generalize (Tr.isW L [43] k || Tr.isW L [60] k || Tr.isW L [61, 61] k) = b at *
      have HR3 := hid_ hR3
      have HF3 := hid_ hF3
      clear hR3 hF3
      cases b with
      | true =>
        have hkl := HLt.out rfl
        have HA3 := hid_ (HAl.out.trans (if_pos rfl))
        have HN := hid_ (now_c HR3.out)
        unfold rv wordV at HN
        clear HAl HLt
        go_wp2_with fail
        refine HN.out.mono ?_
        rintro e w4 ⟨rfl, hb4⟩
        have HR4 := hid_ (HR3.out.below hb4)
        have HF4 := hid_ (HF3.out.trans (Fr.of_below hb4 HR3.out))
        have q1 := fld1 (.int .i64 (Tr.now L k).kind) (.string (st (Tr.now L k).text)) (.int .i64 (Tr.now L k).num) (.int .i64 (Tr.now L k).pos) w4
        obtain ⟨c1, f1⟩ := HR4.out.at1
        have hfew := HR4.out.few
        have HSt := hid_ (HR4.out.stepI hkl)
        have HF5 := hid_ (HF4.out.trans HSt.out.2)
        have HPr := hid_ (HPc.out _ rb (k + 1) c ns f d hd0 hd (by omega) (by omega) (by omega) HSt.out.1)
        unfold rv at HPr
        clear hb4
        go_wp2_with fail
        refine (HPr.out).mono ?_
        intro e w6 hE
        rcases hE.cases with ⟨n6, k6, ns6, hA, rfl, hR, hF⟩ | ⟨er, hA, rfl, hB⟩
        rotate_left
        · have HAe := hid_ (HA3.out.trans (Tr.bind_err hA))
          have HBe := hid_ ((HF5.out.bel HR0.out).trans hB)
          clear hE hA hB
          go_wp2_with fail
          rw [HAe.out]
          exact ⟨rfl, rfl, HBe.out⟩
        have HA6 := hid_ (HA3.out.trans (Tr.bind_good hA))
        have HF6 := hid_ (HF5.out.trans hF)
        have HR6 := hid_ hR
        have hgo := (Tr.prog f).prim hA
        have HNd := hid_ (nodeL_c hR (by omega) ⟨23, 0, [], (Tr.now L k).text, [], [n, n6]⟩ rfl 2 rfl (by omega))
        unfold rv at HNd
        clear hE hA hR hF
        go_wp2_with fail
        refine (HNd.out).mono ?_
        intro e w7 hE
        rcases hE.cases with ⟨n7, k7, ns7, hA, rfl, hR, hF⟩ | ⟨er, hA, rfl, hB⟩
        rotate_left
        · have HAe := hid_ (HA6.out.trans (Tr.bind_err hA))
          have HBe := hid_ ((HF6.out.bel HR0.out).trans hB)
          clear hE hA hB
          go_wp2_with fail
          rw [HAe.out]
          exact ⟨rfl, rfl, HBe.out⟩
        have HA7 := hid_ (HA6.out.trans (Tr.bind_good hA))
        have HF7 := hid_ (HF6.out.trans hF)
        have HR7 := hid_ hR
        have hk7 := hid_ (Tr.node_ok hA).1
        have hlt7 := hR.lt
        have HSu := hid_ (show SuR L rb c w w7 A d k0 (.int .i64 n7) (gk - 1) from ⟨⟨k7, ns7, n7, f, rfl, hR, HA7.out, by have := hk7.out; omega, by have := hk7.out; omega, by have := hk7.out; omega, by have := hk7.out; omega⟩, HF7.out⟩)
        clear hE hA hR hF
        go_wp2_with fail
        go_roundg (gk - 1)
        case rel => exact HSu.out
        case measure => omega
      | false =>
        have HA3 := hid_ (HAl.out.trans (if_neg (by decide)))
        clear HAl HLt
        go_wp2_with fail
        go_ret
        rw [HA3.out]
        exact ⟨rfl, HR3.out, HF3.out⟩
end
end Go.Proofs.YtmgjmagniefhoaaGreatDoor

/- The tree's reader: steps. Conditions: those that each theorem names. -/
namespace Go.Proofs.YtmgjmagniefhoaaGreatDoor
open Go.RowKit Go.Maps
section
variable {w w' w0 : World} {rb k : Nat} {c : RC} {L : List Lx.Wd} {ns : List Tr.Nd}
/-- What a part answers that gives a list of its own. -/
def EPL (w0 : World) (rb : Nat) (c : RC) (L : List Lx.Wd) (A : Tr.An (List Int)) (e : Ending) (w' : World) : Prop := match A with
  | .ok (l, k, ns) => ∃ lv, e = .returned lv ∧ Rd w' rb c L k ns ∧ Fr rb w0 w' ∧ MyR w0 w' rb 3 lv l.length (ints l)
  | .error er => e = .panicked (thrown er) ∧ Below rb w0 w'
theorem EPL.cases {A : Tr.An (List Int)} {e : Ending} (h : EPL w0 rb c L A e w') :
    (∃ l k ns lv, A = .ok (l, k, ns) ∧ e = .returned lv ∧ Rd w' rb c L k ns ∧ Fr rb w0 w' ∧ MyR w0 w' rb 3 lv l.length (ints l)) ∨ (∃ er, A = .error er ∧ e = .panicked (thrown er) ∧ Below rb w0 w') := by
  cases A with
  | error er => exact .inr ⟨er, rfl, h⟩
  | ok x =>
    obtain ⟨x, k, ns⟩ := x
    obtain ⟨lv, h⟩ := h
    exact .inl ⟨x, k, ns, lv, rfl, h⟩
/-- Steps, plainly. -/
def stepsG (L : List Lx.Wd) (f : Nat) (d : Int) : List (List UInt8) → List Int → Nat → List Tr.Nd → Tr.An (List Int)
  | [], l, k, M => .ok (l, k, M)
  | s :: ws, l, k, M => Tr.bind (if s = [] then .ok ((), k, M) else Tr.must L s k M) fun _ k M => Tr.bind (Tr.exprF L f (d + 1) k M) fun n k M => stepsG L f d ws (l ++ [n]) k M
/-- The loop of steps. -/
structure StR (L : List Lx.Wd) (rb : Nat) (c : RC) (w0 wr : World) (A : Tr.An (List Int)) (d : Int) (f k0 : Nat) (W : List (List UInt8)) (wv v vi : Value) (g : Nat) : Prop where
  ex : ∃ (k : Nat) (ns : List Tr.Nd) (l : List Int) (i : Nat), vi = .int .i64 i ∧ i ≤ W.length ∧ l.length = i ∧ Rd wr rb c L k ns ∧ MyR w0 wr rb 3 v l.length (ints l) ∧ A = stepsG L f d (W.drop i) l k ns ∧ 8 * (L.length - k) + 7 ≤ f ∧ k0 ≤ k ∧ 1 ≤ k ∧ W.length - i + 1 ≤ g
  wo : MyR w0 wr rb 9 wv W.length (strs W)
  fr : Fr rb w0 wr
set_option maxHeartbeats 4000000 in
set_option maxRecDepth 100000 in
theorem steps_c {k0 : Nat} (he : ValC L k0 97 (Tr.exprF L)) (h : Rd w rb c L k ns) (h0 : ∃ k ns, Rd w0 rb c L k ns) (hF : Fr rb w0 w) (W : List (List UInt8)) (hW : W.length ≤ 10) {wv : Value} (hwv : MyR w0 w rb 9 wv W.length (strs W)) (hk0 : k0 ≤ k) (hk1 : 1 ≤ k) (f : Nat) (hf : 8 * (L.length - k) + 7 ≤ f) (d : Int) (hd0 : 0 ≤ d) (hd : d ≤ 60) :
    Calls Tryz.prog 124 #[rv rb, .int .i64 d, wv] w (EPL w0 rb c L (stepsG L f d W [] k ns)) := by
  have HS := hid_ (show StR L rb c w0 w (stepsG L f d W [] k ns) d f k0 W wv (.slice none 0 0) (.int .i64 0) (W.length + 1) from ⟨⟨k, ns, [], 0, rfl, by omega, rfl, h, MyR.nil w0 w rb _, rfl, hf, hk0, hk1, by omega⟩, hwv, hF⟩)
  obtain ⟨kz, nsz, h0⟩ := h0
  have HR0 := hid_ h0
  have HE := hid_ he
  have wd : IntKind.i64.wrap (d + 1) = d + 1 := IntWalk.i64_in _ (by omega)
  obtain ⟨B0, dd0, rfl⟩ := own_form hwv.own
  obtain ⟨i0, hi0, hz0, hz1, hz2⟩ := info_parts Tryz.infoI
  clear h h0 hF hwv he hf hk0 hk1
  generalize stepsG L f d W [] k ns = A at *
  unfold rv
  go_enter Tryz.func124, Tryz.ntmps124
  go_wp2_with fail
  go_loopg [6, 8, 11] (W.length + 1) (fun g v6 _ v11 wr => StR L rb c w0 wr A d f k0 W (.slice B0 W.length dd0) v6 v11 g)
  case atStart => exact HS.out
  case round =>
    obtain ⟨⟨k, ns, l, i, rfl, hi, hl, hR, hown, hA, hf, hk0, hk1, hg⟩, hwo, hF⟩ := hrel
    obtain ⟨B, dd, rfl⟩ := own_form hown.own
    have HR := hid_ hR
    have HF := hid_ hF
    have HOwn := hid_ hown
    have HWo := hid_ hwo
    have HL := hid_ hl
    have HA := hid_ hA
    clear hR hF hown hwo hl hA HS
    by_cases hlt : i < W.length
    · have b0 : (0 : Int) ≤ (i : Int) := by omega
      have b1 : (i : Int) < (W.length : Int) := by omega
      have HA0 := hid_ (show A = Tr.bind (if W[i] = [] then .ok ((), k, ns) else Tr.must L W[i] k ns) fun _ k M => Tr.bind (Tr.exprF L f (d + 1) k M) fun n k M => stepsG L f d (W.drop (i + 1)) (l ++ [n]) k M from by rw [HA.out, List.drop_eq_getElem_cons hlt, stepsG])
      have c0 : ∃ g, B0 = some ⟨g, 0, none⟩ ∧ wr.cell? ⟨g, i, none⟩ = some (.string (st W[i])) := by
        rcases HWo.out.own.2 with ⟨hv, h0⟩ | ⟨g, cap, cur, hv, _⟩
        · rw [h0] at hlt; omega
        · injection hv with hv1 hv2 hv3
          subst hv1
          subst hv3
          exact ⟨g, rfl, own_cell HWo.out.own i _ (by unfold strs; rw [List.getElem?_map, List.getElem?_eq_getElem hlt]; rfl)⟩
      obtain ⟨g0, rfl, c0⟩ := c0
      clear HA
      by_cases hs : W[i] = []
      · have HA1 := hid_ (show A = Tr.bind (Tr.exprF L f (d + 1) k ns) fun n k M => stepsG L f d (W.drop (i + 1)) (l ++ [n]) k M from by rw [HA0.out, if_pos hs]; rfl)
        have hst : st W[i] = ⟨#[]⟩ := by rw [hs]; rfl
        rw [hst] at c0
        have hFa : Fr rb wr wr := Fr.refl HR.out
        clear HA0 hst hs
        have HFa := hFa
        have HO4 := hid_ (HOwn.out.fr HFa)
        have HW4 := hid_ (HWo.out.fr HFa)
        have HEx := hid_ (HE.out wr rb k c ns f (d + 1) (by omega) (by omega) (by omega) (by omega) (by have := HR.out.lt; omega) HR.out)
        unfold rv at HEx
        go_wp2_with fail
        refine (HEx.out).mono ?_
        intro e w5 hE
        rcases hE.cases with ⟨n5, k5, ns5, hA, rfl, hR, hF⟩ | ⟨er, hA, rfl, hB⟩
        rotate_left
        · have HAe := hid_ (HA1.out.trans (Tr.bind_err hA))
          have HBe := hid_ ((HF.out.bel HR0.out).trans hB)
          clear hE hA hB
          go_wp2_with fail
          rw [HAe.out]
          exact ⟨rfl, rfl, HBe.out⟩
        have HA5 := hid_ (HA1.out.trans (Tr.bind_good hA))
        have HF5 := hid_ (HF.out.trans hF)
        have HR5 := hid_ hR
        have hgo := (Tr.prog f).expr hA
        have hlt5 := hR.lt
        have HO5 := hid_ (HO4.out.fr hF)
        have HW5 := hid_ (HW4.out.fr hF)
        have HO6 := hid_ (HO5.out.fr (Fr.of_below (below_alloc w5 (.cells #[.int .i64 n5] 3)) hR))
        clear hE hA hR hF
        go_wp2_with (first | (at_builtin; refine wpList_append_any rfl (.tmp 20) (.tmp 25) 22 rfl w0.heap.size 3 i0 _ 1 8 Tryz.underlying22 hi0 hz0 hz1 hz2 rfl (by omega) (.slice B l.length dd) l.length _ rfl HO6.out.own (some ⟨w5.heap.size, 0, none⟩) 1 1 [.int .i64 n5] rfl rfl (fun h => by cases h) (by intro ad had j u hu; injection had with had; subst had; exact World.news_of_block (heap_alloc_new _ _) j u hu) (by simp [Value.oneCell']) (by have := HL.out; unfold maxLen; omega) (by have := HL.out; omega) (Nat.le_trans HF5.out.kp.size (below_alloc _ _).size) ?_; intro A1 c1 w6 hown hgrow hat))
        obtain ⟨hm, hr, hf6, hk6, hfree⟩ := HO5.out.grown HR5.out HF5.out (below_alloc _ _) hgrow hown hat
        have hw6 : MyR w0 w6 rb 9 (.slice (some ⟨g0, 0, none⟩) W.length dd0) W.length (strs W) := ⟨own_kp HW5.out.own hk6 (fun q hq e => own_ne HW5.out.own HO5.out.own (by decide) hq e), fun q hq => hfree q (HW5.out.free q hq)⟩
        have HSt := hid_ (show StR L rb c w0 w6 A d f k0 W (.slice (some ⟨g0, 0, none⟩) W.length dd0) (.slice A1 (l.length + 1) c1) (.int .i64 ((i + 1 : Nat) : Int)) (gk - 1) from ⟨⟨k5, ns5, l ++ [n5], i + 1, rfl, by omega, by rw [List.length_append, HL.out]; rfl, hr, by rw [List.length_append, ← ints_snoc]; exact hm, HA5.out, by omega, by omega, by omega, by omega⟩, hw6, hf6⟩)
        clear hm hr hf6 hown hgrow hat hk6 hfree hw6
        go_wp2_with fail
        go_roundg (gk - 1)
        case rel => exact HSt.out
        case measure => omega
      · have HA1 := hid_ (show A = Tr.bind (Tr.must L W[i] k ns) fun _ k M => Tr.bind (Tr.exprF L f (d + 1) k M) fun n k M => stepsG L f d (W.drop (i + 1)) (l ++ [n]) k M from by rw [HA0.out, if_neg hs])
        have q0 : (st W[i]).toList.isEmpty = false := str_some hs
        have HMu := hid_ (must_c HR.out W[i])
        unfold rv at HMu
        clear HA0 hs
        go_wp2_with fail
        refine (HMu.out).mono ?_
        intro e w4 hE
        rcases hE.cases with ⟨u4, k4, ns4, hA, rfl, hR, hF⟩ | ⟨er, hA, rfl, hB⟩
        rotate_left
        · have HAe := hid_ (HA1.out.trans (Tr.bind_err hA))
          have HBe := hid_ ((HF.out.bel HR0.out).trans hB)
          clear hE hA hB
          go_wp2_with fail
          rw [HAe.out]
          exact ⟨rfl, rfl, HBe.out⟩
        have HA4 := hid_ (HA1.out.trans (Tr.bind_good hA))
        have HF4 := hid_ (HF.out.trans hF)
        have HR4 := hid_ hR
        have HFa := hF
        obtain ⟨hk4, _⟩ := Tr.must_ok hA
        have hlt4 := hR.lt
        clear hE hA hR hF
        go_wp2_with fail
        have HO4 := hid_ (HOwn.out.fr HFa)
        have HW4 := hid_ (HWo.out.fr HFa)
        have HEx := hid_ (HE.out w4 rb k4 c ns4 f (d + 1) (by omega) (by omega) (by omega) (by omega) (by have := HR4.out.lt; omega) HR4.out)
        unfold rv at HEx
        go_wp2_with fail
        refine (HEx.out).mono ?_
        intro e w5 hE
        rcases hE.cases with ⟨n5, k5, ns5, hA, rfl, hR, hF⟩ | ⟨er, hA, rfl, hB⟩
        rotate_left
        · have HAe := hid_ (HA4.out.trans (Tr.bind_err hA))
          have HBe := hid_ ((HF4.out.bel HR0.out).trans hB)
          clear hE hA hB
          go_wp2_with fail
          rw [HAe.out]
          exact ⟨rfl, rfl, HBe.out⟩
        have HA5 := hid_ (HA4.out.trans (Tr.bind_good hA))
        have HF5 := hid_ (HF4.out.trans hF)
        have HR5 := hid_ hR
        have hgo := (Tr.prog f).expr hA
        have hlt5 := hR.lt
        have HO5 := hid_ (HO4.out.fr hF)
        have HW5 := hid_ (HW4.out.fr hF)
        have HO6 := hid_ (HO5.out.fr (Fr.of_below (below_alloc w5 (.cells #[.int .i64 n5] 3)) hR))
        clear hE hA hR hF
        go_wp2_with (first | (at_builtin; refine wpList_append_any rfl (.tmp 20) (.tmp 25) 22 rfl w0.heap.size 3 i0 _ 1 8 Tryz.underlying22 hi0 hz0 hz1 hz2 rfl (by omega) (.slice B l.length dd) l.length _ rfl HO6.out.own (some ⟨w5.heap.size, 0, none⟩) 1 1 [.int .i64 n5] rfl rfl (fun h => by cases h) (by intro ad had j u hu; injection had with had; subst had; exact World.news_of_block (heap_alloc_new _ _) j u hu) (by simp [Value.oneCell']) (by have := HL.out; unfold maxLen; omega) (by have := HL.out; omega) (Nat.le_trans HF5.out.kp.size (below_alloc _ _).size) ?_; intro A1 c1 w6 hown hgrow hat))
        obtain ⟨hm, hr, hf6, hk6, hfree⟩ := HO5.out.grown HR5.out HF5.out (below_alloc _ _) hgrow hown hat
        have hw6 : MyR w0 w6 rb 9 (.slice (some ⟨g0, 0, none⟩) W.length dd0) W.length (strs W) := ⟨own_kp HW5.out.own hk6 (fun q hq e => own_ne HW5.out.own HO5.out.own (by decide) hq e), fun q hq => hfree q (HW5.out.free q hq)⟩
        have HSt := hid_ (show StR L rb c w0 w6 A d f k0 W (.slice (some ⟨g0, 0, none⟩) W.length dd0) (.slice A1 (l.length + 1) c1) (.int .i64 ((i + 1 : Nat) : Int)) (gk - 1) from ⟨⟨k5, ns5, l ++ [n5], i + 1, rfl, by omega, by rw [List.length_append, HL.out]; rfl, hr, by rw [List.length_append, ← ints_snoc]; exact hm, HA5.out, by omega, by omega, by omega, by omega⟩, hw6, hf6⟩)
        clear hm hr hf6 hown hgrow hat hk6 hfree hw6
        go_wp2_with fail
        go_roundg (gk - 1)
        case rel => exact HSt.out
        case measure => omega
    · have b1 : ¬ (i : Int) < (W.length : Int) := by omega
      have HA0 := hid_ (show A = .ok (l, k, ns) from by rw [HA.out, List.drop_eq_nil_of_le (by omega), stepsG])
      clear HA
      go_wp2_with fail
      go_ret
      rw [HA0.out]
      exact ⟨_, rfl, HR.out, HF.out, HOwn.out⟩
end
end Go.Proofs.YtmgjmagniefhoaaGreatDoor
