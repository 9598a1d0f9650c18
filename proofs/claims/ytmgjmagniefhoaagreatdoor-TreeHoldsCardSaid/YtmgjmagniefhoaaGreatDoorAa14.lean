/- What stands in these texts of the proof: Tu Tw. Conditions: those that each theorem names. -/
import Derived.Test.YtmgjmagniefhoaaGreatDoorAa13
/- The tree's reader: named. Conditions: those that each theorem names. -/
namespace Go.Proofs.YtmgjmagniefhoaaGreatDoor
open Go.RowKit Go.Maps
theorem list_few (L : List Lx.Wd) : ∀ (f : Nat) {t : Bool} {d : Int} {many : Nat} {l : List Int} {k : Nat} {M : List Tr.Nd} {l' : List Int} {k' : Nat} {M' : List Tr.Nd}, Tr.listF L f t d many l k M = .ok (l', k', M') → many < 16 ∧ l'.length ≤ l.length + (16 - many)
  | 0, _, _, _, _, _, _, _, _, _, h => by unfold Tr.listF at h; cases h
  | f + 1, t, d, many, l, k, M, l', k', M', h => by
    unfold Tr.listF at h
    obtain ⟨_, k1, M1, h1, g1⟩ := Tr.bind_ok h
    have hr := Tr.room_lt h1
    obtain ⟨n, k4, M4, h4, g4⟩ := Tr.bind_ok g1
    split at g4
    · have := list_few L f (many := many + 1) g4
      simp only [List.length_append, List.length_cons, List.length_nil] at this
      omega
    · obtain ⟨rfl, _, _⟩ := Tr.ok_inj g4
      simp only [List.length_append, List.length_cons, List.length_nil]
      omega
section
variable {w w' : World} {rb k : Nat} {c : RC} {L : List Lx.Wd} {ns : List Tr.Nd}
/-- The variables of named are made. -/
theorem NmV.made (hR : Rd w rb c L k ns) (d : Int) (name : List UInt8) {W : World} (hW : W = ((w.alloc (.cells #[rv rb] 63)).alloc (.cells #[.int .i64 d] 3)).alloc (.cells #[.int .i64 19, .int .i64 0, .string ⟨#[]⟩, .string (st name), .slice none 0 0, .slice none 0 0] 57)) :
    NmV w rb w.heap.size d 0 [] name (.slice none 0 0) [] W ∧ Rd W rb c L k ns ∧ Fr rb w W := by
  subst hW
  have hb : Below w.heap.size w (((w.alloc (.cells #[rv rb] 63)).alloc (.cells #[.int .i64 d] 3)).alloc (.cells #[.int .i64 19, .int .i64 0, .string ⟨#[]⟩, .string (st name), .slice none 0 0, .slice none 0 0] 57)) :=
    ((below_alloc w _).alloc (by simp) _).alloc (by simp; omega) _
  have hR4 := hR.below hb
  have h0 := Blk.new w 63 #[rv rb]
  have h1 := Blk.new (w.alloc (.cells #[rv rb] 63)) 3 #[.int .i64 d]
  have h2 := Blk.new ((w.alloc (.cells #[rv rb] 63)).alloc (.cells #[.int .i64 d] 3)) 57 #[.int .i64 19, .int .i64 0, .string ⟨#[]⟩, .string (st name), .slice none 0 0, .slice none 0 0]
  simp only [alloc_sz] at h1 h2
  refine ⟨⟨(h0.alloc _).alloc _, h1.alloc _, h2, MyR.nil w _ rb _, (fun e => by cases e), fun i hi => ?_, Nat.le_refl _⟩, hR4, Fr.of_below hb hR⟩
  exact (hR.far (Kp.of_below hb fun _ => False) (fun _ e => e.elim)).2.1 _ (Free.new hR (Nat.le_add_right _ _))
/-- The node of named. -/
theorem NmV.node {w0 : World} {g : Nat} {d num : Int} {mod name : List UInt8} {lv : Value} {s : List Int} (h : NmV w0 rb g d num mod name lv s w) (hR : Rd w rb c L k ns) (hF : Fr rb w0 w) (hk : 1 ≤ k) (h0 : ∃ k ns, Rd w0 rb c L k ns) :
    Calls Tryz.prog 121 #[rv rb, .agg #[.int .i64 19, .int .i64 num, .string (st mod), .string (st name), .slice none 0 0, lv]] w (EP (fun z => .int .i64 z) w0 rb c L (Tr.node L ⟨19, num, mod, name, [], s⟩ k ns)) := by
  obtain ⟨k1, ns1, hR1⟩ := h0
  obtain ⟨hN, hX⟩ := MyR.nd (x := ⟨19, num, mod, name, [], s⟩) (MyR.nil w0 w rb _) h.ls (Nat.le_of_lt hR1.rlt)
  exact (node_c hR hk hN (fun h => absurd h (by simp))).mono fun e w' hE => hE.pre2 ⟨_, _, hR1⟩ hF hX
theorem ent_named1 : ∀ args w, (callFunc 181 args).run Tryz.prog w = .ok (.enter 181 args) w := enters_of Tryz.func181 rfl rfl
theorem ent_named2 : ∀ args w, (callFunc 182 args).run Tryz.prog w = .ok (.enter 182 args) w := enters_of Tryz.func182 rfl rfl
/-- A call, behind its types, plainly. -/
def callR (L : List Lx.Wd) (f : Nat) (d : Int) (mod name : List UInt8) (ts : List Int) (k : Nat) (M : List Tr.Nd) : Tr.An Int := Tr.bind (Tr.must L [40] k M) fun _ k M =>
  if Tr.isW L [41] k = true then Tr.node L ⟨19, ts.length, mod, name, [], ts⟩ (k + 1) M
  else Tr.bind (Tr.listF L f false d 0 ts k M) fun l k M => Tr.bind (Tr.must L [41] k M) fun _ k M => Tr.node L ⟨19, ts.length, mod, name, [], l⟩ k M
set_option maxHeartbeats 8000000 in
set_option maxRecDepth 100000 in
theorem named_c {k0 : Nat} (he : ValC L k0 97 (Tr.exprF L)) (h : Rd w rb c L k ns) (hk0 : k0 ≤ k) (hk1 : 1 ≤ k) (f : Nat) (hf : 8 * (L.length - k) + 10 ≤ f) (d : Int) (hd0 : 0 ≤ d) (hd : d ≤ 60) (name : List UInt8) :
    Calls Tryz.prog 171 #[rv rb, .int .i64 d, .string (st name)] w (EP (fun z => .int .i64 z) w rb c L (Tr.namedF L f d name k ns)) := by
  obtain ⟨f, rfl⟩ : ∃ f', f = f' + 1 := ⟨f - 1, by omega⟩
  have HR := hid_ h
  have HR0 := hid_ (show ∃ k ns, Rd w rb c L k ns from ⟨_, _, h⟩)
  have HX := hid_ he
  have HE := hid_ (show Tr.namedF L (f + 1) d name k ns = if Tr.isW L [58, 58] k = true then Tr.bind (Tr.word L 1 (k + 1) ns) fun s k M => Tr.callF L f d name s k M else if Tr.isW L [91] k = true ∨ Tr.isW L [40] k = true then Tr.callF L f d [] name k ns else Tr.node L (Tr.leaf 16 name) k ns from by rw [Tr.namedF])
  clear h he
  generalize Tr.namedF L (f + 1) d name k ns = A at *
  unfold rv
  go_enter Tryz.func171, Tryz.ntmps171
  go_wp2_with fail
  obtain ⟨hNm, hR4, hF4⟩ := NmV.made HR.out d name rfl
  unfold rv at hNm hR4 hF4
  have HNm := hid_ hNm
  have HR4 := hid_ hR4
  have HF4 := hid_ hF4
  have HM := hid_ (may_c hR4 [58, 58])
  unfold rv at HM
  clear hNm hR4 hF4
  generalize ((w.alloc (Obj.cells #[Value.pointer (some ⟨rb, 0, none⟩)] 63)).alloc (Obj.cells #[Value.int IntKind.i64 d] 3)).alloc (Obj.cells #[Value.int IntKind.i64 19, Value.int IntKind.i64 0, Value.string { data := #[] }, Value.string (st name), Value.slice none 0 0, Value.slice none 0 0] 57) = W at *
  refine HM.out.mono ?_
  rintro e w1 ⟨rfl, hR1, hF1⟩
  have HR1 := hid_ hR1
  have HF1 := hid_ (HF4.out.trans hF1)
  have HNm1 := hid_ (HNm.out.to hF1)
  clear hR1 hF1 HM HNm HR4 HF4
  go_upto_if 11 with fail
  go_cut [] (fun wx => ∃ (mod' name' : List UInt8) (k' : Nat) (ns' : List Tr.Nd), A = Tr.callF L f d mod' name' k' ns' ∧ k ≤ k' ∧ NmI w rb w.heap.size d 0 mod' name' [] wx ∧ Rd wx rb c L k' ns' ∧ Fr rb w wx)
  case first =>
    have c0 : w1.cell? ⟨w.heap.size, 0, none⟩ = some (.pointer (some ⟨rb, 0, none⟩)) := HNm1.out.rB.cell 0
    cases hb : Tr.isW L [58, 58] k with
    | true =>
      have HR2 := hid_ (show Rd w1 rb c L (k + 1) ns by have := HR1.out; rw [hb] at this; exact this)
      have HA := hid_ (HE.out.trans (if_pos hb))
      have HWd := hid_ (word_c HR2.out 1 (by decide))
      unfold rv at HWd
      clear HE HR1 hb
      go_wp2_with fail
      refine (HWd.out).mono ?_
      intro e w2 hE
      rcases hE.cases with ⟨s2, k2, ns2, hA, rfl, hR, hF⟩ | ⟨er, hA, rfl, hB⟩
      rotate_left
      · have HAe := hid_ (HA.out.trans (Tr.bind_err hA))
        have HBe := hid_ ((HF1.out.bel HR.out).trans hB)
        clear hE hA hB
        go_wp2_with fail
        rw [HAe.out]
        exact ⟨rfl, rfl, HBe.out⟩
      have HA2 := hid_ (HA.out.trans (Tr.bind_good hA))
      have HF2 := hid_ (HF1.out.trans hF)
      have HR3 := hid_ hR
      have HNm2 := hid_ (HNm1.out.to hF)
      obtain ⟨hk2, _⟩ := Tr.word_ok hA
      obtain ⟨hm1, hm2, hm3⟩ := HNm2.out.setMod HR3.out HF2.out name
      obtain ⟨hn1, hn2, hn3⟩ := hm1.setName hm2 hm3 s2
      have x2 : w2.cell? ⟨w.heap.size + 1 + 1, 2, none⟩ = some (.string (st [])) := HNm2.out.nB.cell 2
      have f2 : w2.frozen? ⟨w.heap.size + 1 + 1, 2, none⟩ = false := HNm2.out.nB.frozen 2
      have x3 : (w2.setCell ⟨w.heap.size + 1 + 1, 2, none⟩ (.string (st name))).cell? ⟨w.heap.size + 1 + 1, 3, none⟩ = some (.string (st name)) := hm1.nB.cell 3
      have f3 : (w2.setCell ⟨w.heap.size + 1 + 1, 2, none⟩ (.string (st name))).frozen? ⟨w.heap.size + 1 + 1, 3, none⟩ = false := hm1.nB.frozen 3
      have HN1 := hid_ hn1
      have HN2 := hid_ hn2
      have HN3 := hid_ hn3
      have Hk2 := hid_ hk2
      clear hm1 hm2 hm3 hn1 hn2 hn3 hk2
      clear hE hA hR hF
      go_wp2_with fail
      go_meet
      exact ⟨_, _, _, _, HA2.out, by have := Hk2.out; omega, ⟨_, HN1.out⟩, HN2.out, HN3.out⟩
    | false =>
      have HR2 := hid_ (show Rd w1 rb c L k ns by have := HR1.out; rw [hb] at this; exact this)
      have HA := hid_ (HE.out.trans (if_neg (by rw [hb]; decide)))
      have HI := hid_ (is_c HR2.out [91])
      unfold rv at HI
      clear HE HR1 hb
      go_wp2_with fail
      refine HI.out.mono ?_
      cases hb : Tr.isW L [91] k with
      | true =>
        rintro e w2 ⟨rfl, hb2⟩
        have HA2 := hid_ (HA.out.trans (if_pos (.inl hb)))
        have HR3 := hid_ (HR2.out.below hb2)
        have HF2 := hid_ (HF1.out.trans (Fr.of_below hb2 HR2.out))
        have HNm2 := hid_ (HNm1.out.to (Fr.of_below hb2 HR2.out))
        clear hb2 HA HI hb
        go_wp2_with fail
        go_meet
        exact ⟨_, _, _, _, HA2.out, Nat.le_refl _, ⟨_, HNm2.out⟩, HR3.out, HF2.out⟩
      | false =>
        rintro e w2 ⟨rfl, hb2⟩
        have HR3 := hid_ (HR2.out.below hb2)
        have HF2 := hid_ (HF1.out.trans (Fr.of_below hb2 HR2.out))
        have HNm2 := hid_ (HNm1.out.to (Fr.of_below hb2 HR2.out))
        have c2 : w2.cell? ⟨w.heap.size, 0, none⟩ = some (.pointer (some ⟨rb, 0, none⟩)) := HNm2.out.rB.cell 0
        have HI2 := hid_ (is_c HR3.out [40])
        unfold rv at HI2
        have H91 := hid_ hb
        clear hb2 HI hb
        go_wp2_with fail
        refine HI2.out.mono ?_
        cases hb : Tr.isW L [40] k with
        | true =>
          rintro e w3 ⟨rfl, hb3⟩
          have HA2 := hid_ (HA.out.trans (if_pos (.inr hb)))
          have HR4 := hid_ (HR3.out.below hb3)
          have HF3 := hid_ (HF2.out.trans (Fr.of_below hb3 HR3.out))
          have HNm3 := hid_ (HNm2.out.to (Fr.of_below hb3 HR3.out))
          clear hb3 HA HI2 hb
          go_wp2_with fail
          go_meet
          exact ⟨_, _, _, _, HA2.out, Nat.le_refl _, ⟨_, HNm3.out⟩, HR4.out, HF3.out⟩
        | false =>
          rintro e w3 ⟨rfl, hb3⟩
          have HA2 := hid_ (HA.out.trans (if_neg (by rw [H91.out, hb]; decide)))
          have HR4 := hid_ (HR3.out.below hb3)
          have HF3 := hid_ (HF2.out.trans (Fr.of_below hb3 HR3.out))
          have HNm3 := hid_ (HNm2.out.to (Fr.of_below hb3 HR3.out))
          have c3 : w3.cell? ⟨w.heap.size, 0, none⟩ = some (.pointer (some ⟨rb, 0, none⟩)) := HNm3.out.rB.cell 0
          have HNd := hid_ (leaf_c HR4.out (by omega) (Tr.leaf 16 name) rfl rfl)
          unfold rv at HNd
          clear hb3 HA HI2 hb
          go_wp2_with fail
          refine (HNd.out).mono ?_
          intro e w99 hE
          have hE2 := hE.pre HR.out HF3.out
          rw [← HA2.out] at hE2
          rcases hE2.cases with ⟨x, k99, ns99, hA, rfl, hR, hF⟩ | ⟨er, hA, rfl, hB⟩
          · have HE2 := hid_ hE2
            clear hE hE2 hA hR hF
            go_wp2_with fail
            go_ret
            exact HE2.out
          · have HE2 := hid_ hE2
            clear hE hE2 hA hB
            go_wp2_with fail
            exact ⟨rfl, HE2.out⟩
  case rest =>
    obtain ⟨mod, name, k, ns, hA, hkk, ⟨lv0, hN⟩, hR, hF⟩ := hcut
    obtain ⟨f, rfl⟩ : ∃ f', f = f' + 1 := ⟨f - 1, by omega⟩
    have hk0 : k0 ≤ k := by omega
    have hk1 : 1 ≤ k := by omega
    have hlt := hR.lt
    have hf2 : 8 * (L.length - k) + 8 ≤ f := by omega
    have HA := hid_ (show A = Tr.bind (if Tr.isW L [91] k = true then Tr.bind (Tr.listF L f true d 0 [] (k + 1) ns) fun l k M => Tr.bind (Tr.must L [93] k M) fun _ k M => .ok (l, k, M) else .ok ([], k, ns)) fun ts k M => callR L f d mod name ts k M from by rw [hA, Tr.callF]; rfl)
    have HF := hid_ hF
    have HNm := hid_ hN
    have HM2 := hid_ (may_c hR [91])
    have c0 : wc.cell? ⟨w.heap.size, 0, none⟩ = some (.pointer (some ⟨rb, 0, none⟩)) := hN.rB.cell 0
    unfold rv at HM2
    clear hA hN hR hF HE HR1 HF1 HNm1 hkk
    go_wp2_with fail
    refine HM2.out.mono ?_
    rintro e w2 ⟨rfl, hR2, hF2⟩
    have HR2 := hid_ hR2
    have HF2 := hid_ (HF.out.trans hF2)
    have HNm2 := hid_ (HNm.out.to hF2)
    clear hR2 hF2 c0 HM2 HNm HF
    go_upto_if 30 with fail
    go_cut [] (fun wx => ∃ (ts : List Int) (k' : Nat) (ns' : List Tr.Nd), A = callR L f d mod name ts k' ns' ∧ ts.length ≤ 16 ∧ k ≤ k' ∧ NmI w rb w.heap.size d ts.length mod name ts wx ∧ Rd wx rb c L k' ns' ∧ Fr rb w wx)
    case first =>
      have c0 : w2.cell? ⟨w.heap.size, 0, none⟩ = some (.pointer (some ⟨rb, 0, none⟩)) := HNm2.out.rB.cell 0
      cases hb : Tr.isW L [91] k with
      | true =>
        have HR3 := hid_ (show Rd w2 rb c L (k + 1) ns by have := HR2.out; rw [hb] at this; exact this)
        have HA2 := hid_ (HA.out.trans (show _ = Tr.bind (Tr.bind (Tr.listF L f true d 0 [] (k + 1) ns) fun l k M => Tr.bind (Tr.must L [93] k M) fun _ k M => .ok (l, k, M)) fun ts k M => callR L f d mod name ts k M by rw [if_pos hb]))
        have HRow := hid_ (row_c (Inv := NmI w rb w.heap.size d 0 mod name) (w0 := w) (list_row L true d 0) (fun s w w' h hF => h.to hF) (named1_c (k0 := k0) (fun w rb k c ns f d h0 h1 _ hk hf hR => typ_all L w rb k c ns f d h0 h1 (Nat.zero_le _) hk hf hR) HR0.out w.heap.size 0 (by omega) d 0 mod name hd0 hd) ent_named1 HR0.out HR3.out HF2.out [] ⟨_, HNm2.out⟩ rfl (by omega) (by omega) f (by omega) [93])
        unfold rv at HRow
        clear HR2 HA hb
        go_wp2_with fail
        refine HRow.out.mono ?_
        intro e w3 hE
        rcases hE.cases with ⟨s, k3, ns3, hA, rfl, hR, hF, hI⟩ | ⟨er, hA, rfl, hB⟩
        rotate_left
        · have HAe := hid_ (HA2.out.trans (Tr.bind_err hA))
          have HBe := hid_ hB
          clear hE hA hB
          go_wp2_with fail
          rw [HAe.out]
          exact ⟨rfl, rfl, HBe.out⟩
        have HA3 := hid_ (HA2.out.trans (Tr.bind_good hA))
        have hk3 : k + 1 ≤ k3 ∧ s.length ≤ 16 := by
          obtain ⟨x1, k4, M4, h1, g1⟩ := Tr.bind_ok hA
          obtain ⟨x2, k5, M5, h2, g2⟩ := Tr.bind_ok g1
          obtain ⟨rfl, rfl, _⟩ := Tr.ok_inj g2
          obtain ⟨rfl, _⟩ := Tr.must_ok h2
          have := (Tr.prog f).list h1
          have := list_few L f h1
          simp only [List.length_nil] at this
          omega
        have Hk3 := hid_ hk3
        obtain ⟨lv, hI⟩ := hI
        obtain ⟨Bl, dl, rfl⟩ := own_form hI.ls.own
        have x1 : w3.cell? ⟨w.heap.size + 1 + 1, 1, none⟩ = some (.int .i64 0) := hI.nB.cell 1
        have f1 : w3.frozen? ⟨w.heap.size + 1 + 1, 1, none⟩ = false := hI.nB.frozen 1
        have x5 : w3.cell? ⟨w.heap.size + 1 + 1, 5, none⟩ = some (.slice Bl s.length dl) := hI.nB.cell 5
        obtain ⟨hn1, hn2, hn3⟩ := hI.setNum hR hF (s.length : Int)
        have HN1 := hid_ hn1
        have HN2 := hid_ hn2
        have HN3 := hid_ hn3
        clear hE hA hR hF hI hn1 hn2 hn3 hk3
        go_wp2_with fail
        go_meet
        exact ⟨_, _, _, HA3.out, Hk3.out.2, by have := Hk3.out.1; omega, ⟨_, HN1.out⟩, HN2.out, HN3.out⟩
      | false =>
        have HR3 := hid_ (show Rd w2 rb c L k ns by have := HR2.out; rw [hb] at this; exact this)
        have HA2 := hid_ (HA.out.trans (show _ = callR L f d mod name [] k ns by rw [if_neg (by rw [hb]; decide)]; rfl))
        clear HR2 HA hb
        go_wp2_with fail
        go_meet
        exact ⟨[], _, _, HA2.out, by simp, Nat.le_refl _, ⟨_, HNm2.out⟩, HR3.out, HF2.out⟩
    case rest =>
      obtain ⟨ts, k2, ns2, hA, hts, hkk, ⟨lv, hN⟩, hR, hF⟩ := hcut
      have HA2 := hid_ (show A = Tr.bind (Tr.must L [40] k2 ns2) fun _ k M => if Tr.isW L [41] k = true then Tr.node L ⟨19, ts.length, mod, name, [], ts⟩ (k + 1) M else Tr.bind (Tr.listF L f false d 0 ts k M) fun l k M => Tr.bind (Tr.must L [41] k M) fun _ k M => Tr.node L ⟨19, ts.length, mod, name, [], l⟩ k M from hA)
      have HMu := hid_ (must_c hR [40])
      have HF3 := hid_ hF
      have HNm3 := hid_ hN
      have c0 : wc.cell? ⟨w.heap.size, 0, none⟩ = some (.pointer (some ⟨rb, 0, none⟩)) := hN.rB.cell 0
      have Hts := hid_ hts
      have hlt2 := hR.lt
      unfold rv at HMu
      clear hA hN hR hF HR2 HF2 HNm2 HA hts
      obtain ⟨kz, nsz, hRz⟩ := HR0.out
      go_wp2_with fail
      refine (HMu.out).mono ?_
      intro e w4 hE
      rcases hE.cases with ⟨u4, k4, ns4, hA, rfl, hR, hF⟩ | ⟨er, hA, rfl, hB⟩
      rotate_left
      · have HAe := hid_ (HA2.out.trans (Tr.bind_err hA))
        have HBe := hid_ ((HF3.out.bel HR.out).trans hB)
        clear hE hA hB
        go_wp2_with fail
        rw [HAe.out]
        exact ⟨rfl, rfl, HBe.out⟩
      have HA4 := hid_ (HA2.out.trans (Tr.bind_good hA))
      have HF4 := hid_ (HF3.out.trans hF)
      have HR4 := hid_ hR
      obtain ⟨hk4, _⟩ := Tr.must_ok hA
      have Hk4 := hid_ hk4
      clear hk4
      have HNm4 := hid_ (HNm3.out.to hF)
      have c4 : w4.cell? ⟨w.heap.size, 0, none⟩ = some (.pointer (some ⟨rb, 0, none⟩)) := HNm4.out.rB.cell 0
      have HM4 := hid_ (may_c hR [41])
      unfold rv at HM4
      clear hE hA hR hF
      go_wp2_with fail
      refine HM4.out.mono ?_
      cases hb : Tr.isW L [41] k4 with
      | true =>
        rintro e w5 ⟨rfl, hR5, hF5⟩
        have HA5 := hid_ (HA4.out.trans (if_pos hb))
        have HR5 := hid_ (show Rd w5 rb c L (k4 + 1) ns4 from hR5)
        have HNm5 := hid_ (HNm4.out.to hF5)
        have HNd := hid_ (HNm5.out.node HR5.out (HF4.out.trans hF5) (by omega) HR0.out)
        have c5 : w5.cell? ⟨w.heap.size, 0, none⟩ = some (.pointer (some ⟨rb, 0, none⟩)) := HNm5.out.rB.cell 0
        have n0 : w5.cell? ⟨w.heap.size + 1 + 1, 0, none⟩ = some (.int .i64 19) := HNm5.out.nB.cell 0
        have n1 : w5.cell? ⟨w.heap.size + 1 + 1, 1, none⟩ = some (.int .i64 (ts.length : Int)) := HNm5.out.nB.cell 1
        have n2 : w5.cell? ⟨w.heap.size + 1 + 1, 2, none⟩ = some (.string (st mod)) := HNm5.out.nB.cell 2
        have n3 : w5.cell? ⟨w.heap.size + 1 + 1, 3, none⟩ = some (.string (st name)) := HNm5.out.nB.cell 3
        have n4 : w5.cell? ⟨w.heap.size + 1 + 1, 4, none⟩ = some (.slice none 0 0) := HNm5.out.nB.cell 4
        have n5 : w5.cell? ⟨w.heap.size + 1 + 1, 5, none⟩ = some lv := HNm5.out.nB.cell 5
        unfold rv at HNd
        clear hR5 hF5 HA4 HM4 hb
        go_wp2_with fail
        refine (HNd.out).mono ?_
        intro e w99 hE
        rw [← HA5.out] at hE
        rcases hE.cases with ⟨x, k99, ns99, hA, rfl, hR, hF⟩ | ⟨er, hA, rfl, hB⟩
        · have HE2 := hid_ hE
          clear hE hA hR hF
          go_wp2_with fail
          go_ret
          exact HE2.out
        · have HE2 := hid_ hE
          clear hE hA hB
          go_wp2_with fail
          exact ⟨rfl, HE2.out⟩
      | false =>
        rintro e w5 ⟨rfl, hR5, hF5⟩
        have HA5 := hid_ ((HA4.out.trans (if_neg (by rw [hb]; decide))).trans (show _ = Tr.bind (Tr.bind (Tr.listF L f false d 0 ts k4 ns4) fun l k M => Tr.bind (Tr.must L [41] k M) fun _ k M => .ok (l, k, M)) fun l k M => Tr.node L ⟨19, ts.length, mod, name, [], l⟩ k M by simp only [Tr.bind_bind]; rfl))
        have HR5 := hid_ (show Rd w5 rb c L k4 ns4 from hR5)
        have HF5 := hid_ (HF4.out.trans hF5)
        have HNm5 := hid_ (HNm4.out.to hF5)
        have c5 : w5.cell? ⟨w.heap.size, 0, none⟩ = some (.pointer (some ⟨rb, 0, none⟩)) := HNm5.out.rB.cell 0
        have HRow := hid_ (row_c (Inv := NmI w rb w.heap.size d ts.length mod name) (w0 := w) (list_row L false d ts.length) (fun s w w' h hF => h.to hF) (named2_c HX.out HR0.out w.heap.size ts.length Hts.out d ts.length mod name hd0 hd) ent_named2 HR0.out HR5.out HF5.out ts ⟨_, HNm5.out⟩ rfl (by have := Hk4.out; omega) (by have := Hk4.out; omega) f (by have := Hk4.out; omega) [41])
        unfold rv at HRow
        clear hR5 hF5 HA4 HM4 hb
        go_wp2_with fail
        refine HRow.out.mono ?_
        intro e w6 hE
        rcases hE.cases with ⟨s, k6, ns6, hA, rfl, hR, hF, hI⟩ | ⟨er, hA, rfl, hB⟩
        rotate_left
        · have HAe := hid_ (HA5.out.trans (Tr.bind_err hA))
          have HBe := hid_ hB
          clear hE hA hB
          go_wp2_with fail
          rw [HAe.out]
          exact ⟨rfl, rfl, HBe.out⟩
        have HA6 := hid_ (HA5.out.trans (Tr.bind_good hA))
        have hk6 : 1 ≤ k6 := by
          obtain ⟨x1, k7, M7, h1, g1⟩ := Tr.bind_ok hA
          obtain ⟨x2, k8, M8, h2, g2⟩ := Tr.bind_ok g1
          obtain ⟨_, rfl, _⟩ := Tr.ok_inj g2
          obtain ⟨rfl, _⟩ := Tr.must_ok h2
          omega
        obtain ⟨lv, hI⟩ := hI
        have HNd := hid_ (hI.node hR hF hk6 HR0.out)
        have c6 : w6.cell? ⟨w.heap.size, 0, none⟩ = some (.pointer (some ⟨rb, 0, none⟩)) := hI.rB.cell 0
        have m0 : w6.cell? ⟨w.heap.size + 1 + 1, 0, none⟩ = some (.int .i64 19) := hI.nB.cell 0
        have m1 : w6.cell? ⟨w.heap.size + 1 + 1, 1, none⟩ = some (.int .i64 (ts.length : Int)) := hI.nB.cell 1
        have m2 : w6.cell? ⟨w.heap.size + 1 + 1, 2, none⟩ = some (.string (st mod)) := hI.nB.cell 2
        have m3 : w6.cell? ⟨w.heap.size + 1 + 1, 3, none⟩ = some (.string (st name)) := hI.nB.cell 3
        have m4 : w6.cell? ⟨w.heap.size + 1 + 1, 4, none⟩ = some (.slice none 0 0) := hI.nB.cell 4
        have m5 : w6.cell? ⟨w.heap.size + 1 + 1, 5, none⟩ = some lv := hI.nB.cell 5
        unfold rv at HNd
        clear hE hA hR hF hI
        go_wp2_with fail
        refine (HNd.out).mono ?_
        intro e w99 hE
        rw [← HA6.out] at hE
        rcases hE.cases with ⟨x, k99, ns99, hA, rfl, hR, hF⟩ | ⟨er, hA, rfl, hB⟩
        · have HE2 := hid_ hE
          clear hE hA hR hF
          go_wp2_with fail
          go_ret
          exact HE2.out
        · have HE2 := hid_ hE
          clear hE hA hB
          go_wp2_with fail
          exact ⟨rfl, HE2.out⟩
end
end Go.Proofs.YtmgjmagniefhoaaGreatDoor

/- The tree's reader: atom. Conditions: those that each theorem names. -/
namespace Go.Proofs.YtmgjmagniefhoaaGreatDoor
open Go.RowKit Go.Maps
section
variable {w w' : World} {rb k : Nat} {c : RC} {L : List Lx.Wd} {ns : List Tr.Nd}
theorem ent_expr : ∀ args w, (callFunc 97 args).run Tryz.prog w = .ok (.enter 97 args) w := enters_of Tryz.func97 rfl rfl
theorem atomF_eq (L : List Lx.Wd) (f : Nat) (d : Int) (k : Nat) (M : List Tr.Nd) : Tr.atomF L (f + 1) d k M =
    if 0 < (if (Tr.now L k).kind = 5 then Tr.plainE (Tr.now L k).text else 0) then Tr.node L (Tr.leaf (if (Tr.now L k).kind = 5 then Tr.plainE (Tr.now L k).text else 0) []) (k + 1) M
    else if (Tr.now L k).kind = 3 then Tr.node L ⟨11, (Tr.now L k).num, [], [], [], []⟩ (k + 1) M
    else if (Tr.now L k).kind = 4 then Tr.node L (Tr.leaf 12 (Tr.now L k).text) (k + 1) M
    else if (Tr.now L k).kind = 1 then Tr.namedF L f d (Tr.now L k).text (k + 1) M
    else if Tr.isW L [123] k = true then Tr.fieldsF L f false d (k + 1) M
    else if Tr.isW L [40] k = true then Tr.bind (Tr.exprF L f (d + 1) (k + 1) M) fun n k M =>
      if Tr.isW L [97, 115] k = true then Tr.bind (Tr.typF L f (d + 1) (k + 1) M) fun t k M => Tr.bind (Tr.must L [41] k M) fun _ k M => Tr.node L ⟨24, 0, [], [], [], [n, t]⟩ k M
      else Tr.bind (Tr.must L [41] k M) fun _ k M => .ok (n, k, M)
    else .error ((Tr.now L k).pos, 30) := by
  rw [Tr.atomF]
  by_cases hP : (Tr.now L k).kind = 5 ∧ Tr.plainE (Tr.now L k).text ≠ 0
  · rw [if_pos hP]
    have e : (if (Tr.now L k).kind = 5 then Tr.plainE (Tr.now L k).text else 0) = Tr.plainE (Tr.now L k).text := if_pos hP.1
    rw [e, if_pos (by have := plainE_is (Tr.now L k).text; have := hP.2; omega)]
  · rw [if_neg hP]
    have e : (if (Tr.now L k).kind = 5 then Tr.plainE (Tr.now L k).text else 0) = 0 := by
      by_cases h5 : (Tr.now L k).kind = 5
      · rw [if_pos h5]
        exact Classical.byContradiction fun h => hP ⟨h5, h⟩
      · exact if_neg h5
    rw [e, if_neg (by decide : ¬ (0 : Int) < 0)]
    rfl
set_option maxHeartbeats 4000000 in
set_option maxRecDepth 100000 in
theorem atom_c {k0 : Nat} (hp : ValC L (k0 + 1) 97 (Tr.exprF L)) : RdC L k0 162 5 (Tr.atomF L) := by
  intro w rb k c ns f d hd0 hd hk0 hk1 hf h
  obtain ⟨f, rfl⟩ : ∃ f', f = f' + 1 := ⟨f - 1, by omega⟩
  have HV := hid_ hp
  have HR := hid_ h
  have HE := hid_ (atomF_eq L f d k ns)
  have HN := hid_ (now_c h)
  clear h hp
  generalize Tr.atomF L (f + 1) d k ns = A at *
  unfold rv
  unfold rv wordV at HN
  have hmm := @run_makeMap Tryz.prog
  go_enter Tryz.func162, Tryz.ntmps162
  go_wp2_with fail
  refine HN.out.mono ?_
  rintro e w1 ⟨rfl, hb1⟩
  have HB1 := hid_ hb1
  have HW1 := hid_ hb1.size
  clear hb1
  obtain ⟨m1, m2, m3, r1, r2, r3, hD, hB⟩ := dict_E (w1.alloc (.cells #[.int .i64 (Tr.now L k).kind, .string (st (Tr.now L k).text), .int .i64 (Tr.now L k).num, .int .i64 (Tr.now L k).pos] 88))
  simp only [alloc_sz] at r1 r2 r3 hD
  have HB2 := hid_ (HB1.out.alloc HB1.out.size (.cells #[.int .i64 (Tr.now L k).kind, .string (st (Tr.now L k).text), .int .i64 (Tr.now L k).num, .int .i64 (Tr.now L k).pos] 88))
  have HW := hid_ (((Blk.new w1 88 #[.int .i64 (Tr.now L k).kind, .string (st (Tr.now L k).text), .int .i64 (Tr.now L k).num, .int .i64 (Tr.now L k).pos])).kp (Kp.of_below hB fun _ => False) id)
  have HB3 := hid_ (HB2.out.trans (hB.mono HB2.out.size))
  have HBc := hid_ (base_c m3 hD (Tr.now L k) (by have := HR.out.txt k; omega))
  unfold wordV at HBc
  clear hD hB HB1 HB2
  go_wp2_with fail
  refine HBc.out.mono ?_
  rintro e w3 ⟨rfl, hb3⟩
  have HB4 := hid_ (HB3.out.trans (hb3.mono HB3.out.size))
  have HR3 := hid_ (HR.out.below HB4.out)
  have HF3 := hid_ (Fr.of_below HB4.out HR.out)
  have HW3 := hid_ (HW.out.kp (Kp.of_below hb3 fun _ => False) id)
  have HFree := hid_ (Free.new2 (q := w1.heap.size) HR.out HB4.out HW1.out)
  have e0 : w3.cell? ⟨w1.heap.size, 0, none⟩ = some (.int .i64 (Tr.now L k).kind) := HW3.out.cell 0
  have e1 : w3.cell? ⟨w1.heap.size, 1, none⟩ = some (.string (st (Tr.now L k).text)) := HW3.out.cell 1
  have e2 : w3.cell? ⟨w1.heap.size, 2, none⟩ = some (.int .i64 (Tr.now L k).num) := HW3.out.cell 2
  have t2 : ∀ v, (w3.setCell ⟨rb, 1, none⟩ v).cell? ⟨w1.heap.size, 2, none⟩ = some (.int .i64 (Tr.now L k).num) := fun v => (HW3.out.far (p := ⟨rb, 1, none⟩) (by have := HFree.out.1; show w1.heap.size ≠ rb; omega) v).cell 2
  have t1 : ∀ v, (w3.setCell ⟨rb, 1, none⟩ v).cell? ⟨w1.heap.size, 1, none⟩ = some (.string (st (Tr.now L k).text)) := fun v => (HW3.out.far (p := ⟨rb, 1, none⟩) (by have := HFree.out.1; show w1.heap.size ≠ rb; omega) v).cell 1
  obtain ⟨c1, f1⟩ := HR3.out.at1
  have hfew := HR3.out.few
  have hlt := HR3.out.lt
  have wd : IntKind.i64.wrap (d + 1) = d + 1 := IntWalk.i64_in _ (by omega)
  have H18 := hid_ (show (if (Tr.now L k).kind = 5 then Tr.plainE (Tr.now L k).text else 0) ≠ 18 from plainE_18 _ _)
  have H5 := hid_ (show 0 < (if (Tr.now L k).kind = 5 then Tr.plainE (Tr.now L k).text else 0) → (Tr.now L k).kind = 5 from fun h => Classical.byContradiction fun h5 => by rw [if_neg h5] at h; exact absurd h (by decide))
  clear hb3 HB3 HB4 HBc HW r1 r2 r3 hmm HN
  generalize (if (Tr.now L k).kind = 5 then Tr.plainE (Tr.now L k).text else 0) = z at *
  by_cases hz : 0 < z
  · have HA := hid_ (HE.out.trans (if_pos hz))
    have HS := hid_ (HR3.out.stepI (HR3.out.more (by rw [H5.out hz]; decide)))
    have HNd := hid_ (leaf_c HS.out.1 (by omega) (Tr.leaf z []) rfl rfl H18.out)
    have HFs := hid_ (HF3.out.trans HS.out.2)
    unfold rv at HNd
    clear HE
    go_wp2_with fail
    refine (HNd.out).mono ?_
    intro e w99 hE
    have hE2 := hE.pre HR.out HFs.out
    rw [← HA.out] at hE2
    rcases hE2.cases with ⟨x, k99, ns99, hA, rfl, hR, hF⟩ | ⟨er, hA, rfl, hB⟩
    · have HE2 := hid_ hE2
      clear hE hE2 hA hR hF
      go_wp2_with fail
      go_ret
      exact HE2.out
    · have HE2 := hid_ hE2
      clear hE hE2 hA hB
      go_wp2_with fail
      exact ⟨rfl, HE2.out⟩
  have HE2 := hid_ (HE.out.trans (if_neg hz))
  by_cases h4 : (Tr.now L k).kind = 3
  · have q4 : ((Tr.now L k).kind == 3) = true := by rw [h4]; rfl
    have HA := hid_ (HE2.out.trans (if_pos h4))
    have HS := hid_ (HR3.out.stepI (HR3.out.more (by rw [h4]; decide)))
    have HNd := hid_ (leaf_c HS.out.1 (by omega) ⟨11, (Tr.now L k).num, [], [], [], []⟩ rfl rfl)
    have HFs := hid_ (HF3.out.trans HS.out.2)
    unfold rv at HNd
    clear HE HE2 h4
    go_wp2_with fail
    refine (HNd.out).mono ?_
    intro e w99 hE
    have hE2 := hE.pre HR.out HFs.out
    rw [← HA.out] at hE2
    rcases hE2.cases with ⟨x, k99, ns99, hA, rfl, hR, hF⟩ | ⟨er, hA, rfl, hB⟩
    · have HE2 := hid_ hE2
      clear hE hE2 hA hR hF
      go_wp2_with fail
      go_ret
      exact HE2.out
    · have HE2 := hid_ hE2
      clear hE hE2 hA hB
      go_wp2_with fail
      exact ⟨rfl, HE2.out⟩
  have q4 : ((Tr.now L k).kind == 3) = false := by rw [beq_eq_false_iff_ne]; exact h4
  have HE3 := hid_ (HE2.out.trans (if_neg h4))
  clear h4 HE HE2
  by_cases h4 : (Tr.now L k).kind = 4
  · have q2 : ((Tr.now L k).kind == 4) = true := by rw [h4]; rfl
    have HA := hid_ (HE3.out.trans (if_pos h4))
    have HS := hid_ (HR3.out.stepI (HR3.out.more (by rw [h4]; decide)))
    have HNd := hid_ (leaf_c HS.out.1 (by omega) (Tr.leaf 12 (Tr.now L k).text) rfl rfl)
    have HFs := hid_ (HF3.out.trans HS.out.2)
    unfold rv at HNd
    clear HE3 h4
    go_wp2_with fail
    refine (HNd.out).mono ?_
    intro e w99 hE
    have hE2 := hE.pre HR.out HFs.out
    rw [← HA.out] at hE2
    rcases hE2.cases with ⟨x, k99, ns99, hA, rfl, hR, hF⟩ | ⟨er, hA, rfl, hB⟩
    · have HE2 := hid_ hE2
      clear hE hE2 hA hR hF
      go_wp2_with fail
      go_ret
      exact HE2.out
    · have HE2 := hid_ hE2
      clear hE hE2 hA hB
      go_wp2_with fail
      exact ⟨rfl, HE2.out⟩
  have q2 : ((Tr.now L k).kind == 4) = false := by rw [beq_eq_false_iff_ne]; exact h4
  have HE4 := hid_ (HE3.out.trans (if_neg h4))
  clear h4 HE3
  by_cases h4 : (Tr.now L k).kind = 1
  · have q1 : ((Tr.now L k).kind == 1) = true := by rw [h4]; rfl
    have HA := hid_ (HE4.out.trans (if_pos h4))
    have HS := hid_ (HR3.out.stepI (HR3.out.more (by rw [h4]; decide)))
    have HFs := hid_ (HF3.out.trans HS.out.2)
    have HNd := hid_ (named_c HV.out HS.out.1 (by omega) (by omega) f (by omega) d hd0 hd (Tr.now L k).text)
    unfold rv at HNd
    clear HE4 h4
    go_wp2_with fail
    refine (HNd.out).mono ?_
    intro e w99 hE
    have hE2 := hE.pre HR.out HFs.out
    rw [← HA.out] at hE2
    rcases hE2.cases with ⟨x, k99, ns99, hA, rfl, hR, hF⟩ | ⟨er, hA, rfl, hB⟩
    · have HE2 := hid_ hE2
      clear hE hE2 hA hR hF
      go_wp2_with fail
      go_ret
      exact HE2.out
    · have HE2 := hid_ hE2
      clear hE hE2 hA hB
      go_wp2_with fail
      exact ⟨rfl, HE2.out⟩
  have q1 : ((Tr.now L k).kind == 1) = false := by rw [beq_eq_false_iff_ne]; exact h4
  have HE5 := hid_ (HE4.out.trans (if_neg h4))
  clear h4 HE4
  have HM := hid_ (may_c HR3.out [123])
  unfold rv at HM
  go_wp2_with fail
  refine HM.out.mono ?_
  cases hb : Tr.isW L [123] k with
  | true =>
    rintro e w4 ⟨rfl, hR4, hF4⟩
    have HA := hid_ (HE5.out.trans (if_pos hb))
    have HR4 := hid_ (show Rd w4 rb c L (k + 1) ns from hR4)
    have HF4 := hid_ (HF3.out.trans hF4)
    have HFi := hid_ (fields_c false (V := 97) HV.out ent_expr HR4.out (by omega) (by omega) f (by omega) d hd0 hd)
    unfold rv at HFi
    clear hR4 hF4 HE5 HM hb
    go_wp2_with fail
    refine (HFi.out).mono ?_
    intro e w99 hE
    have hE2 := hE.pre HR.out HF4.out
    rw [← HA.out] at hE2
    rcases hE2.cases with ⟨x, k99, ns99, hA, rfl, hR, hF⟩ | ⟨er, hA, rfl, hB⟩
    · have HE2 := hid_ hE2
      clear hE hE2 hA hR hF
      go_wp2_with fail
      go_ret
      exact HE2.out
    · have HE2 := hid_ hE2
      clear hE hE2 hA hB
      go_wp2_with fail
      exact ⟨rfl, HE2.out⟩
  | false =>
    rintro e w4 ⟨rfl, hR4, hF4⟩
    have HE6 := hid_ (HE5.out.trans (if_neg (by rw [hb]; decide)))
    have HR4 := hid_ (show Rd w4 rb c L k ns from hR4)
    have HF4 := hid_ (HF3.out.trans hF4)
    have HM2 := hid_ (may_c HR4.out [40])
    unfold rv at HM2
    clear hR4 hF4 HE5 HM hb
    go_wp2_with fail
    refine HM2.out.mono ?_
    cases hb : Tr.isW L [40] k with
    | true =>
      rintro e w5 ⟨rfl, hR5, hF5⟩
      have HA := hid_ (HE6.out.trans (if_pos hb))
      have HR5 := hid_ (show Rd w5 rb c L (k + 1) ns from hR5)
      have HF5 := hid_ (HF4.out.trans hF5)
      have HVt := hid_ (HV.out w5 rb (k + 1) c ns f (d + 1) (by omega) (by omega) (by omega) (by omega) (by omega) HR5.out)
      unfold rv at HVt
      clear hR5 hF5 HE6 HM2 hb
      go_wp2_with fail
      refine (HVt.out).mono ?_
      intro e w6 hE
      rcases hE.cases with ⟨n6, k6, ns6, hA, rfl, hR, hF⟩ | ⟨er, hA, rfl, hB⟩
      rotate_left
      · have HAe := hid_ (HA.out.trans (Tr.bind_err hA))
        have HBe := hid_ ((HF5.out.bel HR.out).trans hB)
        clear hE hA hB
        go_wp2_with fail
        rw [HAe.out]
        exact ⟨rfl, rfl, HBe.out⟩
      have HA6 := hid_ (HA.out.trans (Tr.bind_good hA))
      have HF6 := hid_ (HF5.out.trans hF)
      have HR6 := hid_ hR
      have hk6 := hid_ ((Tr.prog f).expr hA)
      have hlt6 := hR.lt
      have HM6 := hid_ (may_c hR [97, 115])
      unfold rv at HM6
      clear hE hA hR hF
      go_wp2_with fail
      refine HM6.out.mono ?_
      cases hb : Tr.isW L [97, 115] k6 with
      | true =>
        rintro e w7 ⟨rfl, hR7, hF7⟩
        have HA7 := hid_ (HA6.out.trans (if_pos hb))
        have HR7 := hid_ (show Rd w7 rb c L (k6 + 1) ns6 from hR7)
        have HF7 := hid_ (HF6.out.trans hF7)
        have HTy := hid_ (typ_all L w7 rb (k6 + 1) c ns6 f (d + 1) (by omega) (by omega) (by omega) (by omega) (by have := hk6.out; omega) HR7.out)
        unfold rv at HTy
        clear hR7 hF7 HM6 hb HA6
        go_wp2_with fail
        refine (HTy.out).mono ?_
        intro e w8 hE
        rcases hE.cases with ⟨t8, k8, ns8, hA, rfl, hR, hF⟩ | ⟨er, hA, rfl, hB⟩
        rotate_left
        · have HAe := hid_ (HA7.out.trans (Tr.bind_err hA))
          have HBe := hid_ ((HF7.out.bel HR.out).trans hB)
          clear hE hA hB
          go_wp2_with fail
          rw [HAe.out]
          exact ⟨rfl, rfl, HBe.out⟩
        have HA8 := hid_ (HA7.out.trans (Tr.bind_good hA))
        have HF8 := hid_ (HF7.out.trans hF)
        have HR8 := hid_ hR
        have HAs := hid_ (as_c hR (by have := (Tr.prog f).typ hA; omega) n6 t8)
        unfold rv at HAs
        clear hE hA hR hF
        go_wp2_with fail
        refine (HAs.out).mono ?_
        intro e w99 hE
        have hE2 := hE.pre HR.out HF8.out
        rw [← HA8.out] at hE2
        rcases hE2.cases with ⟨x, k99, ns99, hA, rfl, hR, hF⟩ | ⟨er, hA, rfl, hB⟩
        · have HE2 := hid_ hE2
          clear hE hE2 hA hR hF
          go_wp2_with fail
          go_ret
          exact HE2.out
        · have HE2 := hid_ hE2
          clear hE hE2 hA hB
          go_wp2_with fail
          exact ⟨rfl, HE2.out⟩
      | false =>
        rintro e w7 ⟨rfl, hR7, hF7⟩
        have HA7 := hid_ (HA6.out.trans (if_neg (by rw [hb]; decide)))
        have HR7 := hid_ (show Rd w7 rb c L k6 ns6 from hR7)
        have HF7 := hid_ (HF6.out.trans hF7)
        have HMu := hid_ (must_c HR7.out [41])
        unfold rv at HMu
        clear hR7 hF7 HM6 hb HA6
        go_wp2_with fail
        refine (HMu.out).mono ?_
        intro e w8 hE
        rcases hE.cases with ⟨u8, k8, ns8, hA, rfl, hR, hF⟩ | ⟨er, hA, rfl, hB⟩
        rotate_left
        · have HAe := hid_ (HA7.out.trans (Tr.bind_err hA))
          have HBe := hid_ ((HF7.out.bel HR.out).trans hB)
          clear hE hA hB
          go_wp2_with fail
          rw [HAe.out]
          exact ⟨rfl, rfl, HBe.out⟩
        have HA8 := hid_ (HA7.out.trans (Tr.bind_good hA))
        have HF8 := hid_ (HF7.out.trans hF)
        have HR8 := hid_ hR
        clear hE hA hR hF
        go_wp2_with fail
        go_ret
        rw [HA8.out]
        exact ⟨rfl, HR8.out, HF8.out⟩
    | false =>
      rintro e w5 ⟨rfl, hR5, hF5⟩
      have HA := hid_ (HE6.out.trans (if_neg (by rw [hb]; decide)))
      have HR5 := hid_ (show Rd w5 rb c L k ns from hR5)
      have HF5 := hid_ (HF4.out.trans hF5)
      have HFl := hid_ (fail_c HR5.out 30)
      unfold rv at HFl
      clear hR5 hF5 HE6 HM2 hb
      go_wp2_with fail
      refine HFl.out.mono ?_
      rintro e w6 ⟨rfl, hb6⟩
      have HB6 := hid_ ((HF5.out.bel HR.out).trans hb6)
      clear hb6
      go_wp2_with fail
      rw [HA.out]
      exact ⟨rfl, rfl, HB6.out⟩
end
end Go.Proofs.YtmgjmagniefhoaaGreatDoor
