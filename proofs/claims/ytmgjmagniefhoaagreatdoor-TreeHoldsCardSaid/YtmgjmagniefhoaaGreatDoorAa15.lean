/- What stands in these texts of the proof: Ty Ya. Conditions: those that each theorem names. -/
import Derived.Test.YtmgjmagniefhoaaGreatDoorAa14
/- The tree's reader: expr. Conditions: those that each theorem names. -/
namespace Go.Proofs.YtmgjmagniefhoaaGreatDoor
open Go.RowKit Go.Maps
section
variable {w w' w0 : World} {rb k : Nat} {c : RC} {L : List Lx.Wd} {ns : List Tr.Nd}
/-- A node's list is set. -/
theorem nd_set {nb n : Nat} {cs : Array Value} {lv : Value} {xs : List Value} (hB : Blk w nb 57 cs) (hfree : Free w rb nb) (h0 : w0.heap.size ≤ nb) (hR : Rd w rb c L k ns) (hF : Fr rb w0 w) (hl : MyR w0 w rb 3 lv n xs) :
    Blk (w.setCell ⟨nb, 5, none⟩ lv) nb 57 (cs.setIfInBounds 5 lv) ∧ Rd (w.setCell ⟨nb, 5, none⟩ lv) rb c L k ns ∧ Fr rb w0 (w.setCell ⟨nb, 5, none⟩ lv) ∧ MyR w0 (w.setCell ⟨nb, 5, none⟩ lv) rb 3 lv n xs := by
  have k3 : Kp (fun q => q = nb) w (w.setCell ⟨nb, 5, none⟩ lv) := (Kp.refl (fun q => q = nb) w).setCell (p := ⟨nb, 5, none⟩) (.inl rfl) lv
  obtain ⟨hr, hfree2, hf⟩ := hR.far k3 (fun q hq => by rw [hq]; exact hfree)
  have l3 : lv.ownBlock ≠ some nb := own_blk_ne hl.own hB (by decide)
  exact ⟨hB.set_ 5 lv, hr, hf w0 hF (fun q hq => by rw [hq]; exact h0), ⟨own_kp hl.own k3 (fun q hq e => l3 (by rw [hq, e])), fun q hq => hfree2 q (hl.free q hq)⟩⟩
/-- A node with a list. -/
theorem nodeV_c {x : Tr.Nd} {lv : Value} (hkeys : x.keys = []) (hl : MyR w0 w rb 3 lv x.l.length (ints x.l)) (hR : Rd w rb c L k ns) (hF : Fr rb w0 w) (hk : 1 ≤ k) (h0 : ∃ k ns, Rd w0 rb c L k ns) (h18 : x.kind ≠ 18) :
    Calls Tryz.prog 121 #[rv rb, .agg #[.int .i64 x.kind, .int .i64 x.num, .string (st x.mod), .string (st x.name), .slice none 0 0, lv]] w (EP (fun z => .int .i64 z) w0 rb c L (Tr.node L x k ns)) := by
  obtain ⟨k1, ns1, hR1⟩ := h0
  have hM0 : MyR w0 w rb 9 (.slice none 0 0) x.keys.length (strs x.keys) := by rw [hkeys]; exact MyR.nil w0 w rb _
  obtain ⟨hN, hX⟩ := MyR.nd (x := x) hM0 hl (Nat.le_of_lt hR1.rlt)
  exact (node_c hR hk hN (fun h => absurd h h18)).mono fun e w' hE => hE.pre2 ⟨_, _, hR1⟩ hF hX
theorem MyR.base {w1 : World} {e : TypeId} {v : Value} {n : Nat} {xs : List Value} (h : MyR w0 w rb e v n xs) (hle : w1.heap.size ≤ w0.heap.size) : MyR w1 w rb e v n xs := ⟨ownsRow_base h.own hle, h.free⟩
theorem steps_on {f : Nat} {d : Int} : ∀ (W : List (List UInt8)) {l : List Int} {k : Nat} {M : List Tr.Nd} {l' : List Int} {k' : Nat} {M' : List Tr.Nd}, stepsG L f d W l k M = .ok (l', k', M') → k ≤ k'
  | [], l, k, M, l', k', M', h => by
    obtain ⟨_, rfl, _⟩ := Tr.ok_inj h
    exact Nat.le_refl _
  | s :: W, l, k, M, l', k', M', h => by
    unfold stepsG at h
    obtain ⟨_, k1, M1, h1, g1⟩ := Tr.bind_ok h
    obtain ⟨n, k2, M2, h2, g2⟩ := Tr.bind_ok g1
    have := (Tr.prog f).expr h2
    have := steps_on W g2
    split at h1
    · obtain ⟨_, rfl, _⟩ := Tr.ok_inj h1
      omega
    · obtain ⟨rfl, _⟩ := Tr.must_ok h1
      omega
theorem sum_in {f : Nat} {d : Int} {k : Nat} {M : List Tr.Nd} {x : Int} {k' : Nat} {M' : List Tr.Nd} (h : sumG L f d k M = .ok (x, k', M')) : Tr.In x M' ∧ k ≤ k' := by
  obtain ⟨n, k1, M1, h1, g1⟩ := Tr.bind_ok h
  have a := (Tr.vals f).prim h1
  have := (Tr.prog f).prim h1
  have := (Tr.prog f).sum g1
  exact ⟨((Tr.vals f).sum a.1 g1).1, by omega⟩
theorem exprF_eq (L : List Lx.Wd) (f : Nat) (d : Int) (k : Nat) (M : List Tr.Nd) : Tr.exprF L (f + 1) d k M = Tr.bind (Tr.deep L d k M) fun _ k M =>
    if Tr.isW L [108, 101, 116] k = true then Tr.bind (Tr.word L 1 (k + 1) M) fun s k M => Tr.bind (stepsG L f d [[61], [105, 110]] [] k M) fun l k M => Tr.node L ⟨22, 0, [], s, [], l⟩ k M
    else if Tr.isW L [105, 102] k = true then Tr.bind (stepsG L f d [[], [116, 104, 101, 110], [101, 108, 115, 101]] [] (k + 1) M) fun l k M => Tr.node L ⟨20, 0, [], [], [], l⟩ k M
    else Tr.bind (sumG L f d k M) fun n k M => if Tr.isW L [105, 115] k = true then Tr.shapeF L n k M else .ok (n, k, M) := by
  rw [Tr.exprF]
  simp only [stepsG, sumG, Tr.bind_bind]
  rfl
set_option maxHeartbeats 8000000 in
set_option maxRecDepth 100000 in
theorem expr_c {k0 : Nat} (hs : RdC L k0 125 6 (sumG L)) (he : ValC L (k0 + 1) 97 (Tr.exprF L)) : ValC L k0 97 (Tr.exprF L) := by
  intro w rb k c ns f d hd0 _ hk0 hk1 hf h
  obtain ⟨f, rfl⟩ : ∃ f', f = f' + 1 := ⟨f - 1, by omega⟩
  have HR := hid_ h
  have HR0 := hid_ (show ∃ k ns, Rd w rb c L k ns from ⟨_, _, h⟩)
  have HS := hid_ hs
  have HX := hid_ he
  have HE := hid_ (exprF_eq L f d k ns)
  have HD := hid_ (deep_c h d)
  clear h hs he
  generalize Tr.exprF L (f + 1) d k ns = A at *
  unfold rv
  unfold rv at HD
  go_enter Tryz.func97, Tryz.ntmps97
  go_wp2_with fail
  refine (HD.out).mono ?_
  intro e w1 hE
  rcases hE.cases with ⟨u, k1, ns1, hA, rfl, hR, hF⟩ | ⟨er, hA, rfl, hB⟩
  rotate_left
  · have HAe := hid_ (HE.out.trans (Tr.bind_err hA))
    have HBe := hid_ (hB)
    clear hE hA hB
    go_wp2_with fail
    rw [HAe.out]
    exact ⟨rfl, rfl, HBe.out⟩
  have HA1 := hid_ (HE.out.trans (Tr.bind_good hA))
  have HF1 := hid_ (hF)
  have HR1 := hid_ hR
  have hd1 := Tr.deep_le hA
  obtain ⟨rfl, rfl⟩ := Tr.deep_ok hA
  have hlt := hR.lt
  have HM := hid_ (may_c hR [108, 101, 116])
  unfold rv at HM
  clear hE hA hR hF
  go_wp2_with fail
  refine HM.out.mono ?_
  cases hb : Tr.isW L [108, 101, 116] k1 with
  | true =>
    rintro e w2 ⟨rfl, hR2, hF2⟩
    have HA2 := hid_ (HA1.out.trans (if_pos hb))
    have HF2 := hid_ (HF1.out.trans hF2)
    have HWd := hid_ (word_c (show Rd w2 rb c L (k1 + 1) ns1 from hR2) 1 (by decide))
    unfold rv at HWd
    clear hR2 hF2 HM hb HA1
    go_wp2_with fail
    refine (HWd.out).mono ?_
    intro e w3 hE
    rcases hE.cases with ⟨s3, k3, ns3, hA, rfl, hR, hF⟩ | ⟨er, hA, rfl, hB⟩
    rotate_left
    · have HAe := hid_ (HA2.out.trans (Tr.bind_err hA))
      have HBe := hid_ ((HF2.out.bel HR.out).trans hB)
      clear hE hA hB
      go_wp2_with fail
      rw [HAe.out]
      exact ⟨rfl, rfl, HBe.out⟩
    have HA3 := hid_ (HA2.out.trans (Tr.bind_good hA))
    have HF3 := hid_ (HF2.out.trans hF)
    have HR3 := hid_ hR
    obtain ⟨hk3, _⟩ := Tr.word_ok hA
    have Hk3 := hid_ hk3
    clear hk3
    have HBk := hid_ (Blk.new w3 57 #[.int .i64 22, .int .i64 0, .string ⟨#[]⟩, .string (st s3), .slice none 0 0, .slice none 0 0])
    have HB3 := hid_ (below_alloc w3 (.cells #[.int .i64 22, .int .i64 0, .string ⟨#[]⟩, .string (st s3), .slice none 0 0, .slice none 0 0] 57))
    clear hE hA hR hF
    go_wp2_with fail
    have hsz := alloc_sz w3 (.cells #[.int .i64 22, .int .i64 0, .string ⟨#[]⟩, .string (st s3), .slice none 0 0, .slice none 0 0] 57)
    generalize w3.alloc (Obj.cells #[.int .i64 22, .int .i64 0, .string ⟨#[]⟩, .string (st s3), .slice none 0 0, .slice none 0 0] 57) = W4 at HBk HB3 hsz ⊢
    have HR4 := hid_ (HR3.out.below HB3.out)
    have HF4 := hid_ (HF3.out.trans (Fr.of_below HB3.out HR3.out))
    have HFr4 := hid_ (Free.new2 (q := w3.heap.size) HR3.out HB3.out (Nat.le_refl _))
    have HMd := hid_ (MyR.made (w0 := W4) (e := 9) HR4.out (Nat.le_refl _) 2 #[.string ⟨#[61]⟩, .string ⟨#[105, 110]⟩] rfl)
    have HBa := hid_ (below_alloc W4 (.cells #[.string ⟨#[61]⟩, .string ⟨#[105, 110]⟩] 9))
    have HR5 := hid_ (HR4.out.below HBa.out)
    have HSt := hid_ (steps_c (w0 := W4) HX.out HR5.out ⟨_, _, HR4.out⟩ (Fr.of_below HBa.out HR4.out) [[61], [105, 110]] (by decide) HMd.out (by have := Hk3.out; omega) (by have := Hk3.out; omega) f (by have := Hk3.out; omega) d hd0 hd1)
    have hle : w.heap.size ≤ w3.heap.size := HF3.out.kp.size
    unfold rv at HSt
    rw [hsz] at HSt
    clear HB3 hsz
    go_wp2_with fail
    refine HSt.out.mono ?_
    intro e w6 hE
    rcases hE.cases with ⟨l, k6, ns6, lv, hA, rfl, hR, hF, hl⟩ | ⟨er, hA, rfl, hB⟩
    rotate_left
    · have HAe := hid_ (HA3.out.trans (Tr.bind_err hA))
      have HBe := hid_ ((HF4.out.bel HR.out).trans hB)
      clear hE hA hB
      go_wp2_with fail
      rw [HAe.out]
      exact ⟨rfl, rfl, HBe.out⟩
    have HA4 := hid_ (HA3.out.trans (Tr.bind_good hA))
    have Hk6 := hid_ (steps_on _ hA)
    have HR6 := hid_ hR
    obtain ⟨hB6, hFr6⟩ := HBk.out.fr HFr4.out hF
    obtain ⟨hB7, hR7, hF7, hl7⟩ := nd_set (w0 := w) hB6 hFr6 hle hR (HF4.out.trans hF) (hl.base HF4.out.kp.size)
    obtain ⟨Bl, dl, rfl⟩ := own_form hl.own
    have x5 : w6.cell? ⟨w3.heap.size, 5, none⟩ = some (.slice none 0 0) := hB6.cell 5
    have f5 : w6.frozen? ⟨w3.heap.size, 5, none⟩ = false := hB6.frozen 5
    have n0 : (w6.setCell ⟨w3.heap.size, 5, none⟩ (.slice Bl l.length dl)).cell? ⟨w3.heap.size, 0, none⟩ = some (.int .i64 22) := hB7.cell 0
    have n1 : (w6.setCell ⟨w3.heap.size, 5, none⟩ (.slice Bl l.length dl)).cell? ⟨w3.heap.size, 1, none⟩ = some (.int .i64 0) := hB7.cell 1
    have n2 : (w6.setCell ⟨w3.heap.size, 5, none⟩ (.slice Bl l.length dl)).cell? ⟨w3.heap.size, 2, none⟩ = some (.string ⟨#[]⟩) := hB7.cell 2
    have n3 : (w6.setCell ⟨w3.heap.size, 5, none⟩ (.slice Bl l.length dl)).cell? ⟨w3.heap.size, 3, none⟩ = some (.string (st s3)) := hB7.cell 3
    have n4 : (w6.setCell ⟨w3.heap.size, 5, none⟩ (.slice Bl l.length dl)).cell? ⟨w3.heap.size, 4, none⟩ = some (.slice none 0 0) := hB7.cell 4
    have n5 : (w6.setCell ⟨w3.heap.size, 5, none⟩ (.slice Bl l.length dl)).cell? ⟨w3.heap.size, 5, none⟩ = some (.slice Bl l.length dl) := hB7.cell 5
    have HNd := hid_ (nodeV_c (x := ⟨22, 0, [], s3, [], l⟩) (w0 := w) rfl hl7 hR7 hF7 (by have := Hk6.out; have := Hk3.out; omega) HR0.out (by simp))
    unfold rv at HNd
    clear hE hA hR hF hl hB6 hFr6 hB7 hR7 hF7 hl7 HR6 HA3
    go_wp2_with fail
    refine (HNd.out).mono ?_
    intro e w99 hE
    rw [← HA4.out] at hE
    rcases hE.cases with ⟨x, k99, ns99, hA, rfl, hR, hF⟩ | ⟨er, hA, rfl, hB⟩
    · have HE2 := hid_ hE
      clear hE hA hR hF
      go_wp2_with fail
      go_ret
      exact HE2.out
    · have HE2 := hid_ hE
      clear hE hA hB
      go_wp2_with fail
      exact ⟨rfl, HE2.out⟩
  | false =>
    rintro e w2 ⟨rfl, hR2, hF2⟩
    have HA2 := hid_ (HA1.out.trans (if_neg (by rw [hb]; decide)))
    have HR2 := hid_ (show Rd w2 rb c L k1 ns1 from hR2)
    have HF2 := hid_ (HF1.out.trans hF2)
    have HM2 := hid_ (may_c HR2.out [105, 102])
    unfold rv at HM2
    clear hR2 hF2 HM hb HA1
    go_wp2_with fail
    refine HM2.out.mono ?_
    cases hb : Tr.isW L [105, 102] k1 with
    | true =>
      rintro e w3 ⟨rfl, hR3, hF3⟩
      have HA3 := hid_ (HA2.out.trans (if_pos hb))
      have HR3 := hid_ (show Rd w3 rb c L (k1 + 1) ns1 from hR3)
      have HF3 := hid_ (HF2.out.trans hF3)
      have HMd := hid_ (MyR.made (w0 := w3) (e := 9) HR3.out (Nat.le_refl _) 3 #[.string ⟨#[]⟩, .string ⟨#[116, 104, 101, 110]⟩, .string ⟨#[101, 108, 115, 101]⟩] rfl)
      have HBa := hid_ (below_alloc w3 (.cells #[.string ⟨#[]⟩, .string ⟨#[116, 104, 101, 110]⟩, .string ⟨#[101, 108, 115, 101]⟩] 9))
      have HR5 := hid_ (HR3.out.below HBa.out)
      have HSt := hid_ (steps_c (w0 := w3) HX.out HR5.out ⟨_, _, HR3.out⟩ (Fr.of_below HBa.out HR3.out) [[], [116, 104, 101, 110], [101, 108, 115, 101]] (by decide) HMd.out (by omega) (by omega) f (by omega) d hd0 hd1)
      unfold rv at HSt
      clear hR3 hF3 HM2 hb HA2
      go_wp2_with fail
      refine HSt.out.mono ?_
      intro e w6 hE
      rcases hE.cases with ⟨l, k6, ns6, lv, hA, rfl, hR, hF, hl⟩ | ⟨er, hA, rfl, hB⟩
      rotate_left
      · have HAe := hid_ (HA3.out.trans (Tr.bind_err hA))
        have HBe := hid_ ((HF3.out.bel HR.out).trans hB)
        clear hE hA hB
        go_wp2_with fail
        rw [HAe.out]
        exact ⟨rfl, rfl, HBe.out⟩
      have HA4 := hid_ (HA3.out.trans (Tr.bind_good hA))
      have hk6 := steps_on _ hA
      have HNd := hid_ (nodeV_c (x := ⟨20, 0, [], [], [], l⟩) (w0 := w) rfl (hl.base HF3.out.kp.size) hR (HF3.out.trans hF) (by omega) HR0.out (by simp))
      obtain ⟨Bl, dl, rfl⟩ := own_form hl.own
      unfold rv at HNd
      clear hE hA hR hF hl hk6
      go_wp2_with fail
      refine (HNd.out).mono ?_
      intro e w99 hE
      rw [← HA4.out] at hE
      rcases hE.cases with ⟨x, k99, ns99, hA, rfl, hR, hF⟩ | ⟨er, hA, rfl, hB⟩
      · have HE2 := hid_ hE
        clear hE hA hR hF
        go_wp2_with fail
        go_ret
        exact HE2.out
      · have HE2 := hid_ hE
        clear hE hA hB
        go_wp2_with fail
        exact ⟨rfl, HE2.out⟩
    | false =>
      rintro e w3 ⟨rfl, hR3, hF3⟩
      have HA3 := hid_ (HA2.out.trans (if_neg (by rw [hb]; decide)))
      have HR3 := hid_ (show Rd w3 rb c L k1 ns1 from hR3)
      have HF3 := hid_ (HF2.out.trans hF3)
      have HSu := hid_ (HS.out w3 rb k1 c ns1 f d hd0 hd1 hk0 hk1 (by omega) HR3.out)
      unfold rv at HSu
      clear hR3 hF3 HM2 hb HA2
      go_wp2_with fail
      refine (HSu.out).mono ?_
      intro e w4 hE
      rcases hE.cases with ⟨n4, k4, ns4, hA, rfl, hR, hF⟩ | ⟨er, hA, rfl, hB⟩
      rotate_left
      · have HAe := hid_ (HA3.out.trans (Tr.bind_err hA))
        have HBe := hid_ ((HF3.out.bel HR.out).trans hB)
        clear hE hA hB
        go_wp2_with fail
        rw [HAe.out]
        exact ⟨rfl, rfl, HBe.out⟩
      have HA4 := hid_ (HA3.out.trans (Tr.bind_good hA))
      have HF4 := hid_ (HF3.out.trans hF)
      have HR4 := hid_ hR
      have hin := sum_in hA
      have HIn := hid_ hin
      clear hin
      have HI := hid_ (is_c hR [105, 115])
      unfold rv at HI
      clear hE hA hR hF
      go_wp2_with fail
      refine HI.out.mono ?_
      cases hb : Tr.isW L [105, 115] k4 with
      | true =>
        rintro e w5 ⟨rfl, hb5⟩
        have HA5 := hid_ (HA4.out.trans (if_pos hb))
        have HR5 := hid_ (HR4.out.below hb5)
        have HF5 := hid_ (HF4.out.trans (Fr.of_below hb5 HR4.out))
        have HSh := hid_ (shape_c HR5.out (by have := HIn.out.2; omega) (isw_lt HR5.out hb) n4 HIn.out.1)
        unfold rv at HSh
        clear hb5 HA4 HI hb
        go_wp2_with fail
        refine (HSh.out).mono ?_
        intro e w99 hE
        have hE2 := hE.pre HR.out HF5.out
        rw [← HA5.out] at hE2
        rcases hE2.cases with ⟨x, k99, ns99, hA, rfl, hR, hF⟩ | ⟨er, hA, rfl, hB⟩
        · have HE2 := hid_ hE2
          clear hE hE2 hA hR hF
          go_wp2_with fail
          go_ret
          exact HE2.out
        · have HE2 := hid_ hE2
          clear hE hE2 hA hB
          go_wp2_with fail
          exact ⟨rfl, HE2.out⟩
      | false =>
        rintro e w5 ⟨rfl, hb5⟩
        have HA5 := hid_ (HA4.out.trans (if_neg (by rw [hb]; decide)))
        have HR5 := hid_ (HR4.out.below hb5)
        have HF5 := hid_ (HF4.out.trans (Fr.of_below hb5 HR4.out))
        clear hb5 HA4 HI hb
        go_wp2_with fail
        go_ret
        rw [HA5.out]
        exact ⟨rfl, HR5.out, HF5.out⟩
theorem expr_step {k0 : Nat} (he : ValC L (k0 + 1) 97 (Tr.exprF L)) : ValC L k0 97 (Tr.exprF L) := expr_c (sum_c (prim_c (atom_c he))) he
theorem expr_from (L : List Lx.Wd) : ∀ n k0 : Nat, L.length ≤ k0 + n → ValC L k0 97 (Tr.exprF L)
  | 0, k0, h => fun w rb k c ns f d _ _ hk0 _ _ hR => absurd hR.lt (by omega)
  | n + 1, k0, h => expr_step (expr_from L n (k0 + 1) (by omega))
/-- expr, whole. -/
theorem expr_all (L : List Lx.Wd) : ValC L 0 97 (Tr.exprF L) := expr_from L L.length 0 (by omega)
end
end Go.Proofs.YtmgjmagniefhoaaGreatDoor

/- The tree's reader: what the closure of vars does. Conditions: those that each theorem names. -/
namespace Go.Proofs.YtmgjmagniefhoaaGreatDoor
open Go.RowKit Go.Maps
theorem Tryz.infoV : (Tryz.prog.info? 67).map (fun i => (i.zero, i.size, i.bytes)) = some (some (.agg #[.string ⟨#[]⟩, .int .i64 0]), 2, 24) := by kernel_rfl
section
variable {w w' w0 : World} {rb k : Nat} {c : RC} {L : List Lx.Wd} {ns : List Tr.Nd}
def flatV (l : List Tr.Vr) : List Value := l.flatMap fun x => [.string (st x.name), .int .i64 x.type]
theorem flatV_snoc (l : List Tr.Vr) (x : Tr.Vr) : flatV (l ++ [x]) = flatV l ++ [.string (st x.name), .int .i64 x.type] := by simp [flatV]
/-- A row of a caller's own, of things of several cells: none of the reader's, new since w0. -/
structure MyS (w0 w : World) (rb : Nat) (e : TypeId) (sz : Nat) (v : Value) (n : Nat) (xs : List Value) : Prop where
  own : w.ownsRow w0.heap.size e sz v n xs
  free : ∀ q, v.ownBlock = some q → Free w rb q
variable {e : TypeId} {v : Value} {n sz : Nat} {xs : List Value}
theorem MyS.fr (h : MyS w0 w rb e sz v n xs) (hF : Fr rb w w') : MyS w0 w' rb e sz v n xs :=
  ⟨own_kp h.own hF.kp (fun q hq hS => hS.elim (fun e => by have := (h.free q hq).1; omega) (fun e => (h.free q hq).2.1 e)), fun q hq => (h.free q hq).fr (own_lt h.own hq) hF⟩
theorem MyS.nil (w0 w : World) (rb : Nat) (e : TypeId) (sz : Nat) : MyS w0 w rb e sz (.slice none 0 0) 0 [] := ⟨⟨by simp, .inl ⟨rfl, rfl⟩⟩, fun _ hq => by cases hq⟩
theorem MyS.base {w1 : World} (h : MyS w0 w rb e sz v n xs) (hle : w1.heap.size ≤ w0.heap.size) : MyS w1 w rb e sz v n xs := ⟨ownsRow_base h.own hle, h.free⟩
theorem MyS.grown {v' : Value} {n' : Nat} {xs' : List Value} {w1 : World} (h : MyS w0 w rb e sz v n xs) (hR : Rd w rb c L k ns) (hF : Fr rb w0 w) (hW : Below w.heap.size w w1) (hg : w1.grownBy w' v.ownBlock) (hown : w'.ownsRow w0.heap.size e sz v' n' xs') (hat : ∀ q, v'.ownBlock = some q → v.ownBlock = some q ∨ w1.heap.size ≤ q) :
    MyS w0 w' rb e sz v' n' xs' ∧ Rd w' rb c L k ns ∧ Fr rb w0 w' ∧ Kp (fun q => v.ownBlock = some q) w w' ∧ (∀ q, Free w rb q → Free w' rb q) := by
  have hk : Kp (fun q => v.ownBlock = some q) w w' := (Kp.of_below hW _).grown hg (fun q hq => .inl hq)
  obtain ⟨h1, h2, h3⟩ := hR.far hk h.free
  refine ⟨⟨hown, fun q hq => ?_⟩, h1, h3 w0 hF (fun _ hq => own_base h.own hq), hk, h2⟩
  rcases hat q hq with e | e
  · exact h2 q (h.free q e)
  · exact h2 q (Free.new hR (Nat.le_trans hW.size e))
/-- The variables of vars, from block g on: the reader, the kind, the word between, the list, the names. -/
structure VaV (w0 : World) (rb g : Nat) (kind : Int) (bt : List UInt8) (lv nv : Value) (xs : List (List UInt8)) (s : List Tr.Vr) (W : World) : Prop where
  rB : Blk W g 63 #[rv rb]
  kB : Blk W (g + 1) 3 #[.int .i64 kind]
  bB : Blk W (g + 2) 9 #[.string (st bt)]
  lB : Blk W (g + 3) 52 #[lv]
  nB : Blk W (g + 4) 26 #[nv]
  nr : MyR w0 W rb 9 nv xs.length (strs xs)
  ls : MyS w0 W rb 67 2 lv s.length (flatV s)
  ne : nv.ownBlock ≠ some (g + 2)
  fr : ∀ i, i < 5 → Free W rb (g + i)
  le : w0.heap.size ≤ g
def VaI (w0 : World) (rb g : Nat) (kind : Int) (bt : List UInt8) (s : List Tr.Vr) (W : World) : Prop := ∃ lv nv, VaV w0 rb g kind bt lv nv (s.map (·.name)) s W
variable {g : Nat} {kind : Int} {bt : List UInt8} {lv nv : Value} {ys : List (List UInt8)} {s : List Tr.Vr}
theorem VaV.to (h : VaV w0 rb g kind bt lv nv ys s w) (hF : Fr rb w w') : VaV w0 rb g kind bt lv nv ys s w' := by
  have key : ∀ i, i < 5 → ¬ (g + i = rb ∨ nvOf w rb = some (g + i)) := fun i hi hS => hS.elim (fun e => by have := (h.fr i hi).1; omega) (fun e => (h.fr i hi).2.1 e)
  have hlt := h.nB.lt
  exact ⟨h.rB.kp hF.kp (key 0 (by omega)), h.kB.kp hF.kp (key 1 (by omega)), h.bB.kp hF.kp (key 2 (by omega)), h.lB.kp hF.kp (key 3 (by omega)), h.nB.kp hF.kp (key 4 (by omega)), h.nr.fr hF, h.ls.fr hF, h.ne, fun i hi => (h.fr i hi).fr (by omega) hF, h.le⟩
theorem VaI.to (h : VaI w0 rb g kind bt s w) (hF : Fr rb w w') : VaI w0 rb g kind bt s w' := by
  obtain ⟨lv, nv, h⟩ := h
  exact ⟨lv, nv, h.to hF⟩
/-- A name is put behind the others. -/
theorem VaV.key {nv' : Value} {w1 w3 : World} {x : List UInt8} (h : VaV w0 rb g kind bt lv nv ys s w) (hR : Rd w rb c L k ns) (hF : Fr rb w0 w) (hW : Below w.heap.size w w1) (hg : w1.grownBy w3 nv.ownBlock) (hown : w3.ownsRow w0.heap.size 9 1 nv' (ys.length + 1) (strs ys ++ [.string (st x)])) (hat : ∀ q, nv'.ownBlock = some q → nv.ownBlock = some q ∨ w1.heap.size ≤ q) :
    w3.cell? ⟨g + 4, 0, none⟩ = some nv ∧ w3.frozen? ⟨g + 4, 0, none⟩ = false ∧ Rd (w3.setCell ⟨g + 4, 0, none⟩ nv') rb c L k ns ∧ Fr rb w0 (w3.setCell ⟨g + 4, 0, none⟩ nv') ∧ VaV w0 rb g kind bt lv nv' (ys ++ [x]) s (w3.setCell ⟨g + 4, 0, none⟩ nv') := by
  obtain ⟨hm, hr, hf, hk, hfree⟩ := h.nr.grown hR hF hW hg hown hat
  have n0 : nv.ownBlock ≠ some g := own_blk_ne h.nr.own h.rB (by decide)
  have n1 : nv.ownBlock ≠ some (g + 1) := own_blk_ne h.nr.own h.kB (by decide)
  have n3 : nv.ownBlock ≠ some (g + 3) := own_blk_ne h.nr.own h.lB (by decide)
  have n4 : nv.ownBlock ≠ some (g + 4) := own_blk_ne h.nr.own h.nB (by decide)
  have b0 := h.rB.kp hk n0
  have b1 := h.kB.kp hk n1
  have b2 := h.bB.kp hk h.ne
  have b3 := h.lB.kp hk n3
  have b4 := h.nB.kp hk n4
  have hlt : g + 2 < w1.heap.size := Nat.lt_of_lt_of_le h.bB.lt hW.size
  have hls : MyS w0 w3 rb 67 2 lv s.length (flatV s) := ⟨own_kp h.ls.own hk (fun q hq e => own_ne h.ls.own h.nr.own (by decide) hq e), fun q hq => hfree q (h.ls.free q hq)⟩
  have k3 : Kp (fun q => q = g + 4) w3 (w3.setCell ⟨g + 4, 0, none⟩ nv') := (Kp.refl (fun q => q = g + 4) w3).setCell (p := ⟨g + 4, 0, none⟩) (.inl rfl) nv'
  obtain ⟨hr2, hfree2, hf2⟩ := hr.far k3 (fun q hq => by rw [hq]; exact hfree _ (h.fr 4 (by omega)))
  have m4 : nv'.ownBlock ≠ some (g + 4) := own_blk_ne hown b4 (by decide)
  have l4 : lv.ownBlock ≠ some (g + 4) := own_blk_ne hls.own b4 (by decide)
  refine ⟨b4.cell 0, b4.frozen 0, hr2, hf2 w0 hf (fun q hq => by rw [hq]; have := h.le; omega), ?_⟩
  refine ⟨b0.kp k3 (by omega), b1.kp k3 (by omega), b2.kp k3 (by omega), b3.kp k3 (by omega), b4.set_ 0 nv', ⟨?_, fun q hq => hfree2 q (hm.free q hq)⟩, ⟨own_kp hls.own k3 (fun q hq e => l4 (by rw [hq, e])), fun q hq => hfree2 q (hls.free q hq)⟩, fun e => ?_, fun i hi => hfree2 _ (hfree _ (h.fr i hi)), h.le⟩
  · have := own_kp hm.own k3 (fun q hq e => m4 (by rw [hq, e]))
    simpa [strs] using this
  · rcases hat _ e with e | e
    · exact h.ne e
    · omega
/-- A variable is put behind the others. -/
theorem VaV.put {lv' : Value} {w1 w3 : World} {x : Tr.Vr} (h : VaV w0 rb g kind bt lv nv ys s w) (hR : Rd w rb c L k ns) (hF : Fr rb w0 w) (hW : Below w.heap.size w w1) (hg : w1.grownBy w3 lv.ownBlock) (hown : w3.ownsRow w0.heap.size 67 2 lv' (s.length + 1) (flatV s ++ [.string (st x.name), .int .i64 x.type])) (hat : ∀ q, lv'.ownBlock = some q → lv.ownBlock = some q ∨ w1.heap.size ≤ q) :
    w3.cell? ⟨g + 3, 0, none⟩ = some lv ∧ w3.frozen? ⟨g + 3, 0, none⟩ = false ∧ Rd (w3.setCell ⟨g + 3, 0, none⟩ lv') rb c L k ns ∧ Fr rb w0 (w3.setCell ⟨g + 3, 0, none⟩ lv') ∧ VaV w0 rb g kind bt lv' nv ys (s ++ [x]) (w3.setCell ⟨g + 3, 0, none⟩ lv') := by
  obtain ⟨hm, hr, hf, hk, hfree⟩ := h.ls.grown hR hF hW hg hown hat
  have n0 : lv.ownBlock ≠ some g := own_blk_ne h.ls.own h.rB (by decide)
  have n1 : lv.ownBlock ≠ some (g + 1) := own_blk_ne h.ls.own h.kB (by decide)
  have n2 : lv.ownBlock ≠ some (g + 2) := own_blk_ne h.ls.own h.bB (by decide)
  have n3 : lv.ownBlock ≠ some (g + 3) := own_blk_ne h.ls.own h.lB (by decide)
  have n4 : lv.ownBlock ≠ some (g + 4) := own_blk_ne h.ls.own h.nB (by decide)
  have b0 := h.rB.kp hk n0
  have b1 := h.kB.kp hk n1
  have b2 := h.bB.kp hk n2
  have b3 := h.lB.kp hk n3
  have b4 := h.nB.kp hk n4
  have hnr : MyR w0 w3 rb 9 nv ys.length (strs ys) := ⟨own_kp h.nr.own hk (fun q hq e => own_ne h.nr.own h.ls.own (by decide) hq e), fun q hq => hfree q (h.nr.free q hq)⟩
  have k3 : Kp (fun q => q = g + 3) w3 (w3.setCell ⟨g + 3, 0, none⟩ lv') := (Kp.refl (fun q => q = g + 3) w3).setCell (p := ⟨g + 3, 0, none⟩) (.inl rfl) lv'
  obtain ⟨hr2, hfree2, hf2⟩ := hr.far k3 (fun q hq => by rw [hq]; exact hfree _ (h.fr 3 (by omega)))
  have m3 : lv'.ownBlock ≠ some (g + 3) := own_blk_ne hown b3 (by decide)
  have l3 : nv.ownBlock ≠ some (g + 3) := own_blk_ne hnr.own b3 (by decide)
  refine ⟨b3.cell 0, b3.frozen 0, hr2, hf2 w0 hf (fun q hq => by rw [hq]; have := h.le; omega), ?_⟩
  refine ⟨b0.kp k3 (by omega), b1.kp k3 (by omega), b2.kp k3 (by omega), b3.set_ 0 lv', b4.kp k3 (by omega), ⟨own_kp hnr.own k3 (fun q hq e => l3 (by rw [hq, e])), fun q hq => hfree2 q (hnr.free q hq)⟩, ⟨?_, fun q hq => hfree2 q (hm.free q hq)⟩, h.ne, fun i hi => hfree2 _ (hfree _ (h.fr i hi)), h.le⟩
  rw [flatV_snoc, List.length_append]
  exact own_kp hm.own k3 (fun q hq e => m3 (by rw [hq, e]))
/-- One variable, plainly. -/
def varG (L : List Lx.Wd) (kind : Int) (bt : List UInt8) (_f _many : Nat) (s : List Tr.Vr) (k : Nat) (M : List Tr.Nd) : Tr.An (List Tr.Vr) :=
  Tr.bind (Tr.fresh L (s.map (·.name)) kind k M) fun x k M => Tr.bind (Tr.must L bt k M) fun _ k M => Tr.bind (Tr.typ L 1 k M) fun t k M => .ok (s ++ [⟨x, t⟩], k, M)
theorem var_row (L : List Lx.Wd) (kind : Int) (bt : List UInt8) : RowF L (fun many s => s.length = many) (varG L kind bt) (fun f _ s k M => Tr.varsF L f kind bt s k M) := by
  refine ⟨fun f many s k M hP => ?_, fun f many s k M s' k' M' h => ?_, fun f many s k M s' k' M' hP h => ?_⟩
  · subst hP
    show Tr.varsF L (f + 1) kind bt s k M = _
    rw [Tr.varsF]
    unfold varG
    simp only [Tr.bind_bind]
    rfl
  · unfold varG at h
    obtain ⟨x, k1, M1, h1, g1⟩ := Tr.bind_ok h
    obtain ⟨u, k2, M2, h2, g2⟩ := Tr.bind_ok g1
    obtain ⟨n, k3, M3, h3, g3⟩ := Tr.bind_ok g2
    obtain ⟨rfl, _⟩ := Tr.fresh_ok h1
    obtain ⟨rfl, _⟩ := Tr.must_ok h2
    have := (Tr.prog _).typ h3
    obtain ⟨_, rfl, _⟩ := Tr.ok_inj g3
    omega
  · unfold varG at h
    obtain ⟨x, k1, M1, h1, g1⟩ := Tr.bind_ok h
    obtain ⟨u, k2, M2, h2, g2⟩ := Tr.bind_ok g1
    obtain ⟨n, k3, M3, h3, g3⟩ := Tr.bind_ok g2
    obtain ⟨rfl, _, _⟩ := Tr.ok_inj g3
    simp only [List.length_append, List.length_cons, List.length_nil]
    rw [hP]
end
end Go.Proofs.YtmgjmagniefhoaaGreatDoor
