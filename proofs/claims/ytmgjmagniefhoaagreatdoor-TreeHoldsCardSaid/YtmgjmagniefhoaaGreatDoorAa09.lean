/- What stands in these texts of the proof: Tb Tc Td. Conditions: those that each theorem names. -/
import Derived.Test.YtmgjmagniefhoaaGreatDoorAa08
import Derived.WalkMore
import Derived.WalkLawsBesides
import Derived.Deep.DeepCutAuto
import Derived.Deep.CutBlock
import Derived.Deep.AppendLies
import Derived.Deep.RegionWith
import Derived.StillTailTactics
/- The tree's reader: now, is, may, fail, must, word, room, deep. Conditions: those that each theorem names. -/
namespace Go.Proofs.YtmgjmagniefhoaaGreatDoor
open Go.RowKit Go.Maps

def wordV (x : Lx.Wd) : Value := .agg #[.int .i64 x.kind, .string (st x.text), .int .i64 x.num, .int .i64 x.pos]
def rv (rb : Nat) : Value := .pointer (some ⟨rb, 0, none⟩)
section
variable {w w' : World} {rb k : Nat} {c : RC} {L : List Lx.Wd} {ns : List Tr.Nd}
theorem now_at {k : Nat} (h : k < L.length) : Tr.now L k = L[k] := by
  unfold Tr.now
  rw [List.getD_eq_getElem?_getD, List.getElem?_eq_getElem h]
  rfl
/-- The cells of a word. -/
theorem Rd.word (h : Rd w rb c L k ns) {j : Nat} (hj : j < L.length) : ∃ b off cc, c.lv = .slice (some ⟨b, off, none⟩) L.length cc ∧ w.cell? ⟨b, off + j * 4, none⟩ = some (.int .i64 (Tr.now L j).kind) ∧ w.cell? ⟨b, off + j * 4 + 1, none⟩ = some (.string (st (Tr.now L j).text)) ∧
    w.cell? ⟨b, off + j * 4 + 2, none⟩ = some (.int .i64 (Tr.now L j).num) ∧ w.cell? ⟨b, off + j * 4 + 3, none⟩ = some (.int .i64 (Tr.now L j).pos) := by
  obtain ⟨A, cc, e, hn, hA⟩ := h.ws
  cases A with
  | none => have := hn rfl; subst this; simp at hj
  | some a =>
    obtain ⟨b, off, n⟩ := a
    obtain ⟨rfl, hc⟩ := hA b off n rfl
    rw [now_at hj]
    exact ⟨b, off, cc, e, hc j hj 0 (by omega), hc j hj 1 (by omega), hc j hj 2 (by omega), hc j hj 3 (by omega)⟩
theorem Rd.cells (h : Rd w rb c L k ns) : ∃ nv, w.cell? ⟨rb, 0, none⟩ = some c.lv ∧ w.cell? ⟨rb, 1, none⟩ = some (.int .i64 k) ∧ w.cell? ⟨rb, 2, none⟩ = some c.nm ∧ w.cell? ⟨rb, 3, none⟩ = some c.iv ∧ w.cell? ⟨rb, 4, none⟩ = some c.tv ∧ w.cell? ⟨rb, 5, none⟩ = some c.fv ∧ w.cell? ⟨rb, 6, none⟩ = some nv ∧ (∀ i, w.frozen? ⟨rb, i, none⟩ = false) ∧ NodesP w rb nv ns := by
  obtain ⟨nv, hb, hn⟩ := h.blk
  exact ⟨nv, hb.cell 0, hb.cell 1, hb.cell 2, hb.cell 3, hb.cell 4, hb.cell 5, hb.cell 6, fun i => hb.frozen i, hn⟩
theorem NdOwn.kp {x : Tr.Nd × Value × Value} {S : Nat → Prop} (h : NdOwn w rb x) (hk : Kp S w w') (hs : ∀ q, S q → ∀ t cs, Blk w q t cs → t ≠ 9 ∧ t ≠ 3) : NdOwn w' rb x := by
  have key : ∀ {e : TypeId} {v : Value} {n : Nat} {xs : List Value}, w.ownsRow rb e 1 v n xs → (e = 9 ∨ e = 3) → ∀ q, v.ownBlock = some q → ¬ S q := by
    intro e v n xs ho he q hq hS
    rcases ho.2 with ⟨hv, _⟩ | ⟨g, cap, cur, hv, _, hh, _⟩
    · rw [hv] at hq; cases hq
    · rw [hv] at hq
      injection hq with hq
      subst hq
      obtain ⟨h1, h2⟩ := hs g hS e cur hh
      rcases he with e1 | e1
      · exact h1 e1
      · exact h2 e1
  exact ⟨own_kp h.1 hk (key h.1 (.inl rfl)), own_kp h.2 hk (key h.2 (.inr rfl))⟩
theorem Rd.below (h : Rd w rb c L k ns) (hb : Below w.heap.size w w') : Rd w' rb c L k ns := by
  obtain ⟨nv, h1, xs, h2, h3, h4⟩ := h.blk
  exact ⟨⟨nv, h1.kp (Kp.of_below hb fun _ => False) id, xs, h2, own_kp h3 (Kp.of_below hb fun _ => False) (fun _ _ e => e), fun x hx => (h4 x hx).kp (Kp.of_below hb fun _ => False) (fun _ e => e.elim)⟩, h.ws.below hb, h.low, h.lt, h.ends, h.few, h.txt, h.many, h.nok⟩
theorem Rd.drew (h : Rd w rb c L k ns) (n : Nat) : Rd (w.drewN n) rb c L k ns := h.below (dr_below _ _ _)
theorem Fr.drew (h : Rd w rb c L k ns) (n : Nat) : Fr rb w (w.drewN n) := Fr.of_below (dr_below _ _ _) h
theorem Fr.refl (h : Rd w rb c L k ns) : Fr rb w w := Fr.of_below (Below.refl _ _) h
/-- The next word is read. -/
theorem Rd.step (h : Rd w rb c L k ns) (hk : k + 1 < L.length) : Rd (w.setCell ⟨rb, 1, none⟩ (.int .i64 ((k + 1 : Nat) : Int))) rb c L (k + 1) ns ∧ Fr rb w (w.setCell ⟨rb, 1, none⟩ (.int .i64 ((k + 1 : Nat) : Int))) := by
  obtain ⟨nv, h1, xs, h2, h3, h4⟩ := h.blk
  have kp : Kp (fun q => q = rb) w (w.setCell ⟨rb, 1, none⟩ (.int .i64 ((k + 1 : Nat) : Int))) := (Kp.refl (fun q => q = rb) w).setCell (p := ⟨rb, 1, none⟩) (.inl rfl) _
  have hB := h1.set_ 1 (.int .i64 ((k + 1 : Nat) : Int))
  have hws := h.ws.kp (rb := rb) kp (fun q hq => Nat.le_of_eq hq.symm) h.low
  refine ⟨⟨⟨nv, hB, xs, h2, own_kp h3 kp ?_, fun x hx => (h4 x hx).kp kp ?_⟩, hws, h.low, hk, h.ends, h.few, h.txt, h.many, h.nok⟩, ⟨kp.mono (fun q hq => .inl hq), fun q hq => ?_, fun q hq => .inl (nb_same h kp (fun b hb e => ?_) (by rw [nvV_rd hB, nvV_rd h1]) hq)⟩⟩
  · intro q hq e
    subst e
    exact own_blk_ne h3 h1 (by decide) hq
  · rintro q rfl t cs hb
    have : t = 65 := by
      have e := h1.symm.trans hb
      injection e with e
      injection e with _ e _
      exact e.symm
    subst this
    exact ⟨by decide, by decide⟩
  · rw [nvOf_rd hB] at hq
    rw [nvOf_rd h1]
    exact .inl hq
  · subst e
    rw [nvOf_rd h1] at hb
    exact own_blk_ne h3 h1 (by decide) hb

theorem zero_cells {w0 : World} {g : Nat} (hB : Blk w0 g 88 #[.int .i64 0, .string ⟨#[]⟩, .int .i64 0, .int .i64 0]) : w0.cell? ⟨g, 0, none⟩ = some (.int .i64 0) ∧ w0.cell? ⟨g, 1, none⟩ = some (.string ⟨#[]⟩) ∧ w0.cell? ⟨g, 2, none⟩ = some (.int .i64 0) ∧ w0.cell? ⟨g, 3, none⟩ = some (.int .i64 0) ∧
    w0.frozen? ⟨g, 0, none⟩ = false ∧ w0.frozen? ⟨g, 1, none⟩ = false ∧ w0.frozen? ⟨g, 2, none⟩ = false ∧ w0.frozen? ⟨g, 3, none⟩ = false :=
  ⟨hB.cell 0, hB.cell 1, hB.cell 2, hB.cell 3, hB.frozen 0, hB.frozen 1, hB.frozen 2, hB.frozen 3⟩
set_option maxHeartbeats 1000000 in
set_option maxRecDepth 100000 in
theorem now_c (h : Rd w rb c L k ns) : Calls Tryz.prog 69 #[rv rb] w fun e w' => e = .returned (wordV (Tr.now L k)) ∧ Below w.heap.size w w' := by
  have HR := hid_ h
  have hlt := h.lt
  have b0 : (0 : Int) ≤ (k : Int) := by omega
  have b1 : (k : Int) < (L.length : Int) := by omega
  clear h
  unfold rv
  go_enter Tryz.func69, Tryz.ntmps69
  go_wp2_with fail
  have HB0 := hid_ (Blk.new w 88 #[Value.int IntKind.i64 0, Value.string { data := #[] }, Value.int IntKind.i64 0, Value.int IntKind.i64 0])
  have Hb0 := hid_ ((Below.refl w.heap.size w).alloc (Nat.le_refl _) (Obj.cells #[Value.int IntKind.i64 0, Value.string { data := #[] }, Value.int IntKind.i64 0, Value.int IntKind.i64 0] 88))
  generalize w.alloc (Obj.cells #[Value.int IntKind.i64 0, Value.string { data := #[] }, Value.int IntKind.i64 0, Value.int IntKind.i64 0] 88) = w0 at *
  obtain ⟨e0, e1, e2, e3, g0, g1, g2, g3⟩ := zero_cells HB0.out
  have HR0 := hid_ (HR.out.below Hb0.out)
  obtain ⟨nv, c0, c1, hrest⟩ := HR0.out.cells
  clear hrest
  obtain ⟨b, off, cc, ec, x0, x1, x2, x3⟩ := HR0.out.word HR0.out.lt
  rw [ec] at c0
  clear ec
  go_region
  go_wp2_with fail
  clear c0 c1 x0 x1 x2 x3
  refine bodyPost_ret (v := .agg #[.int .i64 (Tr.now L k).kind, .string (st (Tr.now L k).text), .int .i64 (Tr.now L k).num, .int .i64 (Tr.now L k).pos]) (by simp [results, Tryz.results69, go_sem, e0, e1, e2, e3]) rfl ⟨rfl, ?_⟩
  exact ((((Hb0.out.setCell (Nat.le_refl _) _).setCell (Nat.le_refl _) _).setCell (Nat.le_refl _) _).setCell (Nat.le_refl _) _).drew
theorem isw_is (L : List Lx.Wd) (s : List UInt8) (k : Nat) : Tr.isW L s k = ((decide ((Tr.now L k).kind = 6) || decide ((Tr.now L k).kind = 5)) && decide ((Tr.now L k).text = s)) := rfl
theorem txt_is (a b : List UInt8) : ((st a).toList == (st b).toList) = decide (a = b) := by
  by_cases h : a = b
  · subst h; simp
  · rw [decide_eq_false h]
    exact str_ne (st_ne h)
set_option maxHeartbeats 1000000 in
set_option maxRecDepth 100000 in
theorem is_c (h : Rd w rb c L k ns) (s : List UInt8) : Calls Tryz.prog 66 #[rv rb, .string (st s)] w fun e w' => e = .returned (.bool (Tr.isW L s k)) ∧ Below w.heap.size w w' := by
  have HR := hid_ h
  clear h
  unfold rv
  go_enter Tryz.func66, Tryz.ntmps66
  go_wp2_with fail
  refine (now_c HR.out).mono ?_
  rintro e w1 ⟨rfl, hb1⟩
  have HB1 := hid_ hb1
  clear hb1
  unfold wordV
  go_wp2_with fail
  all_goals
    go_ret
    refine ⟨?_, HB1.out.alloc HB1.out.size _⟩
  · rename_i h6
    rw [isw_is, h6]
    simp [txt_is]
  · rename_i h6 h5
    rw [isw_is, h5]
    simp [txt_is]
  · rename_i h6 h5
    rw [isw_is]
    simp [h6, h5]
theorem FrX.toBelow {rb : Nat} {X : Nat → Prop} {w w' : World} (h : FrX rb X w w') (hn : ∀ q, nvOf w rb = some q → rb ≤ q) (hlt : rb ≤ w.heap.size) : Below rb w w' := h.kp.toBelow hlt (fun q hq e => by
  rcases e with rfl | e
  · omega
  · have := hn q e; omega)
theorem Rd.low_ (h : Rd w rb c L k ns) (q : Nat) (hq : nvOf w rb = some q) : rb ≤ q := by
  obtain ⟨nv, h1, xs, h2, h3, h4⟩ := h.blk
  rw [nvOf_rd h1] at hq
  exact own_base h3 hq
theorem FrX.bel {rb : Nat} {X : Nat → Prop} {w w' : World} {c : RC} {L : List Lx.Wd} {k : Nat} {ns : List Tr.Nd} (h : FrX rb X w w') (hR : Rd w rb c L k ns) : Below rb w w' := h.toBelow hR.low_ (Nat.le_of_lt hR.rlt)
theorem isw_lt (h : Rd w rb c L k ns) {s : List UInt8} (hs : Tr.isW L s k = true) : k + 1 < L.length := by
  rw [isw_is, Bool.and_eq_true, Bool.or_eq_true, decide_eq_true_eq, decide_eq_true_eq] at hs
  have h7 := (h.ends k h.lt)
  have := h.lt
  by_cases e : k + 1 = L.length
  · have := h7.2 e
    omega
  · omega
set_option maxHeartbeats 1000000 in
set_option maxRecDepth 100000 in
theorem may_c (h : Rd w rb c L k ns) (s : List UInt8) : Calls Tryz.prog 63 #[rv rb, .string (st s)] w fun e w' => e = .returned (.bool (Tr.isW L s k)) ∧ Rd w' rb c L (if Tr.isW L s k = true then k + 1 else k) ns ∧ Fr rb w w' := by
  have HR := hid_ h
  have HL := hid_ (fun hs => isw_lt (s := s) h hs)
  clear h
  have HI := hid_ (is_c HR.out s)
  generalize Tr.isW L s k = b at *
  unfold rv
  go_enter Tryz.func63, Tryz.ntmps63
  go_wp2_with fail
  refine HI.out.mono ?_
  rintro e w1 ⟨rfl, hb1⟩
  have HR1 := hid_ (HR.out.below hb1)
  have HF1 := hid_ (Fr.of_below hb1 HR.out)
  clear hb1
  cases b with
  | false =>
    go_wp2_with fail
    go_ret
    exact ⟨rfl, by simpa using HR1.out, HF1.out⟩
  | true =>
    obtain ⟨nv, c0, c1, hrest⟩ := HR1.out.cells
    have f1 := (hrest.2.2.2.2.2.1) 1
    have hk := HL.out (by trivial)
    have hfew := HR1.out.few
    have HS := hid_ (HR1.out.step hk)
    clear hrest c0
    go_wp2_with fail
    go_ret
    have hS := HS.out
    rw [show (((k + 1 : Nat) : Int)) = (k : Int) + 1 from by omega] at hS
    exact ⟨rfl, hS.1, HF1.out.trans hS.2⟩
theorem fld3 (a b c d : Value) (W : World) : (Instr.field 88 (.agg #[a, b, c, d]) 3).run Tryz.prog W = .ok d W := by kernel_rfl
set_option maxHeartbeats 1000000 in
set_option maxRecDepth 100000 in
/-- An error is thrown. -/
theorem fail_c (h : Rd w rb c L k ns) (er : Int) : Calls Tryz.prog 70 #[rv rb, .int .i64 er] w fun e w' => e = .panicked (thrown ((Tr.now L k).pos, er)) ∧ Below rb w w' := by
  have HR := hid_ h
  clear h
  unfold rv
  go_enter Tryz.func70, Tryz.ntmps70
  go_wp2_with fail
  refine (now_c HR.out).mono ?_
  rintro e w1 ⟨rfl, hb1⟩
  have HB1 := hid_ hb1
  clear hb1
  have q3 := fld3 (.int .i64 (Tr.now L k).kind) (.string (st (Tr.now L k).text)) (.int .i64 (Tr.now L k).num) (.int .i64 (Tr.now L k).pos) w1
  unfold wordV
  go_wp2_with fail
  exact ⟨rfl, rfl, HB1.out.mono (Nat.le_of_lt HR.out.rlt)⟩
set_option maxHeartbeats 1000000 in
set_option maxRecDepth 100000 in
theorem must_c (h : Rd w rb c L k ns) (s : List UInt8) : Calls Tryz.prog 61 #[rv rb, .string (st s)] w (EP (fun _ => .tuple #[]) w rb c L (Tr.must L s k ns)) := by
  have HM := hid_ (may_c h s)
  have HE := hid_ (show Tr.must L s k ns = if Tr.isW L s k = true then .ok ((), k + 1, ns) else .error ((Tr.now L k).pos, 30) from rfl)
  have HR := hid_ h
  clear h
  generalize Tr.must L s k ns = A at *
  generalize Tr.isW L s k = b at *
  unfold rv
  go_enter Tryz.func61, Tryz.ntmps61
  go_wp2_with fail
  refine HM.out.mono ?_
  rintro e w1 ⟨rfl, hR1, hF1⟩
  have HR1 := hid_ hR1
  have HF1 := hid_ hF1
  clear hR1 hF1
  cases b with
  | true =>
    go_wp2_with fail
    go_end0
    rw [HE.out]
    simp only [if_true]
    exact ⟨rfl, by simpa using HR1.out, HF1.out⟩
  | false =>
    have HR2 : Rd w1 rb c L k ns := by simpa using HR1.out
    have HFl := hid_ (fail_c HR2 30)
    clear HR2
    go_wp2_with fail
    refine HFl.out.mono ?_
    rintro e w2 ⟨rfl, hb2⟩
    have HB2 := hid_ ((HF1.out.bel HR.out).trans hb2)
    clear hb2
    go_wp2_with fail
    rw [HE.out]
    exact ⟨rfl, rfl, HB2.out⟩
set_option maxHeartbeats 1000000 in
set_option maxRecDepth 100000 in
theorem word_c (h : Rd w rb c L k ns) (kind : Int) (h7 : kind ≠ 7) : Calls Tryz.prog 62 #[rv rb, .int .i64 kind] w (EP (fun t => .string (st t)) w rb c L (Tr.word L kind k ns)) := by
  have HR := hid_ h
  have HE := hid_ (show Tr.word L kind k ns = if (Tr.now L k).kind = kind then .ok ((Tr.now L k).text, k + 1, ns) else .error ((Tr.now L k).pos, 30) from rfl)
  have hk : (Tr.now L k).kind = kind → k + 1 < L.length := by
    intro e
    have := (h.ends k h.lt)
    have := h.lt
    by_cases e2 : k + 1 = L.length
    · have := (h.ends k h.lt).2 e2
      omega
    · omega
  have HK := hid_ hk
  have HN := hid_ (now_c h)
  clear h hk
  generalize Tr.word L kind k ns = A at *
  unfold rv
  unfold rv wordV at HN
  go_enter Tryz.func62, Tryz.ntmps62
  go_wp2_with fail
  refine HN.out.mono ?_
  rintro e w1 ⟨rfl, hb1⟩
  have HR1 := hid_ (HR.out.below hb1)
  have HF1 := hid_ (Fr.of_below hb1 HR.out)
  clear hb1
  by_cases hq : (Tr.now L k).kind = kind
  · have hk := HK.out hq
    have hA := HE.out.trans (if_pos hq)
    have HA := hid_ hA
    have hb2 : ∀ o, Below w1.heap.size w1 (w1.alloc o) := fun o => (Below.refl _ _).alloc (Nat.le_refl _) o
    have HR2 := hid_ (fun o => HR1.out.below (hb2 o))
    have HF2 := hid_ (fun o => HF1.out.trans (Fr.of_below (hb2 o) HR1.out))
    have HS := hid_ (fun o => (HR2.out o).step hk)
    have hne : w1.heap.size ≠ rb := by have := HR1.out.rlt; omega
    have c1 : ∀ o, (w1.alloc o).cell? ⟨rb, 1, none⟩ = some (.int .i64 k) := fun o => by
      obtain ⟨nv, _, c1, _⟩ := (HR2.out o).cells
      exact c1
    have f1 : ∀ o, (w1.alloc o).frozen? ⟨rb, 1, none⟩ = false := fun o => by
      obtain ⟨nv, _, _, _, _, _, _, _, f, _⟩ := (HR2.out o).cells
      exact f 1
    have t1 : ∀ v, ((w1.alloc (.cells #[.int .i64 kind, .string (st (Tr.now L k).text), .int .i64 (Tr.now L k).num, .int .i64 (Tr.now L k).pos] 88)).setCell ⟨rb, 1, none⟩ v).cell? ⟨w1.heap.size, 1, none⟩ = some (.string (st (Tr.now L k).text)) := fun v =>
      ((Blk.new w1 _ #[.int .i64 kind, .string (st (Tr.now L k).text), .int .i64 (Tr.now L k).num, .int .i64 (Tr.now L k).pos]).far (p := ⟨rb, 1, none⟩) hne v).cell 1
    have hfew := HR1.out.few
    clear hA hb2 hne
    rw [hq]
    go_wp2_with fail
    go_ret
    rw [HA.out]
    have hS := HS.out (.cells #[.int .i64 kind, .string (st (Tr.now L k).text), .int .i64 (Tr.now L k).num, .int .i64 (Tr.now L k).pos] 88)
    rw [show (((k + 1 : Nat) : Int)) = (k : Int) + 1 from by omega] at hS
    exact ⟨rfl, hS.1, (HF2.out _).trans hS.2⟩
  · have hA := HE.out.trans (if_neg hq)
    have HA := hid_ hA
    have q0 : ((Tr.now L k).kind == kind) = false := by rw [beq_eq_false_iff_ne]; exact hq
    have hb2 : ∀ o, Below w1.heap.size w1 (w1.alloc o) := fun o => (Below.refl _ _).alloc (Nat.le_refl _) o
    have HFl := hid_ (fun o => fail_c (HR1.out.below (hb2 o)) 30)
    have HF2 := hid_ (fun o => (HF1.out.trans (Fr.of_below (hb2 o) HR1.out)).bel HR.out)
    clear hA hb2
    go_wp2_with fail
    refine (HFl.out _).mono ?_
    rintro e w2 ⟨rfl, hb3⟩
    have HB2 := hid_ ((HF2.out _).trans hb3)
    clear hb3
    go_wp2_with fail
    rw [HA.out]
    exact ⟨rfl, rfl, HB2.out⟩
end
end Go.Proofs.YtmgjmagniefhoaaGreatDoor

/- The tree's reader: room, deep, Contains, fresh, node. Conditions: those that each theorem names. -/
namespace Go.Proofs.YtmgjmagniefhoaaGreatDoor
open Go.RowKit Go.Maps
section
theorem EPX.pre {α : Type} {X : Nat → Prop} {val : α → Value} {w w1 w' : World} {rb k : Nat} {c : RC} {L : List Lx.Wd} {ns : List Tr.Nd} {A : Tr.An α} {e : Ending} (h : EPX X val w1 rb c L A e w') (hR : Rd w rb c L k ns) (hF : Fr rb w w1) : EPX X val w rb c L A e w' := by
  cases A with
  | error er => exact ⟨h.1, (hF.bel hR).trans h.2⟩
  | ok x =>
    obtain ⟨x, k', ns'⟩ := x
    exact ⟨h.1, h.2.1, FrX.transX (X := X) ⟨hF.kp, hF.nv, fun q hq => (hF.nb q hq).imp id (fun (e : w.heap.size ≤ q ∨ False) => .inl (e.elim id False.elim))⟩ h.2.2 (fun q e => .inl e)⟩
variable {w w' : World} {rb k : Nat} {c : RC} {L : List Lx.Wd} {ns : List Tr.Nd}
set_option maxHeartbeats 1000000 in
set_option maxRecDepth 100000 in
theorem room_c (h : Rd w rb c L k ns) (many most : Int) : Calls Tryz.prog 64 #[rv rb, .int .i64 many, .int .i64 most] w (EP (fun _ => .tuple #[]) w rb c L (Tr.room L many most k ns)) := by
  have HR := hid_ h
  have HF := hid_ (fail_c h 5)
  have HE := hid_ (show Tr.room L many most k ns = if most ≤ many then .error ((Tr.now L k).pos, 5) else .ok ((), k, ns) from rfl)
  clear h
  generalize Tr.room L many most k ns = A at *
  unfold rv
  unfold rv at HF
  by_cases hm : most ≤ many
  · have HA := hid_ (HE.out.trans (if_pos hm))
    go_enter Tryz.func64, Tryz.ntmps64
    go_wp2_with fail
    refine HF.out.mono ?_
    rintro e w2 ⟨rfl, hb2⟩
    have HB2 := hid_ hb2
    clear hb2
    go_wp2_with fail
    rw [HA.out]
    exact ⟨rfl, rfl, HB2.out⟩
  · have HA := hid_ (HE.out.trans (if_neg hm))
    have hm2 : ¬ (many ≥ most) := hm
    go_enter Tryz.func64, Tryz.ntmps64
    go_wp2_with fail
    go_end0
    rw [HA.out]
    exact ⟨rfl, HR.out, Fr.refl HR.out⟩
set_option maxHeartbeats 1000000 in
set_option maxRecDepth 100000 in
theorem deep_c (h : Rd w rb c L k ns) (d : Int) : Calls Tryz.prog 119 #[rv rb, .int .i64 d] w (EP (fun _ => .tuple #[]) w rb c L (Tr.deep L d k ns)) := by
  have HR := hid_ h
  have HF := hid_ (fail_c h 31)
  have HE := hid_ (show Tr.deep L d k ns = if 60 < d then .error ((Tr.now L k).pos, 31) else .ok ((), k, ns) from rfl)
  clear h
  generalize Tr.deep L d k ns = A at *
  unfold rv
  unfold rv at HF
  by_cases hm : 60 < d
  · have HA := hid_ (HE.out.trans (if_pos hm))
    go_enter Tryz.func119, Tryz.ntmps119
    go_wp2_with fail
    refine HF.out.mono ?_
    rintro e w2 ⟨rfl, hb2⟩
    have HB2 := hid_ hb2
    clear hb2
    go_wp2_with fail
    rw [HA.out]
    exact ⟨rfl, rfl, HB2.out⟩
  · have HA := hid_ (HE.out.trans (if_neg hm))
    go_enter Tryz.func119, Tryz.ntmps119
    go_wp2_with fail
    go_end0
    rw [HA.out]
    exact ⟨rfl, HR.out, Fr.refl HR.out⟩
set_option maxHeartbeats 2000000 in
set_option maxRecDepth 100000 in
theorem index_c (w : World) {base : Nat} {v : Value} {l : List (List UInt8)} (h : w.ownsRow base 9 1 v l.length (strs l)) (hl : l.length ≤ 1000000) (t : List UInt8) : Calls Tryz.prog 118 #[v, .string (st t)] w fun e w' => (∃ z : Int, e = .returned (.int .i64 z) ∧ (0 ≤ z ↔ t ∈ l)) ∧ ∃ n, w' = w.drewN n := by
  obtain ⟨A, d, rfl⟩ := own_form h
  have HO := hid_ h
  clear h
  go_enter Tryz.func118, Tryz.ntmps118
  go_wp2_with fail
  go_loop [8] (fun v => ∃ j : Nat, v = .int .i64 j ∧ j ≤ l.length ∧ ∀ i (h : i < l.length), i < j → l[i] ≠ t) (fun v => l.length - (intOf v).toNat)
  case atStart => exact ⟨0, rfl, by omega, fun i _ h => by omega⟩
  case round =>
    obtain ⟨j, rfl, hj, hall⟩ := hrel
    have HA := hid_ hall
    clear hall
    by_cases hlt : j < l.length
    · have b0 : (0 : Int) ≤ (j : Int) := by omega
      have b1 : (j : Int) < (l.length : Int) := by omega
      have hcell : ∀ ad, A = some ad → w.cell? (ad.add j) = some (.string (st l[j])) := fun ad e => by
        refine own_news HO.out ad e j _ ?_
        unfold strs
        rw [List.getElem?_map, List.getElem?_eq_getElem hlt]
        rfl
      cases A with
      | none =>
        have h0 := (own_none HO.out rfl).1
        omega
      | some ad =>
        obtain ⟨g, rfl⟩ : ∃ g, ad = ⟨g, 0, none⟩ := (own_parts HO.out).2.2.2.1 ad rfl
        have c0 : w.cell? ⟨g, j, none⟩ = some (.string (st l[j])) := by
          have := hcell _ rfl
          rw [add_at] at this
          exact this
        clear hcell
        by_cases he : l[j] = t
        · have q0 : ((st t).toList == (st l[j]).toList) = true := by rw [txt_is]; exact decide_eq_true he.symm
          have hmem : t ∈ l := by rw [← he]; exact List.getElem_mem hlt
          have HMm := hid_ hmem
          clear hmem he
          go_wp2_with fail
          go_ret
          exact ⟨⟨_, rfl, fun _ => HMm.out, fun _ => b0⟩, 0, rfl⟩
        · have q0 : ((st t).toList == (st l[j]).toList) = false := by rw [txt_is]; exact decide_eq_false (fun e => he e.symm)
          have HNe := hid_ he
          clear he
          go_wp2_with fail
          go_round
          case rel => exact ⟨j + 1, by go_num, by omega, fun i hi hi2 => by
            by_cases e : i = j
            · subst e; exact HNe.out
            · exact HA.out i hi (by omega)⟩
          case measure => (simp [intOf] <;> omega)
    · have b1 : ¬ (j : Int) < (l.length : Int) := by omega
      have hno : t ∉ l := fun hm => by
        obtain ⟨i, hi, e⟩ := List.getElem_of_mem hm
        exact HA.out i hi (by omega) e
      have HNo := hid_ hno
      clear hno
      go_wp2_with fail
      go_ret
      exact ⟨⟨_, rfl, fun h => absurd h (by decide), fun h => absurd h HNo.out⟩, 0, rfl⟩
set_option maxHeartbeats 2000000 in
set_option maxRecDepth 100000 in
theorem has_c (w : World) {base : Nat} {v : Value} {l : List (List UInt8)} (h : w.ownsRow base 9 1 v l.length (strs l)) (hl : l.length ≤ 1000000) (t : List UInt8) : Calls Tryz.prog 94 #[v, .string (st t)] w fun e w' => e = .returned (.bool (decide (t ∈ l))) ∧ Below w.heap.size w w' := by
  have HI := hid_ (index_c w h hl t)
  clear h
  go_enter Tryz.func94, Tryz.ntmps94
  go_wp2_with fail
  refine HI.out.mono ?_
  rintro e w1 ⟨⟨z, rfl, hz⟩, n, rfl⟩
  have HZ := hid_ hz
  by_cases h0 : 0 ≤ z
  · have HM := hid_ (decide_eq_true (HZ.out.1 h0))
    clear hz
    go_wp2_with fail
    go_ret
    rw [HM.out]
    exact ⟨by simp, by first | exact dr_below _ _ _ | exact bdrewN (dr_below _ _ _) _ | exact (dr_below _ _ _).drew⟩
  · have HM := hid_ (decide_eq_false (fun hm => h0 (HZ.out.2 hm)))
    clear hz
    go_wp2_with fail
    go_ret
    rw [HM.out]
    exact ⟨by simp [h0], by first | exact dr_below _ _ _ | exact bdrewN (dr_below _ _ _) _ | exact (dr_below _ _ _).drew⟩
set_option maxHeartbeats 2000000 in
set_option maxRecDepth 100000 in
theorem fresh_c (h : Rd w rb c L k ns) {base : Nat} {v : Value} {l : List (List UInt8)} (hv : w.ownsRow base 9 1 v l.length (strs l)) (hl : l.length ≤ 1000000) (kind : Int) (h7 : kind ≠ 7) : Calls Tryz.prog 65 #[rv rb, v, .int .i64 kind] w (EP (fun t => .string (st t)) w rb c L (Tr.fresh L l kind k ns)) := by
  have HR := hid_ h
  have HV := hid_ hv
  have HE := hid_ (show Tr.fresh L l kind k ns = if (Tr.now L k).kind = kind ∧ (Tr.now L k).text ∈ l then .error ((Tr.now L k).pos, 30) else Tr.word L kind k ns from rfl)
  have HN := hid_ (now_c h)
  clear h hv
  generalize Tr.fresh L l kind k ns = A at *
  unfold rv
  unfold rv wordV at HN
  go_enter Tryz.func65, Tryz.ntmps65
  go_wp2_with fail
  refine HN.out.mono ?_
  rintro e w1 ⟨rfl, hb1⟩
  have HR1 := hid_ (HR.out.below hb1)
  have HB1 := hid_ hb1
  clear hb1
  have HR2 := hid_ (fun o => HR1.out.below ((Below.refl w1.heap.size w1).alloc (Nat.le_refl _) o))
  have HB2 := hid_ (fun o => HB1.out.alloc HB1.out.size o)
  have HF2 := hid_ (fun o => Fr.of_below (HB2.out o) HR.out)
  by_cases hq : (Tr.now L k).kind = kind
  · have q0 : ((Tr.now L k).kind == kind) = true := by rw [beq_iff_eq]; exact hq
    have HQ := hid_ hq
    have HH := hid_ (fun o => has_c (w1.alloc o) (own_kp HV.out (Kp.of_below (HB2.out o) fun _ => False) (fun _ _ h => h)) hl (Tr.now L k).text)
    clear hq
    by_cases hm : (Tr.now L k).text ∈ l
    · have hA := HE.out.trans (if_pos ⟨HQ.out, hm⟩)
      have HA := hid_ hA
      have HD := hid_ (decide_eq_true hm)
      clear hA hm
      go_wp2_with fail
      refine (HH.out _).mono ?_
      rw [HD.out]
      rintro e w2 ⟨rfl, hb2⟩
      have HFl := hid_ (fail_c ((HR2.out _).below hb2) 30)
      have HB3 := hid_ (((HF2.out _).bel HR.out).trans (hb2.mono (Nat.le_of_lt (HR2.out _).rlt)))
      clear hb2
      go_wp2_with fail
      refine HFl.out.mono ?_
      rintro e w3 ⟨rfl, hb3⟩
      have HB4 := hid_ (HB3.out.trans hb3)
      clear hb3
      go_wp2_with fail
      rw [HA.out]
      exact ⟨rfl, rfl, HB4.out⟩
    · have hA := HE.out.trans (if_neg (fun h => hm h.2))
      have HA := hid_ hA
      have HD := hid_ (decide_eq_false hm)
      clear hA hm
      go_wp2_with fail
      refine (HH.out _).mono ?_
      rw [HD.out]
      rintro e w2 ⟨rfl, hb2⟩
      have HR3 := hid_ ((HR2.out _).below hb2)
      have HF3 := hid_ ((HF2.out _).trans (Fr.of_below hb2 (HR2.out _)))
      clear hb2
      go_wp2_with fail
      refine (word_c HR3.out kind h7).mono ?_
      intro e w3 hE
      have hE2 := hE.pre HR.out HF3.out
      rw [← HA.out] at hE2
      rcases hE2.cases with ⟨x, k', ns', hA, rfl, hR, hF⟩ | ⟨er, hA, rfl, hB⟩
      · have HE2 := hid_ hE2
        clear hE hE2 hA hR hF
        go_wp2_with fail
        go_ret
        exact HE2.out
      · have HE2 := hid_ hE2
        clear hE hE2 hA hB
        go_wp2_with fail
        exact ⟨rfl, HE2.out⟩
  · have q0 : ((Tr.now L k).kind == kind) = false := by rw [beq_eq_false_iff_ne]; exact hq
    have hA := HE.out.trans (if_neg (fun h => hq h.1))
    have HA := hid_ hA
    clear hq hA
    go_wp2_with fail
    refine (word_c (HR2.out _) kind h7).mono ?_
    intro e w3 hE
    have hE2 := hE.pre HR.out (HF2.out _)
    rw [← HA.out] at hE2
    rcases hE2.cases with ⟨x, k', ns', hA, rfl, hR, hF⟩ | ⟨er, hA, rfl, hB⟩
    · have HE2 := hid_ hE2
      clear hE hE2 hA hR hF
      go_wp2_with fail
      go_ret
      exact HE2.out
    · have HE2 := hid_ hE2
      clear hE hE2 hA hB
      go_wp2_with fail
      exact ⟨rfl, HE2.out⟩
end
end Go.Proofs.YtmgjmagniefhoaaGreatDoor

/- The tree's reader: node. Conditions: those that each theorem names. -/
namespace Go.Proofs.YtmgjmagniefhoaaGreatDoor
open Go.RowKit Go.Maps
theorem Tryz.infoN : (Tryz.prog.info? 57).map (fun i => (i.zero, i.size, i.bytes)) = some (some (.agg #[.int .i64 0, .int .i64 0, .string ⟨#[]⟩, .string ⟨#[]⟩, .slice none 0 0, .slice none 0 0]), 6, 96) := by kernel_rfl
section
variable {w w' : World} {rb k : Nat} {c : RC} {L : List Lx.Wd} {ns : List Tr.Nd}
theorem step_panic {P : Program} {w : World} {ops : Array Oper} {o : Oper} {a : Act} {K : Act → World → Prop} {Q : Exit → Act → World → Prop} {E : Prop} (hgd : o.guard = none) (x : Operand) (ho : o.op = .panic x) (t : TypeId) (v : Value) (hx : a.eval x = .iface t v)
    (h : Q (.panic [{ v := .iface t v, recovered := false }]) a w) : if Region.wanted o (yielded ops a.tmps) = true then Oper.wp P o a w K Q else E := by
  have hw : Region.wanted o (yielded ops a.tmps) = true := by simp [Region.wanted, hgd]
  rw [if_pos hw]
  unfold Oper.wp execOp
  simp only [ho, hx]
  exact h
def ndV (x : Tr.Nd × Value × Value) : Value := .agg #[.int .i64 x.1.kind, .int .i64 x.1.num, .string (st x.1.mod), .string (st x.1.name), x.2.1, x.2.2]
theorem own_type {w : World} {base g : Nat} {e t : TypeId} {size n : Nat} {v : Value} {xs : List Value} {cs : Array Value} (h : w.ownsRow base e size v n xs) (hv : v.ownBlock = some g) (hb : Blk w g t cs) : t = e := by
  rcases h.2 with ⟨hv2, _⟩ | ⟨g', cap, cur, hv2, _, hh, _⟩
  · rw [hv2] at hv; cases hv
  · rw [hv2] at hv
    injection hv with hv
    have hv' : g' = g := hv
    subst hv'
    have e2 := hb.symm.trans hh
    injection e2 with e2
    injection e2 with _ e2 _
theorem blk_type {w : World} {g : Nat} {t t' : TypeId} {cs cs' : Array Value} (h : Blk w g t cs) (h' : Blk w g t' cs') : t = t' := by
  have e := h.symm.trans h'
  injection e with e
  injection e with _ e _
/-- The blocks of a node's own lists. -/
def NdX (x : Tr.Nd × Value × Value) (q : Nat) : Prop := x.2.1.ownBlock = some q ∨ x.2.2.ownBlock = some q
theorem flatN_mem : ∀ (xs : List (Tr.Nd × Value × Value)) (u : Value), u ∈ flatN xs → ∃ y ∈ xs, u ∈ cellN y.1 y.2.1 y.2.2
  | [], u, h => by cases h
  | y :: xs, u, h => by
    rcases List.mem_append.1 (show u ∈ cellN y.1 y.2.1 y.2.2 ++ flatN xs from h) with h | h
    · exact ⟨y, List.mem_cons_self, h⟩
    · obtain ⟨z, hz, hu⟩ := flatN_mem xs u h
      exact ⟨z, List.mem_cons_of_mem _ hz, hu⟩
theorem cellN_own {x : Tr.Nd × Value × Value} {u : Value} {q : Nat} (h : u ∈ cellN x.1 x.2.1 x.2.2) (hq : u.ownBlock = some q) : NdX x q := by
  simp only [cellN, List.mem_cons, List.not_mem_nil, or_false] at h
  rcases h with rfl | rfl | rfl | rfl | rfl | rfl
  · cases hq
  · cases hq
  · cases hq
  · cases hq
  · exact .inl hq
  · exact .inr hq
theorem own_cells {w : World} {base g size n : Nat} {e : TypeId} {v : Value} {xs : List Value} (h : w.ownsRow base e size v n xs) (hv : v.ownBlock = some g) (j : Nat) (hj : j < xs.length) : w.cell? ⟨g, j, none⟩ = some xs[j] := by
  have hu := List.getElem?_eq_getElem hj
  rcases h.2 with ⟨hv2, _⟩ | ⟨g', cap, cur, hv2, _⟩
  · rw [hv2] at hv; cases hv
  · subst hv2
    injection hv with hv
    have hv' : g' = g := hv
    subst hv'
    exact own_cell h j _ hu
theorem own_nv {w : World} {base size n : Nat} {e : TypeId} {v : Value} {xs : List Value} (h : w.ownsRow base e size v n xs) : nvLen v = n := by
  rcases h.2 with ⟨hv, h0⟩ | ⟨g, cap, cur, hv, _⟩
  · subst hv; exact h0.symm
  · subst hv; rfl
theorem NOk.snoc {ns : List Tr.Nd} {x : Tr.Nd} (h : NOk ns) (hx : x.kind = 18 → ∃ m : Int, x.l = [m] ∧ 0 ≤ m ∧ m < ns.length) : NOk (ns ++ [x]) := by
  intro y hy hk
  rw [List.length_append]
  rcases List.mem_append.1 hy with hy | hy
  · obtain ⟨m, e, h0, h1⟩ := h y hy hk
    exact ⟨m, e, h0, by rw [Int.natCast_add]; omega⟩
  · rw [List.mem_singleton.1 hy] at hk ⊢
    obtain ⟨m, e, h0, h1⟩ := hx hk
    exact ⟨m, e, h0, by rw [Int.natCast_add]; omega⟩
/-- A node is put behind the others. -/
theorem Rd.node {W w1 : World} {nv nv' : Value} {xs : List (Tr.Nd × Value × Value)} {x : Tr.Nd × Value × Value} (h : Rd w rb c L k ns) (hb : Blk w rb 65 (rcells c k nv)) (hxs : xs.map (·.1) = ns) (hown : w.ownsRow rb 57 6 nv ns.length (flatN xs)) (hnd : ∀ y ∈ xs, NdOwn w rb y) (hx : NdOwn w rb x) (hok : x.1.kind = 18 → ∃ m : Int, x.1.l = [m] ∧ 0 ≤ m ∧ m < ns.length) (hn : ns.length < 4000)
    (hW : Below w.heap.size w W) (hg : W.grownBy w1 nv.ownBlock) (hown' : w1.ownsRow rb 57 6 nv' (ns.length + 1) (flatN xs ++ cellN x.1 x.2.1 x.2.2)) (hat : ∀ q, nv'.ownBlock = some q → nv.ownBlock = some q ∨ W.heap.size ≤ q) :
    w1.cell? ⟨rb, 6, none⟩ = some nv ∧ w1.frozen? ⟨rb, 6, none⟩ = false ∧ Rd (w1.setCell ⟨rb, 6, none⟩ nv') rb c L k (ns ++ [x.1]) ∧ FrX rb (NdX x) w (w1.setCell ⟨rb, 6, none⟩ nv') := by
  have k1 : Kp (fun q => nv.ownBlock = some q) w w1 := (Kp.of_below hW _).grown hg (fun q hq => .inl hq)
  have hrb : nv.ownBlock ≠ some rb := fun e => absurd (own_type hown e hb) (by decide)
  have hb1 := hb.kp k1 hrb
  have hrb' : nv'.ownBlock ≠ some rb := fun e => absurd (own_type hown' e hb1) (by decide)
  have k2 : Kp (fun q => q = rb ∨ nv.ownBlock = some q) w (w1.setCell ⟨rb, 6, none⟩ nv') := (k1.mono (fun q hq => .inr hq)).setCell (p := ⟨rb, 6, none⟩) (.inl (.inl rfl)) nv'
  have k3 : Kp (fun q => q = rb) w1 (w1.setCell ⟨rb, 6, none⟩ nv') := (Kp.refl (fun q => q = rb) w1).setCell (p := ⟨rb, 6, none⟩) (.inl rfl) nv'
  have hS : ∀ q, (q = rb ∨ nv.ownBlock = some q) → ∀ t cs, Blk w q t cs → t ≠ 9 ∧ t ≠ 3 := by
    rintro q (rfl | hq) t cs ht
    · rw [← blk_type hb ht]; exact ⟨by decide, by decide⟩
    · rw [own_type hown hq ht]; exact ⟨by decide, by decide⟩
  have hB2 : Blk (w1.setCell ⟨rb, 6, none⟩ nv') rb 65 (rcells c k nv') := hb1.set_ 6 nv'
  refine ⟨hb1.cell 6, hb1.frozen 6, ⟨⟨nv', hB2, xs ++ [x], by rw [List.map_append, hxs]; rfl, ?_, ?_⟩, h.ws.kp (rb := rb) k2 (fun q hq => hq.elim (fun e => Nat.le_of_eq e.symm) (fun e => own_base hown e)) h.low, h.low, h.lt, h.ends, h.few, h.txt, by rw [List.length_append]; show ns.length + 1 ≤ 4000; omega, NOk.snoc h.nok hok⟩, ⟨?_, ?_, ?_⟩⟩
  · rw [List.length_append, flatN_append]
    have e : flatN [x] = cellN x.1 x.2.1 x.2.2 := by simp [flatN]
    rw [e]
    exact own_kp hown' k3 (fun q hq e2 => hrb' (by rw [hq, e2]))
  · intro y hy
    rcases List.mem_append.1 hy with hy | hy
    · exact (hnd y hy).kp k2 hS
    · rw [List.mem_singleton.1 hy]; exact hx.kp k2 hS
  · rw [nvOf_rd hb]; exact k2
  · intro q hq
    rw [nvOf_rd hB2] at hq
    rw [nvOf_rd hb]
    exact (hat q hq).imp id (fun h2 => Nat.le_trans hW.size h2)
  · rintro q ⟨b, i, u, n1, n2, n3, n4⟩
    rw [nvOf_rd hB2] at n1
    rw [nvV_rd hB2, own_nv hown'] at n2
    have hb' : b ≠ rb := fun e => hrb' (by rw [n1, e])
    have ho := own_kp hown' k3 (fun q hq e2 => hrb' (by rw [hq, e2]))
    have hl : i < (flatN xs ++ cellN x.1 x.2.1 x.2.2).length := by rw [hown'.1]; exact n2
    have n5 := own_cells ho n1 i hl
    rw [n3] at n5
    injection n5 with n5
    have hxl : xs.length = ns.length := by rw [← hxs, List.length_map]
    rcases Nat.lt_or_ge i (flatN xs).length with hi | hi
    · rw [List.getElem_append_left hi] at n5
      obtain ⟨y, hy, hu⟩ := flatN_mem xs u (by rw [n5]; exact List.getElem_mem hi)
      obtain ⟨b0, hb0⟩ : ∃ b0, nv.ownBlock = some b0 := by
        rcases hown.2 with ⟨hv2, h0⟩ | ⟨g', cap, cur, hv2, _⟩
        · rw [flatN_length, hxl, h0] at hi; omega
        · exact ⟨g', by rw [hv2]; rfl⟩
      refine .inl ⟨b0, i, u, by rw [nvOf_rd hb]; exact hb0, ?_, ?_, n4⟩
      · rw [nvV_rd hb, own_nv hown, ← hxl, ← flatN_length]; exact hi
      · rw [n5]; exact own_cells hown hb0 i hi
    · rw [List.getElem_append_right hi] at n5
      exact .inr (.inr (cellN_own (by rw [n5]; exact List.getElem_mem _) n4))
set_option maxHeartbeats 2000000 in
set_option maxRecDepth 100000 in
theorem node_c (h : Rd w rb c L k ns) (hk : 1 ≤ k) {x : Tr.Nd × Value × Value} (hx : NdOwn w rb x) (hok : x.1.kind = 18 → ∃ m : Int, x.1.l = [m] ∧ 0 ≤ m ∧ m < ns.length) : Calls Tryz.prog 121 #[rv rb, ndV x] w (EPX (NdX x) (fun z => .int .i64 z) w rb c L (Tr.node L x.1 k ns)) := by
  have HR := hid_ h
  have HX := hid_ hx
  have HOk := hid_ hok
  have HE := hid_ (show Tr.node L x.1 k ns = if ns.length = 4000 then .error ((Tr.now L (k - 1)).pos, 5) else .ok ((ns.length : Int), k, ns ++ [x.1]) from rfl)
  obtain ⟨nv, hb, hns⟩ := h.blk
  have hlt := h.lt
  have hmany := h.many
  clear h hx hok
  generalize Tr.node L x.1 k ns = A at *
  obtain ⟨xs, hxs, hown, hnd⟩ := hns
  obtain ⟨B, d, rfl⟩ := own_form hown
  have HOwn := hid_ hown
  have HNd := hid_ (And.intro hxs hnd)
  have HBk := hid_ hb
  have hbo : ∀ o, Blk (w.alloc o) rb 65 (rcells c k (.slice B ns.length d)) := fun o => hb.alloc o
  have c0 : ∀ o, (w.alloc o).cell? ⟨rb, 0, none⟩ = some c.lv := fun o => (hbo o).cell 0
  have c1 : ∀ o, (w.alloc o).cell? ⟨rb, 1, none⟩ = some (.int .i64 k) := fun o => (hbo o).cell 1
  have c6 : ∀ o, (w.alloc o).cell? ⟨rb, 6, none⟩ = some (.slice B ns.length d) := fun o => (hbo o).cell 6
  have f6 : ∀ o, (w.alloc o).frozen? ⟨rb, 6, none⟩ = false := fun o => (hbo o).frozen 6
  clear hbo
  clear hb hown hxs hnd
  unfold rv ndV
  by_cases hm : ns.length = 4000
  · have HA := hid_ (HE.out.trans (if_pos hm))
    obtain ⟨b, off, cc, ec, x0, x1, x2, x3⟩ := HR.out.word (j := k - 1) (by omega)
    rw [ec] at c0
    have y3 : ∀ o, (w.alloc o).cell? ⟨b, off + (k - 1) * 4 + 3, none⟩ = _ := fun o => below_cell ((Below.refl w.heap.size w).alloc (Nat.le_refl _) o) x3
    clear ec x0 x1 x2 x3
    have k1 : (0 : Int) ≤ (k : Int) - 1 := by omega
    have k2 : (k : Int) - 1 < (L.length : Int) := by omega
    have k3 : ((k : Int) - 1).toNat = k - 1 := by omega
    have q0 : (((ns.length : Nat) : Int) == 4000) = true := by rw [hm]; rfl
    have w5 : IntKind.i64.wrap ((k : Int) - 1) = (k : Int) - 1 := IntWalk.i64_in _ (by have := HR.out.few; omega)
    clear hm
    go_enter Tryz.func121, Tryz.ntmps121
    go_wp2_with fail
    have HPan := hid_ (fun (w' : World) (hB : Below w.heap.size w w') => (show EPX (NdX x) (fun z => .int .i64 z) w rb c L A (.panicked (thrown ((Tr.now L (k - 1)).pos, 5))) w' from by rw [HA.out]; exact ⟨rfl, hB.mono (Nat.le_of_lt HR.out.rlt)⟩))
    have c00 := c0 (Obj.cells #[.int .i64 x.1.kind, .int .i64 x.1.num, .string (st x.1.mod), .string (st x.1.name), x.2.1, x.2.2] 57)
    have c10 := c1 (Obj.cells #[.int .i64 x.1.kind, .int .i64 x.1.num, .string (st x.1.mod), .string (st x.1.name), x.2.1, x.2.2] 57)
    have y30 := y3 (Obj.cells #[.int .i64 x.1.kind, .int .i64 x.1.num, .string (st x.1.mod), .string (st x.1.name), x.2.1, x.2.2] 57)
    have HB0 := hid_ ((Below.refl w.heap.size w).alloc (Nat.le_refl _) (Obj.cells #[.int .i64 x.1.kind, .int .i64 x.1.num, .string (st x.1.mod), .string (st x.1.name), x.2.1, x.2.2] 57))
    clear c0 c1 c6 f6 y3
    generalize w.alloc (Obj.cells #[.int .i64 x.1.kind, .int .i64 x.1.num, .string (st x.1.mod), .string (st x.1.name), x.2.1, x.2.2] 57) = W0 at c00 c10 y30 HB0 ⊢
    have hk1 : (1 : Int) ≤ (k : Int) := by omega
    have hk2 : (k : Int) - 1 < (L.length : Int) := k2
    go_still_tail 14, (by kernel_rfl)
    change wpList _ _ _ _ _ W0.drew
    have HB1 := hid_ HB0.out.drew
    generalize W0.drew = W1 at HB1 ⊢
    go_wp2_with fail
    exact ⟨rfl, HPan.out _ HB1.out⟩
  · have HA := hid_ (HE.out.trans (if_neg hm))
    have q0 : (((ns.length : Nat) : Int) == 4000) = false := by rw [beq_eq_false_iff_ne]; omega
    have hn4 : ns.length < 4000 := by omega
    obtain ⟨i0, hi0, hz0, hz1, hz2⟩ := info_parts Tryz.infoN
    clear hm
    go_enter Tryz.func121, Tryz.ntmps121
    go_wp2_with fail
    have HB0 := hid_ ((Below.refl w.heap.size w).alloc (Nat.le_refl _) (Obj.cells #[.int .i64 x.1.kind, .int .i64 x.1.num, .string (st x.1.mod), .string (st x.1.name), x.2.1, x.2.2] 57))
    have hbn := Blk.new w 57 #[.int .i64 x.1.kind, .int .i64 x.1.num, .string (st x.1.mod), .string (st x.1.name), x.2.1, x.2.2]
    have c60 := c6 (Obj.cells #[.int .i64 x.1.kind, .int .i64 x.1.num, .string (st x.1.mod), .string (st x.1.name), x.2.1, x.2.2] 57)
    have f60 := f6 (Obj.cells #[.int .i64 x.1.kind, .int .i64 x.1.num, .string (st x.1.mod), .string (st x.1.name), x.2.1, x.2.2] 57)
    generalize w.alloc (Obj.cells #[.int .i64 x.1.kind, .int .i64 x.1.num, .string (st x.1.mod), .string (st x.1.name), x.2.1, x.2.2] 57) = W0 at HB0 hbn c60 f60 ⊢
    have c60' : ∀ o, (W0.alloc o).cell? ⟨rb, 6, none⟩ = _ := fun o => below_cell ((Below.refl W0.heap.size W0).alloc (Nat.le_refl _) o) c60
    have n0 : W0.cell? ⟨w.heap.size, 0, none⟩ = some (.int .i64 x.1.kind) := hbn.cell 0
    have n1 : W0.cell? ⟨w.heap.size, 1, none⟩ = some (.int .i64 x.1.num) := hbn.cell 1
    have n2 : W0.cell? ⟨w.heap.size, 2, none⟩ = some (.string (st x.1.mod)) := hbn.cell 2
    have n3 : W0.cell? ⟨w.heap.size, 3, none⟩ = some (.string (st x.1.name)) := hbn.cell 3
    have n4 : W0.cell? ⟨w.heap.size, 4, none⟩ = some x.2.1 := hbn.cell 4
    have n5 : W0.cell? ⟨w.heap.size, 5, none⟩ = some x.2.2 := hbn.cell 5
    have HOW := hid_ (fun (W : World) (h : Below w.heap.size w W) => own_kp HOwn.out (Kp.of_below h fun _ => False) (fun _ _ e => e))
    have HM := hid_ (show ns.length + 1 ≤ maxLen by unfold maxLen; omega)
    have hfl : (ns.length + 1) * 96 ≤ 140737488355328 := by omega
    have HL := hid_ (Nat.le_of_lt HR.out.rlt)
    have hone1 : x.2.1.oneCell' = true := by
      obtain ⟨A1, d1, e1⟩ := own_form HX.out.1
      rw [e1]; rfl
    have hone2 : x.2.2.oneCell' = true := by
      obtain ⟨A1, d1, e1⟩ := own_form HX.out.2
      rw [e1]; rfl
    have HOne := hid_ (show ∀ u ∈ cellN x.1 x.2.1 x.2.2, u.oneCell' = true from fun u hu => by
      simp only [cellN, List.mem_cons, List.not_mem_nil, or_false] at hu
      rcases hu with rfl | rfl | rfl | rfl | rfl | rfl
      · rfl
      · rfl
      · rfl
      · rfl
      · exact hone1
      · exact hone2)
    clear c0 c1 c6 f6 hbn hone1 hone2
    go_region_law (first
      | (refine step_append_any (by rfl) (.tmp 31) (.tmp 33) 29 (by rfl) rb 57 i0 _ 6 96 Tryz.underlying29 hi0 hz0 hz1 hz2 rfl (by omega) (.slice B ns.length d) ns.length _ (by rfl) (HOW.out _ (by first | exact HB0.out.drew.alloc HB0.out.size _ | exact (HB0.out.alloc HB0.out.size _).drew | exact HB0.out.alloc HB0.out.size _)) (some ⟨W0.heap.size, 0, none⟩) 1 1 (cellN x.1 x.2.1 x.2.2) (by rfl) rfl (fun h => by cases h) (by intro ad had j u hu; injection had with had; subst had; exact World.news_of_block (heap_alloc_new _ _) j u hu) HOne.out HM.out (by omega) (Nat.le_trans HL.out (by first | exact (HB0.out.drew.alloc HB0.out.size _).size | exact (HB0.out.alloc HB0.out.size _).size)) ?_; intro A1 c1 w1 hown hgrow hat; obtain ⟨e6, g6, hRn, hFn⟩ := HR.out.node HBk.out HNd.out.1 HOwn.out HNd.out.2 HX.out HOk.out hn4 (by first | exact HB0.out.drew.alloc HB0.out.size _ | exact HB0.out.alloc HB0.out.size _) hgrow hown hat; have HRn := hid_ hRn; have HFn := hid_ hFn; clear hRn hFn hown hgrow hat)
      | fail)
    all_goals
      go_wp2_with fail
      go_ret
      rw [HA.out]
      exact ⟨by simp, HRn.out, HFn.out⟩
end
end Go.Proofs.YtmgjmagniefhoaaGreatDoor
