/- The document's Same. Conditions: those that each theorem names. -/
import Derived.Test.YtmgjmagniefhoaaGreatDoorAc05
import Derived.Test.YtmgjmagniefhoaaGreatDoorAc02
namespace Go.Proofs.YtmgjmagniefhoaaGreatDoor
open Go.RowKit Go.Maps
theorem take_dec {α : Type} [DecidableEq α] {a b : List α} {i : Nat} (h1 : i < a.length) (h2 : i < b.length) : decide (a.take (i + 1) = b.take (i + 1)) = (decide (a.take i = b.take i) && decide (a[i] = b[i])) := by
  rw [List.take_succ_eq_append_getElem h1, List.take_succ_eq_append_getElem h2]
  by_cases h : a.take i = b.take i
  · rw [h]
    by_cases h' : a[i] = b[i]
    · rw [h', decide_eq_true rfl, decide_eq_true rfl, decide_eq_true rfl]
      rfl
    · have : ¬ (b.take i ++ [a[i]] = b.take i ++ [b[i]]) := fun e => h' (by injection List.append_inj_right' e rfl)
      rw [decide_eq_false h', decide_eq_false this, decide_eq_true rfl]
      rfl
  · have : ¬ (a.take i ++ [a[i]] = b.take i ++ [b[i]]) := fun e => h (List.append_inj_left' e rfl)
    rw [decide_eq_false h, decide_eq_false this]
    rfl
section
variable {P : Program} {ops : Array Oper} {Q : Exit → Act → World → Prop} {md : Region.Mode} {T : World → Prop} {St : List Nat}
/-- One of two that may come up. -/
theorem wpAnyL_step2 {i j : Nat} {oi oj : Oper} {fuel : Nat} {listed : Array Bool} {a : Act} {w : World} (hr : Region.ready md ops listed = [i, j]) (hoi : ops[i]? = some oi) (hoj : ops[j]? = some oj)
    (hi : ∀ K' : Act → World → Prop, Shut (∀ a w, TillL T St (listed.setIfInBounds i true) w → wpAnyL P md ops Q T St fuel (listed.setIfInBounds i true) a w → K' a w) → if Region.wanted oi (yielded ops a.tmps) = true then Oper.wp P oi a w K' Q else K' (a.put oi.dst undef) w)
    (hj : ∀ K' : Act → World → Prop, Shut (∀ a w, TillL T St (listed.setIfInBounds j true) w → wpAnyL P md ops Q T St fuel (listed.setIfInBounds j true) a w → K' a w) → if Region.wanted oj (yielded ops a.tmps) = true then Oper.wp P oj a w K' Q else K' (a.put oj.dst undef) w) : wpAnyL P md ops Q T St (fuel + 1) listed a w :=
  ⟨fun h0 => (by rw [h0] at hr; cases hr), fun k hk => by
    rw [hr] at hk
    rcases List.mem_cons.1 hk with rfl | hk
    · exact wpOp_step hoi fun K' hK => hi K' fun a w hS hW => hK a w ⟨hS, hW⟩
    · obtain rfl : k = j := by simpa using hk
      exact wpOp_step hoj fun K' hK => hj K' fun a w hS hW => hK a w ⟨hS, hW⟩⟩
end
section
variable {w w' : World}
set_option maxHeartbeats 16000000 in
set_option maxRecDepth 100000 in
theorem rsame_c {va vb : Value} {m m' : Tr.Md} (ha : ModAt w va m) (hb : ModAt w vb m') : Calls Tryz.prog 20 #[va, vb] w fun e w' => e = .returned (.bool (decide (m = m'))) ∧ Below w.heap.size w w' := by
  have hS : MdS m := by
    obtain ⟨_, _, _, _, h, _⟩ := ha
    exact h
  obtain ⟨ia, ta, fa, na, _, rfl, r1, r2, ⟨fx, f1, f2, f3⟩, nx, n1, n2, n3⟩ := ha
  obtain ⟨ib, tb, fb, nb, _, rfl, r1', r2', ⟨fx', f1', f2', f3'⟩, nx', n1', n2', n3'⟩ := hb
  obtain ⟨Ai, c1, rfl⟩ := r1.form
  obtain ⟨At, c2, rfl⟩ := r2.form
  obtain ⟨Af, c3, rfl⟩ := f2.form
  obtain ⟨An, c4, rfl⟩ := n2.form
  obtain ⟨Bi, d1, rfl⟩ := r1'.form
  obtain ⟨Bt, d2, rfl⟩ := r2'.form
  obtain ⟨Bf, d3, rfl⟩ := f2'.form
  obtain ⟨Bn, d4, rfl⟩ := n2'.form
  have hB1 := Blk.new w 31 #[.string (st m.name), .slice Ai m.imports.length c1, .slice At m.types.length c2, .slice Af m.fns.length c3, .slice An m.nodes.length c4]
  have hB2 := Blk.new (w.alloc (.cells #[.string (st m.name), .slice Ai m.imports.length c1, .slice At m.types.length c2, .slice Af m.fns.length c3, .slice An m.nodes.length c4] 31)) 31 #[.string (st m'.name), .slice Bi m'.imports.length d1, .slice Bt m'.types.length d2, .slice Bf m'.fns.length d3, .slice Bn m'.nodes.length d4]
  have hB1' := hB1.alloc (.cells #[.string (st m'.name), .slice Bi m'.imports.length d1, .slice Bt m'.types.length d2, .slice Bf m'.fns.length d3, .slice Bn m'.nodes.length d4] 31)
  have hW := (below_alloc w (.cells #[.string (st m.name), .slice Ai m.imports.length c1, .slice At m.types.length c2, .slice Af m.fns.length c3, .slice An m.nodes.length c4] 31)).alloc (by simp) (.cells #[.string (st m'.name), .slice Bi m'.imports.length d1, .slice Bt m'.types.length d2, .slice Bf m'.fns.length d3, .slice Bn m'.nodes.length d4] 31)
  rw [alloc_sz] at hB2
  have HB1 := hid_ hB1'
  have HB2 := hid_ hB2
  have HW := hid_ hW
  have HS := hid_ hS
  have R1 := hid_ (r1.below hW)
  have R2 := hid_ (r2.below hW)
  have R3 := hid_ (f2.below hW)
  have R4 := hid_ (n2.below hW)
  have Q1 := hid_ (r1'.below hW)
  have Q2 := hid_ (r2'.below hW)
  have Q3 := hid_ (f2'.below hW)
  have Q4 := hid_ (n2'.below hW)
  have FE := hid_ f1
  have FE' := hid_ f1'
  have NE := hid_ n1
  have NE' := hid_ n1'
  have FO := hid_ (fun x hx => (⟨(f3 x hx).1.below hW, (f3 x hx).2.below hW⟩ : RowAt _ x.2.1 x.1.vars.length (flatV x.1.vars) ∧ RowAt _ x.2.2 x.1.params.length (flatV x.1.params)))
  have FO' := hid_ (fun x hx => (⟨(f3' x hx).1.below hW, (f3' x hx).2.below hW⟩ : RowAt _ x.2.1 x.1.vars.length (flatV x.1.vars) ∧ RowAt _ x.2.2 x.1.params.length (flatV x.1.params)))
  have NO := hid_ (fun x hx => (⟨(n3 x hx).1.below hW, (n3 x hx).2.below hW⟩ : RowAt _ x.2.1 x.1.keys.length (strs x.1.keys) ∧ RowAt _ x.2.2 x.1.l.length (ints x.1.l)))
  have NO' := hid_ (fun x hx => (⟨(n3' x hx).1.below hW, (n3' x hx).2.below hW⟩ : RowAt _ x.2.1 x.1.keys.length (strs x.1.keys) ∧ RowAt _ x.2.2 x.1.l.length (ints x.1.l)))
  have hl1 := hS.im
  have hl2 := hS.ty
  have hl3 := hS.fn
  have hl4 := hS.nd
  clear hB1 hB2 hB1' hW hS r1 r2 f2 n2 r1' r2' f2' n2' f1 f1' n1 n1' f3 f3' n3 n3'
  go_enter Tryz.func20, Tryz.ntmps20
  go_upto_region 1 with fail
  generalize (w.alloc (.cells #[.string (st m.name), .slice Ai m.imports.length c1, .slice At m.types.length c2, .slice Af m.fns.length c3, .slice An m.nodes.length c4] 31)).alloc (.cells #[.string (st m'.name), .slice Bi m'.imports.length d1, .slice Bt m'.types.length d2, .slice Bf m'.fns.length d3, .slice Bn m'.nodes.length d4] 31) = W0 at *
  have x0 : W0.cell? ⟨w.heap.size, 0, none⟩ = some (.string (st m.name)) := HB1.out.cell 0
  have y0 : W0.cell? ⟨w.heap.size + 1, 0, none⟩ = some (.string (st m'.name)) := HB2.out.cell 0
  have x1 : W0.cell? ⟨w.heap.size, 1, none⟩ = some (.slice Ai m.imports.length c1) := HB1.out.cell 1
  have y1 : W0.cell? ⟨w.heap.size + 1, 1, none⟩ = some (.slice Bi m'.imports.length d1) := HB2.out.cell 1
  have x2 : W0.cell? ⟨w.heap.size, 2, none⟩ = some (.slice At m.types.length c2) := HB1.out.cell 2
  have y2 : W0.cell? ⟨w.heap.size + 1, 2, none⟩ = some (.slice Bt m'.types.length d2) := HB2.out.cell 2
  have x3 : W0.cell? ⟨w.heap.size, 3, none⟩ = some (.slice Af m.fns.length c3) := HB1.out.cell 3
  have y3 : W0.cell? ⟨w.heap.size + 1, 3, none⟩ = some (.slice Bf m'.fns.length d3) := HB2.out.cell 3
  have x4 : W0.cell? ⟨w.heap.size, 4, none⟩ = some (.slice An m.nodes.length c4) := HB1.out.cell 4
  have y4 : W0.cell? ⟨w.heap.size + 1, 4, none⟩ = some (.slice Bn m'.nodes.length d4) := HB2.out.cell 4
  have HC := hid_ (fun (W' : World) (hb : Below W0.heap.size W0 W') => (⟨below_cell hb x0, below_cell hb y0, below_cell hb x1, below_cell hb y1, below_cell hb x2, below_cell hb y2, below_cell hb x3, below_cell hb y3, below_cell hb x4, below_cell hb y4⟩ : _ ∧ _ ∧ _ ∧ _ ∧ _ ∧ _ ∧ _ ∧ _ ∧ _ ∧ _))
  by_cases h0 : m.name = m'.name
  rotate_left
  · have q : ((st m.name).toList == (st m'.name).toList) = false := by rw [txt_is]; exact decide_eq_false h0
    have HE := hid_ (show decide (m = m') = false from decide_eq_false (fun h => h0 (by rw [h])))
    clear h0
    go_wp2_with fail
    go_ret
    rw [HE.out]
    exact ⟨rfl, HW.out⟩
  have q0 : ((st m.name).toList == (st m'.name).toList) = true := by rw [txt_is]; exact decide_eq_true h0
  have H0 := hid_ h0
  clear h0
  go_wp2_with fail
  refine (reqS_c R1.out Q1.out hl1).mono ?_
  rintro e w3 ⟨he, hb3⟩
  have RB := hid_ hb3
  obtain ⟨x0', y0', x1', y1', x2', y2', x3', y3', x4', y4'⟩ := HC.out _ hb3
  clear hb3
  by_cases hc : m.imports = m'.imports
  rotate_left
  · rw [decide_eq_false hc] at he
    subst he
    have HE := hid_ (show decide (m = m') = false from decide_eq_false (fun h => hc (by rw [h])))
    clear hc
    go_wp2_with fail
    go_ret
    rw [HE.out]
    exact ⟨rfl, HW.out.trans (RB.out.mono HW.out.size)⟩
  rw [decide_eq_true hc] at he
  subst he
  have H1 := hid_ hc
  clear hc
  by_cases hc : m.types.length = m'.types.length
  rotate_left
  · have q : ((m.types.length : Int) != (m'.types.length : Int)) = true := by
      rw [bne_iff_ne]
      intro h
      exact hc (by omega)
    have HE := hid_ (show decide (m = m') = false from decide_eq_false (fun h => hc (by rw [h])))
    clear hc
    go_wp2_with fail
    go_ret
    rw [HE.out]
    exact ⟨rfl, HW.out.trans (RB.out.mono HW.out.size)⟩
  have p2 : ((m.types.length : Int) != (m'.types.length : Int)) = false := by simp [hc]
  have L2 := hid_ hc
  clear hc
  by_cases hc : m.fns.length = m'.fns.length
  rotate_left
  · have q : ((m.fns.length : Int) != (m'.fns.length : Int)) = true := by
      rw [bne_iff_ne]
      intro h
      exact hc (by omega)
    have HE := hid_ (show decide (m = m') = false from decide_eq_false (fun h => hc (by rw [h])))
    clear hc
    go_wp2_with fail
    go_ret
    rw [HE.out]
    exact ⟨rfl, HW.out.trans (RB.out.mono HW.out.size)⟩
  have p3 : ((m.fns.length : Int) != (m'.fns.length : Int)) = false := by simp [hc]
  have L3 := hid_ hc
  clear hc
  by_cases hc : m.nodes.length = m'.nodes.length
  rotate_left
  · have q : ((m.nodes.length : Int) != (m'.nodes.length : Int)) = true := by
      rw [bne_iff_ne]
      intro h
      exact hc (by omega)
    have HE := hid_ (show decide (m = m') = false from decide_eq_false (fun h => hc (by rw [h])))
    clear hc
    go_wp2_with fail
    go_ret
    rw [HE.out]
    exact ⟨rfl, HW.out.trans (RB.out.mono HW.out.size)⟩
  have p4 : ((m.nodes.length : Int) != (m'.nodes.length : Int)) = false := by simp [hc]
  have L4 := hid_ hc
  clear hc
  clear x0 y0 x1 y1 x2 y2 x3 y3 x4 y4
  go_wp2_with fail
  clear x0' y0' x1' y1' x2' y2' x3' y3' x4' y4' p2 p3 p4
  go_loopg [5, 6] (m.types.length + 1) (fun g v5 v6 wr => ∃ i : Nat, v5 = .bool (decide (m.types.take i = m'.types.take i)) ∧ v6 = .int .i64 i ∧ i ≤ m.types.length ∧ Below W0.heap.size W0 wr ∧ m.types.length - i + 1 ≤ g)
  case atStart => exact ⟨0, rfl, rfl, by omega, RB.out, by omega⟩
  case round =>
    clear RB
    obtain ⟨i, rfl, rfl, hi, hb, hg⟩ := hrel
    have RB := hid_ hb
    clear hb
    by_cases hlt : i < m.types.length
    · have b0 : (0 : Int) ≤ (i : Int) := by omega
      have b1 : (i : Int) < (m.types.length : Int) := by omega
      have hlt' : i < m'.types.length := by have := L2.out; omega
      have b2 : (i : Int) < (m'.types.length : Int) := by omega
      have HTD := hid_ (take_dec hlt hlt')
      generalize decide (m.types.take i = m'.types.take i) = sm at *
      cases sm with
      | false =>
        obtain ⟨x0, y0, x1, y1, x2, y2, x3, y3, x4, y4⟩ := HC.out _ RB.out
        go_upto_region 7 with fail
        clear x0 y0 x1 y1 x2 y2 x3 y3 x4 y4
        have HP := hid_ RB.out.drew
        refine wp_regionL (fun W' : World => Below W0.heap.size W0 W') [] (by kernel_rfl) ?_
        refine wpAnyL_take [] (i := 0) (v := ?va0) rfl (by kernel_rfl) (by kernel_rfl) (by kernel_rfl) (by kernel_rfl) (by kernel_rfl) (by kernel_rfl) (fun _ _ _ h => h) HP.out (Or.inl ⟨by rfl, ?hya0⟩) ?resta0
        case hya0 => (intro w hw; skip; go_simp; with_reducible rfl)
        try simp only [Act.put, List.getElem_toArray, List.getElem_cons_zero, List.setIfInBounds_toArray, List.set_cons_zero, List.set_cons_succ]
        refine wpAnyL_take [] (i := 1) (v := ?va1) rfl (by kernel_rfl) (by kernel_rfl) (by kernel_rfl) (by kernel_rfl) (by kernel_rfl) (by kernel_rfl) (fun _ _ _ h => h) HP.out (Or.inl ⟨by rfl, ?hya1⟩) ?resta1
        case hya1 => (intro w hw; skip; go_simp; with_reducible rfl)
        try simp only [Act.put, List.getElem_toArray, List.getElem_cons_succ, List.getElem_cons_zero, List.setIfInBounds_toArray, List.set_cons_zero, List.set_cons_succ]
        refine wpAnyL_take [] (i := 2) (v := undef) rfl (by kernel_rfl) (by kernel_rfl) (by kernel_rfl) (by kernel_rfl) (by kernel_rfl) (by kernel_rfl) (fun _ _ _ h => h) HP.out (Or.inr ⟨by rfl, rfl⟩) ?resta2
        try simp only [Act.put, List.getElem_toArray, List.getElem_cons_succ, List.getElem_cons_zero, List.setIfInBounds_toArray, List.set_cons_zero, List.set_cons_succ]
        refine wpAnyL_take [] (i := 3) (v := undef) rfl (by kernel_rfl) (by kernel_rfl) (by kernel_rfl) (by kernel_rfl) (by kernel_rfl) (by kernel_rfl) (fun _ _ _ h => h) HP.out (Or.inr ⟨by rfl, rfl⟩) ?resta3
        try simp only [Act.put, List.getElem_toArray, List.getElem_cons_succ, List.getElem_cons_zero, List.setIfInBounds_toArray, List.set_cons_zero, List.set_cons_succ]
        refine wpAnyL_take [] (i := 4) (v := undef) rfl (by kernel_rfl) (by kernel_rfl) (by kernel_rfl) (by kernel_rfl) (by kernel_rfl) (by kernel_rfl) (fun _ _ _ h => h) HP.out (Or.inr ⟨by rfl, rfl⟩) ?resta4
        try simp only [Act.put, List.getElem_toArray, List.getElem_cons_succ, List.getElem_cons_zero, List.setIfInBounds_toArray, List.set_cons_zero, List.set_cons_succ]
        refine wpAnyL_take [] (i := 5) (v := undef) rfl (by kernel_rfl) (by kernel_rfl) (by kernel_rfl) (by kernel_rfl) (by kernel_rfl) (by kernel_rfl) (fun _ _ _ h => h) HP.out (Or.inr ⟨by rfl, rfl⟩) ?resta5
        try simp only [Act.put, List.getElem_toArray, List.getElem_cons_succ, List.getElem_cons_zero, List.setIfInBounds_toArray, List.set_cons_zero, List.set_cons_succ]
        refine wpAnyL_take [] (i := 6) (v := undef) rfl (by kernel_rfl) (by kernel_rfl) (by kernel_rfl) (by kernel_rfl) (by kernel_rfl) (by kernel_rfl) (fun _ _ _ h => h) HP.out (Or.inr ⟨by rfl, rfl⟩) ?resta6
        try simp only [Act.put, List.getElem_toArray, List.getElem_cons_succ, List.getElem_cons_zero, List.setIfInBounds_toArray, List.set_cons_zero, List.set_cons_succ]
        refine wpAnyL_take [] (i := 7) (v := undef) rfl (by kernel_rfl) (by kernel_rfl) (by kernel_rfl) (by kernel_rfl) (by kernel_rfl) (by kernel_rfl) (fun _ _ _ h => h) HP.out (Or.inr ⟨by rfl, rfl⟩) ?resta7
        try simp only [Act.put, List.getElem_toArray, List.getElem_cons_succ, List.getElem_cons_zero, List.setIfInBounds_toArray, List.set_cons_zero, List.set_cons_succ]
        refine wpAnyL_take [] (i := 8) (v := undef) rfl (by kernel_rfl) (by kernel_rfl) (by kernel_rfl) (by kernel_rfl) (by kernel_rfl) (by kernel_rfl) (fun _ _ _ h => h) HP.out (Or.inr ⟨by rfl, rfl⟩) ?resta8
        try simp only [Act.put, List.getElem_toArray, List.getElem_cons_succ, List.getElem_cons_zero, List.setIfInBounds_toArray, List.set_cons_zero, List.set_cons_succ]
        refine wpAnyL_take [] (i := 9) (v := undef) rfl (by kernel_rfl) (by kernel_rfl) (by kernel_rfl) (by kernel_rfl) (by kernel_rfl) (by kernel_rfl) (fun _ _ _ h => h) HP.out (Or.inr ⟨by rfl, rfl⟩) ?resta9
        try simp only [Act.put, List.getElem_toArray, List.getElem_cons_succ, List.getElem_cons_zero, List.setIfInBounds_toArray, List.set_cons_zero, List.set_cons_succ]
        refine wpAnyL_take [] (i := 10) (v := undef) rfl (by kernel_rfl) (by kernel_rfl) (by kernel_rfl) (by kernel_rfl) (by kernel_rfl) (by kernel_rfl) (fun _ _ _ h => h) HP.out (Or.inr ⟨by rfl, rfl⟩) ?resta10
        try simp only [Act.put, List.getElem_toArray, List.getElem_cons_succ, List.getElem_cons_zero, List.setIfInBounds_toArray, List.set_cons_zero, List.set_cons_succ]
        refine wpAnyL_take [] (i := 11) (v := undef) rfl (by kernel_rfl) (by kernel_rfl) (by kernel_rfl) (by kernel_rfl) (by kernel_rfl) (by kernel_rfl) (fun _ _ _ h => h) HP.out (Or.inr ⟨by rfl, rfl⟩) ?resta11
        try simp only [Act.put, List.getElem_toArray, List.getElem_cons_succ, List.getElem_cons_zero, List.setIfInBounds_toArray, List.set_cons_zero, List.set_cons_succ]
        refine wpAnyL_take [] (i := 12) (v := undef) rfl (by kernel_rfl) (by kernel_rfl) (by kernel_rfl) (by kernel_rfl) (by kernel_rfl) (by kernel_rfl) (fun _ _ _ h => h) HP.out (Or.inr ⟨by rfl, rfl⟩) ?resta12
        try simp only [Act.put, List.getElem_toArray, List.getElem_cons_succ, List.getElem_cons_zero, List.setIfInBounds_toArray, List.set_cons_zero, List.set_cons_succ]
        refine wpAnyL_take [] (i := 13) (v := ?va13) rfl (by kernel_rfl) (by kernel_rfl) (by kernel_rfl) (by kernel_rfl) (by kernel_rfl) (by kernel_rfl) (fun _ _ _ h => h) HP.out (Or.inl ⟨by rfl, ?hya13⟩) ?resta13
        case hya13 => (intro w hw; skip; go_simp; with_reducible rfl)
        try simp only [Act.put, List.getElem_toArray, List.getElem_cons_succ, List.getElem_cons_zero, List.setIfInBounds_toArray, List.set_cons_zero, List.set_cons_succ]
        refine wpAnyL_take [] (i := 14) (v := ?va14) rfl (by kernel_rfl) (by kernel_rfl) (by kernel_rfl) (by kernel_rfl) (by kernel_rfl) (by kernel_rfl) (fun _ _ _ h => h) HP.out (Or.inl ⟨by rfl, ?hya14⟩) ?resta14
        case hya14 => (intro w hw; skip; go_simp; with_reducible rfl)
        try simp only [Act.put, List.getElem_toArray, List.getElem_cons_succ, List.getElem_cons_zero, List.setIfInBounds_toArray, List.set_cons_zero, List.set_cons_succ]
        refine wpAnyL_done (by kernel_rfl) ?_ _
        go_wp2_with fail
        go_roundg (gk - 1)
        case rel => exact ⟨i + 1, by rw [HTD.out]; rfl, by go_num, by omega, by first | exact RB.out | exact RB.out.drew, by omega⟩
        case measure => omega
      | true =>
        obtain ⟨g1, o1, e1, hx1, hc1⟩ := R2.out.get (by omega)
        obtain ⟨g2, o2, e2, hx2, hc2⟩ := Q2.out.get (by omega)
        injection hx1 with hx1 hz1 hy1
        injection hx2 with hx2 hz2 hy2
        clear hz1 hz2
        subst hx1 hx2 hy1 hy2
        have hp1 := hc1 (i * 2) _ (flatV_at _ i hlt 0 (by omega))
        have hq1 := hc1 (i * 2 + 1) _ (flatV_at _ i hlt 1 (by omega))
        have hp2 := hc2 (i * 2) _ (flatV_at _ i hlt' 0 (by omega))
        have hq2 := hc2 (i * 2 + 1) _ (flatV_at _ i hlt' 1 (by omega))
        rw [← Nat.add_assoc] at hq1 hq2
        have HEl := hid_ (fun (W' : World) (hb : Below W0.heap.size W0 W') => (⟨below_cell hb hp1, below_cell hb hq1, below_cell hb hp2, below_cell hb hq2⟩ : _ ∧ _ ∧ _ ∧ _))
        clear hc1 hc2 hp1 hq1 hp2 hq2
        generalize m.types[i] = ea at *
        generalize m'.types[i] = eb at *
        obtain ⟨x0, y0, x1, y1, x2, y2, x3, y3, x4, y4⟩ := HC.out _ RB.out
        go_upto_region 7 with fail
        clear x0 y0 x1 y1 x2 y2 x3 y3 x4 y4
        have HP := hid_ RB.out.drew
        by_cases hn : ea.name = eb.name
        · have q0 : ((st ea.name).toList == (st eb.name).toList) = true := by rw [txt_is]; exact decide_eq_true hn
          by_cases ht : ea.type = eb.type
          · have q1 : (ea.type == eb.type) = true := by simp [ht]
            have HE := hid_ (decide_eq_true (vr_ext hn ht))
            clear hn ht
            refine wp_regionL (fun W' : World => Below W0.heap.size W0 W') [] (by kernel_rfl) ?_
            refine wpAnyL_take [] (i := 0) (v := ?vp0) rfl (by kernel_rfl) (by kernel_rfl) (by kernel_rfl) (by kernel_rfl) (by kernel_rfl) (by kernel_rfl) (fun _ _ _ h => h) HP.out (Or.inl ⟨by rfl, ?hyp0⟩) ?restp0
            case hyp0 => (intro w hw; obtain ⟨hx0, hy0, hx1, hy1, hx2, hy2, hx3, hy3, hx4, hy4⟩ := HC.out _ hw; obtain ⟨ha1, ha2, ha3, ha4⟩ := HEl.out _ hw; go_simp; with_reducible rfl)
            try simp only [Act.put, List.getElem_toArray, List.getElem_cons_zero, List.setIfInBounds_toArray, List.set_cons_zero, List.set_cons_succ]
            refine wpAnyL_take [] (i := 1) (v := ?vp1) rfl (by kernel_rfl) (by kernel_rfl) (by kernel_rfl) (by kernel_rfl) (by kernel_rfl) (by kernel_rfl) (fun _ _ _ h => h) HP.out (Or.inl ⟨by rfl, ?hyp1⟩) ?restp1
            case hyp1 => (intro w hw; obtain ⟨hx0, hy0, hx1, hy1, hx2, hy2, hx3, hy3, hx4, hy4⟩ := HC.out _ hw; obtain ⟨ha1, ha2, ha3, ha4⟩ := HEl.out _ hw; go_simp; with_reducible rfl)
            try simp only [Act.put, List.getElem_toArray, List.getElem_cons_succ, List.getElem_cons_zero, List.setIfInBounds_toArray, List.set_cons_zero, List.set_cons_succ]
            refine wpAnyL_take [] (i := 2) (v := ?vp2) rfl (by kernel_rfl) (by kernel_rfl) (by kernel_rfl) (by kernel_rfl) (by kernel_rfl) (by kernel_rfl) (fun _ _ _ h => h) HP.out (Or.inl ⟨by rfl, ?hyp2⟩) ?restp2
            case hyp2 => (intro w hw; obtain ⟨hx0, hy0, hx1, hy1, hx2, hy2, hx3, hy3, hx4, hy4⟩ := HC.out _ hw; obtain ⟨ha1, ha2, ha3, ha4⟩ := HEl.out _ hw; go_simp; with_reducible rfl)
            try simp only [Act.put, List.getElem_toArray, List.getElem_cons_succ, List.getElem_cons_zero, List.setIfInBounds_toArray, List.set_cons_zero, List.set_cons_succ]
            refine wpAnyL_take [] (i := 3) (v := ?vp3) rfl (by kernel_rfl) (by kernel_rfl) (by kernel_rfl) (by kernel_rfl) (by kernel_rfl) (by kernel_rfl) (fun _ _ _ h => h) HP.out (Or.inl ⟨by rfl, ?hyp3⟩) ?restp3
            case hyp3 => (intro w hw; obtain ⟨hx0, hy0, hx1, hy1, hx2, hy2, hx3, hy3, hx4, hy4⟩ := HC.out _ hw; obtain ⟨ha1, ha2, ha3, ha4⟩ := HEl.out _ hw; go_simp; with_reducible rfl)
            try simp only [Act.put, List.getElem_toArray, List.getElem_cons_succ, List.getElem_cons_zero, List.setIfInBounds_toArray, List.set_cons_zero, List.set_cons_succ]
            refine wpAnyL_take [] (i := 4) (v := ?vp4) rfl (by kernel_rfl) (by kernel_rfl) (by kernel_rfl) (by kernel_rfl) (by kernel_rfl) (by kernel_rfl) (fun _ _ _ h => h) HP.out (Or.inl ⟨by rfl, ?hyp4⟩) ?restp4
            case hyp4 => (intro w hw; obtain ⟨hx0, hy0, hx1, hy1, hx2, hy2, hx3, hy3, hx4, hy4⟩ := HC.out _ hw; obtain ⟨ha1, ha2, ha3, ha4⟩ := HEl.out _ hw; go_simp; with_reducible rfl)
            try simp only [Act.put, List.getElem_toArray, List.getElem_cons_succ, List.getElem_cons_zero, List.setIfInBounds_toArray, List.set_cons_zero, List.set_cons_succ]
            refine wpAnyL_take [] (i := 5) (v := ?vp5) rfl (by kernel_rfl) (by kernel_rfl) (by kernel_rfl) (by kernel_rfl) (by kernel_rfl) (by kernel_rfl) (fun _ _ _ h => h) HP.out (Or.inl ⟨by rfl, ?hyp5⟩) ?restp5
            case hyp5 => (intro w hw; obtain ⟨hx0, hy0, hx1, hy1, hx2, hy2, hx3, hy3, hx4, hy4⟩ := HC.out _ hw; obtain ⟨ha1, ha2, ha3, ha4⟩ := HEl.out _ hw; go_simp; with_reducible rfl)
            try simp only [Act.put, List.getElem_toArray, List.getElem_cons_succ, List.getElem_cons_zero, List.setIfInBounds_toArray, List.set_cons_zero, List.set_cons_succ]
            refine wpAnyL_take [] (i := 6) (v := ?vp6) rfl (by kernel_rfl) (by kernel_rfl) (by kernel_rfl) (by kernel_rfl) (by kernel_rfl) (by kernel_rfl) (fun _ _ _ h => h) HP.out (Or.inl ⟨by rfl, ?hyp6⟩) ?restp6
            case hyp6 => (intro w hw; obtain ⟨hx0, hy0, hx1, hy1, hx2, hy2, hx3, hy3, hx4, hy4⟩ := HC.out _ hw; obtain ⟨ha1, ha2, ha3, ha4⟩ := HEl.out _ hw; go_simp; with_reducible rfl)
            try simp only [Act.put, List.getElem_toArray, List.getElem_cons_succ, List.getElem_cons_zero, List.setIfInBounds_toArray, List.set_cons_zero, List.set_cons_succ]
            refine wpAnyL_take [] (i := 7) (v := ?vp7) rfl (by kernel_rfl) (by kernel_rfl) (by kernel_rfl) (by kernel_rfl) (by kernel_rfl) (by kernel_rfl) (fun _ _ _ h => h) HP.out (Or.inl ⟨by rfl, ?hyp7⟩) ?restp7
            case hyp7 => (intro w hw; obtain ⟨hx0, hy0, hx1, hy1, hx2, hy2, hx3, hy3, hx4, hy4⟩ := HC.out _ hw; obtain ⟨ha1, ha2, ha3, ha4⟩ := HEl.out _ hw; go_simp; with_reducible rfl)
            try simp only [Act.put, List.getElem_toArray, List.getElem_cons_succ, List.getElem_cons_zero, List.setIfInBounds_toArray, List.set_cons_zero, List.set_cons_succ]
            refine wpAnyL_take [] (i := 8) (v := ?vp8) rfl (by kernel_rfl) (by kernel_rfl) (by kernel_rfl) (by kernel_rfl) (by kernel_rfl) (by kernel_rfl) (fun _ _ _ h => h) HP.out (Or.inl ⟨by rfl, ?hyp8⟩) ?restp8
            case hyp8 => (intro w hw; obtain ⟨hx0, hy0, hx1, hy1, hx2, hy2, hx3, hy3, hx4, hy4⟩ := HC.out _ hw; obtain ⟨ha1, ha2, ha3, ha4⟩ := HEl.out _ hw; go_simp; with_reducible rfl)
            try simp only [Act.put, List.getElem_toArray, List.getElem_cons_succ, List.getElem_cons_zero, List.setIfInBounds_toArray, List.set_cons_zero, List.set_cons_succ]
            refine wpAnyL_take [] (i := 9) (v := ?vp9) rfl (by kernel_rfl) (by kernel_rfl) (by kernel_rfl) (by kernel_rfl) (by kernel_rfl) (by kernel_rfl) (fun _ _ _ h => h) HP.out (Or.inl ⟨by rfl, ?hyp9⟩) ?restp9
            case hyp9 => (intro w hw; obtain ⟨hx0, hy0, hx1, hy1, hx2, hy2, hx3, hy3, hx4, hy4⟩ := HC.out _ hw; obtain ⟨ha1, ha2, ha3, ha4⟩ := HEl.out _ hw; go_simp; with_reducible rfl)
            try simp only [Act.put, List.getElem_toArray, List.getElem_cons_succ, List.getElem_cons_zero, List.setIfInBounds_toArray, List.set_cons_zero, List.set_cons_succ]
            refine wpAnyL_take [] (i := 10) (v := ?vp10) rfl (by kernel_rfl) (by kernel_rfl) (by kernel_rfl) (by kernel_rfl) (by kernel_rfl) (by kernel_rfl) (fun _ _ _ h => h) HP.out (Or.inl ⟨by rfl, ?hyp10⟩) ?restp10
            case hyp10 => (intro w hw; obtain ⟨hx0, hy0, hx1, hy1, hx2, hy2, hx3, hy3, hx4, hy4⟩ := HC.out _ hw; obtain ⟨ha1, ha2, ha3, ha4⟩ := HEl.out _ hw; go_simp; with_reducible rfl)
            try simp only [Act.put, List.getElem_toArray, List.getElem_cons_succ, List.getElem_cons_zero, List.setIfInBounds_toArray, List.set_cons_zero, List.set_cons_succ]
            refine wpAnyL_take [] (i := 11) (v := ?vp11) rfl (by kernel_rfl) (by kernel_rfl) (by kernel_rfl) (by kernel_rfl) (by kernel_rfl) (by kernel_rfl) (fun _ _ _ h => h) HP.out (Or.inl ⟨by rfl, ?hyp11⟩) ?restp11
            case hyp11 => (intro w hw; obtain ⟨hx0, hy0, hx1, hy1, hx2, hy2, hx3, hy3, hx4, hy4⟩ := HC.out _ hw; obtain ⟨ha1, ha2, ha3, ha4⟩ := HEl.out _ hw; go_simp; with_reducible rfl)
            try simp only [Act.put, List.getElem_toArray, List.getElem_cons_succ, List.getElem_cons_zero, List.setIfInBounds_toArray, List.set_cons_zero, List.set_cons_succ]
            refine wpAnyL_take [] (i := 12) (v := ?vp12) rfl (by kernel_rfl) (by kernel_rfl) (by kernel_rfl) (by kernel_rfl) (by kernel_rfl) (by kernel_rfl) (fun _ _ _ h => h) HP.out (Or.inl ⟨by rfl, ?hyp12⟩) ?restp12
            case hyp12 => (intro w hw; obtain ⟨hx0, hy0, hx1, hy1, hx2, hy2, hx3, hy3, hx4, hy4⟩ := HC.out _ hw; obtain ⟨ha1, ha2, ha3, ha4⟩ := HEl.out _ hw; go_simp; with_reducible rfl)
            try simp only [Act.put, List.getElem_toArray, List.getElem_cons_succ, List.getElem_cons_zero, List.setIfInBounds_toArray, List.set_cons_zero, List.set_cons_succ]
            refine wpAnyL_take [] (i := 13) (v := ?vp13) rfl (by kernel_rfl) (by kernel_rfl) (by kernel_rfl) (by kernel_rfl) (by kernel_rfl) (by kernel_rfl) (fun _ _ _ h => h) HP.out (Or.inl ⟨by rfl, ?hyp13⟩) ?restp13
            case hyp13 => (intro w hw; obtain ⟨hx0, hy0, hx1, hy1, hx2, hy2, hx3, hy3, hx4, hy4⟩ := HC.out _ hw; obtain ⟨ha1, ha2, ha3, ha4⟩ := HEl.out _ hw; go_simp; with_reducible rfl)
            try simp only [Act.put, List.getElem_toArray, List.getElem_cons_succ, List.getElem_cons_zero, List.setIfInBounds_toArray, List.set_cons_zero, List.set_cons_succ]
            refine wpAnyL_take [] (i := 14) (v := ?vp14) rfl (by kernel_rfl) (by kernel_rfl) (by kernel_rfl) (by kernel_rfl) (by kernel_rfl) (by kernel_rfl) (fun _ _ _ h => h) HP.out (Or.inl ⟨by rfl, ?hyp14⟩) ?restp14
            case hyp14 => (intro w hw; obtain ⟨hx0, hy0, hx1, hy1, hx2, hy2, hx3, hy3, hx4, hy4⟩ := HC.out _ hw; obtain ⟨ha1, ha2, ha3, ha4⟩ := HEl.out _ hw; go_simp; with_reducible rfl)
            try simp only [Act.put, List.getElem_toArray, List.getElem_cons_succ, List.getElem_cons_zero, List.setIfInBounds_toArray, List.set_cons_zero, List.set_cons_succ]
            refine wpAnyL_done (by kernel_rfl) ?_ _
            go_wp2_with fail
            go_roundg (gk - 1)
            case rel => exact ⟨i + 1, by rw [HTD.out, HE.out]; rfl, by go_num, by omega, by first | exact RB.out | exact RB.out.drew, by omega⟩
            case measure => omega
          · have q1 : (ea.type == eb.type) = false := by simp [ht]
            have HE := hid_ (decide_eq_false (fun h : ea = eb => ht (by rw [h])))
            clear hn ht
            refine wp_regionL (fun W' : World => Below W0.heap.size W0 W') [] (by kernel_rfl) ?_
            refine wpAnyL_take [] (i := 0) (v := ?vq0) rfl (by kernel_rfl) (by kernel_rfl) (by kernel_rfl) (by kernel_rfl) (by kernel_rfl) (by kernel_rfl) (fun _ _ _ h => h) HP.out (Or.inl ⟨by rfl, ?hyq0⟩) ?restq0
            case hyq0 => (intro w hw; obtain ⟨hx0, hy0, hx1, hy1, hx2, hy2, hx3, hy3, hx4, hy4⟩ := HC.out _ hw; obtain ⟨ha1, ha2, ha3, ha4⟩ := HEl.out _ hw; go_simp; with_reducible rfl)
            try simp only [Act.put, List.getElem_toArray, List.getElem_cons_zero, List.setIfInBounds_toArray, List.set_cons_zero, List.set_cons_succ]
            refine wpAnyL_take [] (i := 1) (v := ?vq1) rfl (by kernel_rfl) (by kernel_rfl) (by kernel_rfl) (by kernel_rfl) (by kernel_rfl) (by kernel_rfl) (fun _ _ _ h => h) HP.out (Or.inl ⟨by rfl, ?hyq1⟩) ?restq1
            case hyq1 => (intro w hw; obtain ⟨hx0, hy0, hx1, hy1, hx2, hy2, hx3, hy3, hx4, hy4⟩ := HC.out _ hw; obtain ⟨ha1, ha2, ha3, ha4⟩ := HEl.out _ hw; go_simp; with_reducible rfl)
            try simp only [Act.put, List.getElem_toArray, List.getElem_cons_succ, List.getElem_cons_zero, List.setIfInBounds_toArray, List.set_cons_zero, List.set_cons_succ]
            refine wpAnyL_take [] (i := 2) (v := ?vq2) rfl (by kernel_rfl) (by kernel_rfl) (by kernel_rfl) (by kernel_rfl) (by kernel_rfl) (by kernel_rfl) (fun _ _ _ h => h) HP.out (Or.inl ⟨by rfl, ?hyq2⟩) ?restq2
            case hyq2 => (intro w hw; obtain ⟨hx0, hy0, hx1, hy1, hx2, hy2, hx3, hy3, hx4, hy4⟩ := HC.out _ hw; obtain ⟨ha1, ha2, ha3, ha4⟩ := HEl.out _ hw; go_simp; with_reducible rfl)
            try simp only [Act.put, List.getElem_toArray, List.getElem_cons_succ, List.getElem_cons_zero, List.setIfInBounds_toArray, List.set_cons_zero, List.set_cons_succ]
            refine wpAnyL_take [] (i := 3) (v := ?vq3) rfl (by kernel_rfl) (by kernel_rfl) (by kernel_rfl) (by kernel_rfl) (by kernel_rfl) (by kernel_rfl) (fun _ _ _ h => h) HP.out (Or.inl ⟨by rfl, ?hyq3⟩) ?restq3
            case hyq3 => (intro w hw; obtain ⟨hx0, hy0, hx1, hy1, hx2, hy2, hx3, hy3, hx4, hy4⟩ := HC.out _ hw; obtain ⟨ha1, ha2, ha3, ha4⟩ := HEl.out _ hw; go_simp; with_reducible rfl)
            try simp only [Act.put, List.getElem_toArray, List.getElem_cons_succ, List.getElem_cons_zero, List.setIfInBounds_toArray, List.set_cons_zero, List.set_cons_succ]
            refine wpAnyL_take [] (i := 4) (v := ?vq4) rfl (by kernel_rfl) (by kernel_rfl) (by kernel_rfl) (by kernel_rfl) (by kernel_rfl) (by kernel_rfl) (fun _ _ _ h => h) HP.out (Or.inl ⟨by rfl, ?hyq4⟩) ?restq4
            case hyq4 => (intro w hw; obtain ⟨hx0, hy0, hx1, hy1, hx2, hy2, hx3, hy3, hx4, hy4⟩ := HC.out _ hw; obtain ⟨ha1, ha2, ha3, ha4⟩ := HEl.out _ hw; go_simp; with_reducible rfl)
            try simp only [Act.put, List.getElem_toArray, List.getElem_cons_succ, List.getElem_cons_zero, List.setIfInBounds_toArray, List.set_cons_zero, List.set_cons_succ]
            refine wpAnyL_take [] (i := 5) (v := ?vq5) rfl (by kernel_rfl) (by kernel_rfl) (by kernel_rfl) (by kernel_rfl) (by kernel_rfl) (by kernel_rfl) (fun _ _ _ h => h) HP.out (Or.inl ⟨by rfl, ?hyq5⟩) ?restq5
            case hyq5 => (intro w hw; obtain ⟨hx0, hy0, hx1, hy1, hx2, hy2, hx3, hy3, hx4, hy4⟩ := HC.out _ hw; obtain ⟨ha1, ha2, ha3, ha4⟩ := HEl.out _ hw; go_simp; with_reducible rfl)
            try simp only [Act.put, List.getElem_toArray, List.getElem_cons_succ, List.getElem_cons_zero, List.setIfInBounds_toArray, List.set_cons_zero, List.set_cons_succ]
            refine wpAnyL_take [] (i := 6) (v := ?vq6) rfl (by kernel_rfl) (by kernel_rfl) (by kernel_rfl) (by kernel_rfl) (by kernel_rfl) (by kernel_rfl) (fun _ _ _ h => h) HP.out (Or.inl ⟨by rfl, ?hyq6⟩) ?restq6
            case hyq6 => (intro w hw; obtain ⟨hx0, hy0, hx1, hy1, hx2, hy2, hx3, hy3, hx4, hy4⟩ := HC.out _ hw; obtain ⟨ha1, ha2, ha3, ha4⟩ := HEl.out _ hw; go_simp; with_reducible rfl)
            try simp only [Act.put, List.getElem_toArray, List.getElem_cons_succ, List.getElem_cons_zero, List.setIfInBounds_toArray, List.set_cons_zero, List.set_cons_succ]
            refine wpAnyL_take [] (i := 7) (v := ?vq7) rfl (by kernel_rfl) (by kernel_rfl) (by kernel_rfl) (by kernel_rfl) (by kernel_rfl) (by kernel_rfl) (fun _ _ _ h => h) HP.out (Or.inl ⟨by rfl, ?hyq7⟩) ?restq7
            case hyq7 => (intro w hw; obtain ⟨hx0, hy0, hx1, hy1, hx2, hy2, hx3, hy3, hx4, hy4⟩ := HC.out _ hw; obtain ⟨ha1, ha2, ha3, ha4⟩ := HEl.out _ hw; go_simp; with_reducible rfl)
            try simp only [Act.put, List.getElem_toArray, List.getElem_cons_succ, List.getElem_cons_zero, List.setIfInBounds_toArray, List.set_cons_zero, List.set_cons_succ]
            refine wpAnyL_take [] (i := 8) (v := ?vq8) rfl (by kernel_rfl) (by kernel_rfl) (by kernel_rfl) (by kernel_rfl) (by kernel_rfl) (by kernel_rfl) (fun _ _ _ h => h) HP.out (Or.inl ⟨by rfl, ?hyq8⟩) ?restq8
            case hyq8 => (intro w hw; obtain ⟨hx0, hy0, hx1, hy1, hx2, hy2, hx3, hy3, hx4, hy4⟩ := HC.out _ hw; obtain ⟨ha1, ha2, ha3, ha4⟩ := HEl.out _ hw; go_simp; with_reducible rfl)
            try simp only [Act.put, List.getElem_toArray, List.getElem_cons_succ, List.getElem_cons_zero, List.setIfInBounds_toArray, List.set_cons_zero, List.set_cons_succ]
            refine wpAnyL_take [] (i := 9) (v := ?vq9) rfl (by kernel_rfl) (by kernel_rfl) (by kernel_rfl) (by kernel_rfl) (by kernel_rfl) (by kernel_rfl) (fun _ _ _ h => h) HP.out (Or.inl ⟨by rfl, ?hyq9⟩) ?restq9
            case hyq9 => (intro w hw; obtain ⟨hx0, hy0, hx1, hy1, hx2, hy2, hx3, hy3, hx4, hy4⟩ := HC.out _ hw; obtain ⟨ha1, ha2, ha3, ha4⟩ := HEl.out _ hw; go_simp; with_reducible rfl)
            try simp only [Act.put, List.getElem_toArray, List.getElem_cons_succ, List.getElem_cons_zero, List.setIfInBounds_toArray, List.set_cons_zero, List.set_cons_succ]
            refine wpAnyL_take [] (i := 10) (v := ?vq10) rfl (by kernel_rfl) (by kernel_rfl) (by kernel_rfl) (by kernel_rfl) (by kernel_rfl) (by kernel_rfl) (fun _ _ _ h => h) HP.out (Or.inl ⟨by rfl, ?hyq10⟩) ?restq10
            case hyq10 => (intro w hw; obtain ⟨hx0, hy0, hx1, hy1, hx2, hy2, hx3, hy3, hx4, hy4⟩ := HC.out _ hw; obtain ⟨ha1, ha2, ha3, ha4⟩ := HEl.out _ hw; go_simp; with_reducible rfl)
            try simp only [Act.put, List.getElem_toArray, List.getElem_cons_succ, List.getElem_cons_zero, List.setIfInBounds_toArray, List.set_cons_zero, List.set_cons_succ]
            refine wpAnyL_take [] (i := 11) (v := ?vq11) rfl (by kernel_rfl) (by kernel_rfl) (by kernel_rfl) (by kernel_rfl) (by kernel_rfl) (by kernel_rfl) (fun _ _ _ h => h) HP.out (Or.inl ⟨by rfl, ?hyq11⟩) ?restq11
            case hyq11 => (intro w hw; obtain ⟨hx0, hy0, hx1, hy1, hx2, hy2, hx3, hy3, hx4, hy4⟩ := HC.out _ hw; obtain ⟨ha1, ha2, ha3, ha4⟩ := HEl.out _ hw; go_simp; with_reducible rfl)
            try simp only [Act.put, List.getElem_toArray, List.getElem_cons_succ, List.getElem_cons_zero, List.setIfInBounds_toArray, List.set_cons_zero, List.set_cons_succ]
            refine wpAnyL_take [] (i := 12) (v := ?vq12) rfl (by kernel_rfl) (by kernel_rfl) (by kernel_rfl) (by kernel_rfl) (by kernel_rfl) (by kernel_rfl) (fun _ _ _ h => h) HP.out (Or.inl ⟨by rfl, ?hyq12⟩) ?restq12
            case hyq12 => (intro w hw; obtain ⟨hx0, hy0, hx1, hy1, hx2, hy2, hx3, hy3, hx4, hy4⟩ := HC.out _ hw; obtain ⟨ha1, ha2, ha3, ha4⟩ := HEl.out _ hw; go_simp; with_reducible rfl)
            try simp only [Act.put, List.getElem_toArray, List.getElem_cons_succ, List.getElem_cons_zero, List.setIfInBounds_toArray, List.set_cons_zero, List.set_cons_succ]
            refine wpAnyL_take [] (i := 13) (v := ?vq13) rfl (by kernel_rfl) (by kernel_rfl) (by kernel_rfl) (by kernel_rfl) (by kernel_rfl) (by kernel_rfl) (fun _ _ _ h => h) HP.out (Or.inl ⟨by rfl, ?hyq13⟩) ?restq13
            case hyq13 => (intro w hw; obtain ⟨hx0, hy0, hx1, hy1, hx2, hy2, hx3, hy3, hx4, hy4⟩ := HC.out _ hw; obtain ⟨ha1, ha2, ha3, ha4⟩ := HEl.out _ hw; go_simp; with_reducible rfl)
            try simp only [Act.put, List.getElem_toArray, List.getElem_cons_succ, List.getElem_cons_zero, List.setIfInBounds_toArray, List.set_cons_zero, List.set_cons_succ]
            refine wpAnyL_take [] (i := 14) (v := ?vq14) rfl (by kernel_rfl) (by kernel_rfl) (by kernel_rfl) (by kernel_rfl) (by kernel_rfl) (by kernel_rfl) (fun _ _ _ h => h) HP.out (Or.inl ⟨by rfl, ?hyq14⟩) ?restq14
            case hyq14 => (intro w hw; obtain ⟨hx0, hy0, hx1, hy1, hx2, hy2, hx3, hy3, hx4, hy4⟩ := HC.out _ hw; obtain ⟨ha1, ha2, ha3, ha4⟩ := HEl.out _ hw; go_simp; with_reducible rfl)
            try simp only [Act.put, List.getElem_toArray, List.getElem_cons_succ, List.getElem_cons_zero, List.setIfInBounds_toArray, List.set_cons_zero, List.set_cons_succ]
            refine wpAnyL_done (by kernel_rfl) ?_ _
            go_wp2_with fail
            go_roundg (gk - 1)
            case rel => exact ⟨i + 1, by rw [HTD.out, HE.out]; rfl, by go_num, by omega, by first | exact RB.out | exact RB.out.drew, by omega⟩
            case measure => omega
        · have q0 : ((st ea.name).toList == (st eb.name).toList) = false := by rw [txt_is]; exact decide_eq_false hn
          have HE := hid_ (decide_eq_false (fun h : ea = eb => hn (by rw [h])))
          clear hn
          refine wp_regionL (fun W' : World => Below W0.heap.size W0 W') [] (by kernel_rfl) ?_
          refine wpAnyL_take [] (i := 0) (v := ?vr0) rfl (by kernel_rfl) (by kernel_rfl) (by kernel_rfl) (by kernel_rfl) (by kernel_rfl) (by kernel_rfl) (fun _ _ _ h => h) HP.out (Or.inl ⟨by rfl, ?hyr0⟩) ?restr0
          case hyr0 => (intro w hw; obtain ⟨hx0, hy0, hx1, hy1, hx2, hy2, hx3, hy3, hx4, hy4⟩ := HC.out _ hw; obtain ⟨ha1, ha2, ha3, ha4⟩ := HEl.out _ hw; go_simp; with_reducible rfl)
          try simp only [Act.put, List.getElem_toArray, List.getElem_cons_zero, List.setIfInBounds_toArray, List.set_cons_zero, List.set_cons_succ]
          refine wpAnyL_take [] (i := 1) (v := ?vr1) rfl (by kernel_rfl) (by kernel_rfl) (by kernel_rfl) (by kernel_rfl) (by kernel_rfl) (by kernel_rfl) (fun _ _ _ h => h) HP.out (Or.inl ⟨by rfl, ?hyr1⟩) ?restr1
          case hyr1 => (intro w hw; obtain ⟨hx0, hy0, hx1, hy1, hx2, hy2, hx3, hy3, hx4, hy4⟩ := HC.out _ hw; obtain ⟨ha1, ha2, ha3, ha4⟩ := HEl.out _ hw; go_simp; with_reducible rfl)
          try simp only [Act.put, List.getElem_toArray, List.getElem_cons_succ, List.getElem_cons_zero, List.setIfInBounds_toArray, List.set_cons_zero, List.set_cons_succ]
          refine wpAnyL_take [] (i := 2) (v := ?vr2) rfl (by kernel_rfl) (by kernel_rfl) (by kernel_rfl) (by kernel_rfl) (by kernel_rfl) (by kernel_rfl) (fun _ _ _ h => h) HP.out (Or.inl ⟨by rfl, ?hyr2⟩) ?restr2
          case hyr2 => (intro w hw; obtain ⟨hx0, hy0, hx1, hy1, hx2, hy2, hx3, hy3, hx4, hy4⟩ := HC.out _ hw; obtain ⟨ha1, ha2, ha3, ha4⟩ := HEl.out _ hw; go_simp; with_reducible rfl)
          try simp only [Act.put, List.getElem_toArray, List.getElem_cons_succ, List.getElem_cons_zero, List.setIfInBounds_toArray, List.set_cons_zero, List.set_cons_succ]
          refine wpAnyL_take [] (i := 3) (v := ?vr3) rfl (by kernel_rfl) (by kernel_rfl) (by kernel_rfl) (by kernel_rfl) (by kernel_rfl) (by kernel_rfl) (fun _ _ _ h => h) HP.out (Or.inl ⟨by rfl, ?hyr3⟩) ?restr3
          case hyr3 => (intro w hw; obtain ⟨hx0, hy0, hx1, hy1, hx2, hy2, hx3, hy3, hx4, hy4⟩ := HC.out _ hw; obtain ⟨ha1, ha2, ha3, ha4⟩ := HEl.out _ hw; go_simp; with_reducible rfl)
          try simp only [Act.put, List.getElem_toArray, List.getElem_cons_succ, List.getElem_cons_zero, List.setIfInBounds_toArray, List.set_cons_zero, List.set_cons_succ]
          refine wpAnyL_take [] (i := 4) (v := ?vr4) rfl (by kernel_rfl) (by kernel_rfl) (by kernel_rfl) (by kernel_rfl) (by kernel_rfl) (by kernel_rfl) (fun _ _ _ h => h) HP.out (Or.inl ⟨by rfl, ?hyr4⟩) ?restr4
          case hyr4 => (intro w hw; obtain ⟨hx0, hy0, hx1, hy1, hx2, hy2, hx3, hy3, hx4, hy4⟩ := HC.out _ hw; obtain ⟨ha1, ha2, ha3, ha4⟩ := HEl.out _ hw; go_simp; with_reducible rfl)
          try simp only [Act.put, List.getElem_toArray, List.getElem_cons_succ, List.getElem_cons_zero, List.setIfInBounds_toArray, List.set_cons_zero, List.set_cons_succ]
          refine wpAnyL_take [] (i := 5) (v := ?vr5) rfl (by kernel_rfl) (by kernel_rfl) (by kernel_rfl) (by kernel_rfl) (by kernel_rfl) (by kernel_rfl) (fun _ _ _ h => h) HP.out (Or.inl ⟨by rfl, ?hyr5⟩) ?restr5
          case hyr5 => (intro w hw; obtain ⟨hx0, hy0, hx1, hy1, hx2, hy2, hx3, hy3, hx4, hy4⟩ := HC.out _ hw; obtain ⟨ha1, ha2, ha3, ha4⟩ := HEl.out _ hw; go_simp; with_reducible rfl)
          try simp only [Act.put, List.getElem_toArray, List.getElem_cons_succ, List.getElem_cons_zero, List.setIfInBounds_toArray, List.set_cons_zero, List.set_cons_succ]
          refine wpAnyL_take [] (i := 6) (v := ?vr6) rfl (by kernel_rfl) (by kernel_rfl) (by kernel_rfl) (by kernel_rfl) (by kernel_rfl) (by kernel_rfl) (fun _ _ _ h => h) HP.out (Or.inl ⟨by rfl, ?hyr6⟩) ?restr6
          case hyr6 => (intro w hw; obtain ⟨hx0, hy0, hx1, hy1, hx2, hy2, hx3, hy3, hx4, hy4⟩ := HC.out _ hw; obtain ⟨ha1, ha2, ha3, ha4⟩ := HEl.out _ hw; go_simp; with_reducible rfl)
          try simp only [Act.put, List.getElem_toArray, List.getElem_cons_succ, List.getElem_cons_zero, List.setIfInBounds_toArray, List.set_cons_zero, List.set_cons_succ]
          refine wpAnyL_take [] (i := 7) (v := ?vr7) rfl (by kernel_rfl) (by kernel_rfl) (by kernel_rfl) (by kernel_rfl) (by kernel_rfl) (by kernel_rfl) (fun _ _ _ h => h) HP.out (Or.inl ⟨by rfl, ?hyr7⟩) ?restr7
          case hyr7 => (intro w hw; obtain ⟨hx0, hy0, hx1, hy1, hx2, hy2, hx3, hy3, hx4, hy4⟩ := HC.out _ hw; obtain ⟨ha1, ha2, ha3, ha4⟩ := HEl.out _ hw; go_simp; with_reducible rfl)
          try simp only [Act.put, List.getElem_toArray, List.getElem_cons_succ, List.getElem_cons_zero, List.setIfInBounds_toArray, List.set_cons_zero, List.set_cons_succ]
          refine wpAnyL_take [] (i := 8) (v := ?vr8) rfl (by kernel_rfl) (by kernel_rfl) (by kernel_rfl) (by kernel_rfl) (by kernel_rfl) (by kernel_rfl) (fun _ _ _ h => h) HP.out (Or.inl ⟨by rfl, ?hyr8⟩) ?restr8
          case hyr8 => (intro w hw; obtain ⟨hx0, hy0, hx1, hy1, hx2, hy2, hx3, hy3, hx4, hy4⟩ := HC.out _ hw; obtain ⟨ha1, ha2, ha3, ha4⟩ := HEl.out _ hw; go_simp; with_reducible rfl)
          try simp only [Act.put, List.getElem_toArray, List.getElem_cons_succ, List.getElem_cons_zero, List.setIfInBounds_toArray, List.set_cons_zero, List.set_cons_succ]
          refine wpAnyL_take [] (i := 9) (v := ?vr9) rfl (by kernel_rfl) (by kernel_rfl) (by kernel_rfl) (by kernel_rfl) (by kernel_rfl) (by kernel_rfl) (fun _ _ _ h => h) HP.out (Or.inl ⟨by rfl, ?hyr9⟩) ?restr9
          case hyr9 => (intro w hw; obtain ⟨hx0, hy0, hx1, hy1, hx2, hy2, hx3, hy3, hx4, hy4⟩ := HC.out _ hw; obtain ⟨ha1, ha2, ha3, ha4⟩ := HEl.out _ hw; go_simp; with_reducible rfl)
          try simp only [Act.put, List.getElem_toArray, List.getElem_cons_succ, List.getElem_cons_zero, List.setIfInBounds_toArray, List.set_cons_zero, List.set_cons_succ]
          refine wpAnyL_take [] (i := 10) (v := ?vr10) rfl (by kernel_rfl) (by kernel_rfl) (by kernel_rfl) (by kernel_rfl) (by kernel_rfl) (by kernel_rfl) (fun _ _ _ h => h) HP.out (Or.inl ⟨by rfl, ?hyr10⟩) ?restr10
          case hyr10 => (intro w hw; obtain ⟨hx0, hy0, hx1, hy1, hx2, hy2, hx3, hy3, hx4, hy4⟩ := HC.out _ hw; obtain ⟨ha1, ha2, ha3, ha4⟩ := HEl.out _ hw; go_simp; with_reducible rfl)
          try simp only [Act.put, List.getElem_toArray, List.getElem_cons_succ, List.getElem_cons_zero, List.setIfInBounds_toArray, List.set_cons_zero, List.set_cons_succ]
          refine wpAnyL_take [] (i := 11) (v := ?vr11) rfl (by kernel_rfl) (by kernel_rfl) (by kernel_rfl) (by kernel_rfl) (by kernel_rfl) (by kernel_rfl) (fun _ _ _ h => h) HP.out (Or.inl ⟨by rfl, ?hyr11⟩) ?restr11
          case hyr11 => (intro w hw; obtain ⟨hx0, hy0, hx1, hy1, hx2, hy2, hx3, hy3, hx4, hy4⟩ := HC.out _ hw; obtain ⟨ha1, ha2, ha3, ha4⟩ := HEl.out _ hw; go_simp; with_reducible rfl)
          try simp only [Act.put, List.getElem_toArray, List.getElem_cons_succ, List.getElem_cons_zero, List.setIfInBounds_toArray, List.set_cons_zero, List.set_cons_succ]
          refine wpAnyL_take [] (i := 12) (v := ?vr12) rfl (by kernel_rfl) (by kernel_rfl) (by kernel_rfl) (by kernel_rfl) (by kernel_rfl) (by kernel_rfl) (fun _ _ _ h => h) HP.out (Or.inl ⟨by rfl, ?hyr12⟩) ?restr12
          case hyr12 => (intro w hw; obtain ⟨hx0, hy0, hx1, hy1, hx2, hy2, hx3, hy3, hx4, hy4⟩ := HC.out _ hw; obtain ⟨ha1, ha2, ha3, ha4⟩ := HEl.out _ hw; go_simp; with_reducible rfl)
          try simp only [Act.put, List.getElem_toArray, List.getElem_cons_succ, List.getElem_cons_zero, List.setIfInBounds_toArray, List.set_cons_zero, List.set_cons_succ]
          refine wpAnyL_take [] (i := 13) (v := ?vr13) rfl (by kernel_rfl) (by kernel_rfl) (by kernel_rfl) (by kernel_rfl) (by kernel_rfl) (by kernel_rfl) (fun _ _ _ h => h) HP.out (Or.inl ⟨by rfl, ?hyr13⟩) ?restr13
          case hyr13 => (intro w hw; obtain ⟨hx0, hy0, hx1, hy1, hx2, hy2, hx3, hy3, hx4, hy4⟩ := HC.out _ hw; obtain ⟨ha1, ha2, ha3, ha4⟩ := HEl.out _ hw; go_simp; with_reducible rfl)
          try simp only [Act.put, List.getElem_toArray, List.getElem_cons_succ, List.getElem_cons_zero, List.setIfInBounds_toArray, List.set_cons_zero, List.set_cons_succ]
          refine wpAnyL_take [] (i := 14) (v := ?vr14) rfl (by kernel_rfl) (by kernel_rfl) (by kernel_rfl) (by kernel_rfl) (by kernel_rfl) (by kernel_rfl) (fun _ _ _ h => h) HP.out (Or.inl ⟨by rfl, ?hyr14⟩) ?restr14
          case hyr14 => (intro w hw; obtain ⟨hx0, hy0, hx1, hy1, hx2, hy2, hx3, hy3, hx4, hy4⟩ := HC.out _ hw; obtain ⟨ha1, ha2, ha3, ha4⟩ := HEl.out _ hw; go_simp; with_reducible rfl)
          try simp only [Act.put, List.getElem_toArray, List.getElem_cons_succ, List.getElem_cons_zero, List.setIfInBounds_toArray, List.set_cons_zero, List.set_cons_succ]
          refine wpAnyL_done (by kernel_rfl) ?_ _
          go_wp2_with fail
          go_roundg (gk - 1)
          case rel => exact ⟨i + 1, by rw [HTD.out, HE.out]; rfl, by go_num, by omega, by first | exact RB.out | exact RB.out.drew, by omega⟩
          case measure => omega
    · obtain rfl : i = m.types.length := by omega
      clear hi hg hlt
      have hT : decide (m.types.take m.types.length = m'.types.take m.types.length) = decide (m.types = m'.types) := by
        rw [List.take_length, L2.out, List.take_length]
      rw [hT]
      clear hT
      obtain ⟨x0, y0, x1, y1, x2, y2, x3, y3, x4, y4⟩ := HC.out _ RB.out
      go_wp2_with fail
      clear x0 y0 x1 y1 x2 y2 x3 y3 x4 y4
      obtain ⟨wo, rfl⟩ : ∃ wo : World, wo = wr := ⟨_, rfl⟩
      obtain ⟨gk0, rfl⟩ : ∃ g, g = gk := ⟨_, rfl⟩
      generalize hs1 : decide (m.types = m'.types) = s1 at *
      have HS1 := hid_ hs1
      clear hs1
      go_loopg [5, 7, 8, 9] (m.fns.length + 1) (fun g v5 v7 _ _ wr => ∃ i : Nat, v5 = .bool (s1 && decide (m.fns.take i = m'.fns.take i)) ∧ v7 = .int .i64 i ∧ i ≤ m.fns.length ∧ Below W0.heap.size W0 wr ∧ m.fns.length - i + 1 ≤ g)
      case atStart => exact ⟨0, by rw [List.take_zero, List.take_zero, decide_eq_true rfl, Bool.and_true], rfl, by omega, RB.out, by omega⟩
      case round =>
        clear RB
        obtain ⟨i, rfl, rfl, hi, hb, hg⟩ := hrel
        have RB := hid_ hb
        clear hb
        by_cases hlt : i < m.fns.length
        · have b0 : (0 : Int) ≤ (i : Int) := by omega
          have b1 : (i : Int) < (m.fns.length : Int) := by omega
          have hlt' : i < m'.fns.length := by have := L3.out; omega
          have b2 : (i : Int) < (m'.fns.length : Int) := by omega
          have HTD := hid_ (take_dec hlt hlt')
          generalize decide (m.fns.take i = m'.fns.take i) = sm at *
          obtain ⟨g1, o1, e1, hx1, hc1⟩ := R3.out.get (by omega)
          obtain ⟨g2, o2, e2, hx2, hc2⟩ := Q3.out.get (by omega)
          injection hx1 with hx1 hz1 hy1
          injection hx2 with hx2 hz2 hy2
          clear hz1 hz2
          subst hx1 hx2 hy1 hy2
          obtain ⟨hix, hxe⟩ := map_at FE.out i hlt
          obtain ⟨hix', hxe'⟩ := map_at FE'.out i hlt'
          have ho := FO.out _ (List.getElem_mem hix)
          have ho' := FO'.out _ (List.getElem_mem hix')
          have hbd := HS.out.fb _ (List.getElem_mem hlt)
          have hfa := fun j hj => flatF_at fx i hix j hj
          have hfb := fun j hj => flatF_at fx' i hix' j hj
          rw [hxe, hxe'] at HTD
          rw [hxe] at hbd
          generalize fx[i] = x at *
          generalize fx'[i] = x' at *
          obtain ⟨ff, fv, fp⟩ := x
          obtain ⟨gf, gv, gp⟩ := x'
          have v1 : RowAt W0 fv ff.vars.length (flatV ff.vars) := ho.1
          have v2 : RowAt W0 fp ff.params.length (flatV ff.params) := ho.2
          have v3 : RowAt W0 gv gf.vars.length (flatV gf.vars) := ho'.1
          have v4 : RowAt W0 gp gf.params.length (flatV gf.params) := ho'.2
          obtain ⟨Av, av, rfl⟩ := v1.form
          obtain ⟨Ap, ap, rfl⟩ := v2.form
          obtain ⟨Bv, bv, rfl⟩ := v3.form
          obtain ⟨Bp, bp, rfl⟩ := v4.form
          have V1 := hid_ v1
          have V2 := hid_ v2
          have V3 := hid_ v3
          have V4 := hid_ v4
          have HBd := hid_ hbd
          have t00 : W0.cell? ⟨g1, o1 + i * 5, none⟩ = some (.string (st ff.name)) := hc1 (i * 5) _ (hfa 0 (by omega))
          have t01 : W0.cell? ⟨g1, o1 + i * 5 + 1, none⟩ = some (.slice Av ff.vars.length av) := by rw [Nat.add_assoc]; exact hc1 (i * 5 + 1) _ (hfa 1 (by omega))
          have t02 : W0.cell? ⟨g1, o1 + i * 5 + 2, none⟩ = some (.slice Ap ff.params.length ap) := by rw [Nat.add_assoc]; exact hc1 (i * 5 + 2) _ (hfa 2 (by omega))
          have t03 : W0.cell? ⟨g1, o1 + i * 5 + 3, none⟩ = some (.int .i64 ff.ret) := by rw [Nat.add_assoc]; exact hc1 (i * 5 + 3) _ (hfa 3 (by omega))
          have t04 : W0.cell? ⟨g1, o1 + i * 5 + 4, none⟩ = some (.int .i64 ff.body) := by rw [Nat.add_assoc]; exact hc1 (i * 5 + 4) _ (hfa 4 (by omega))
          have t10 : W0.cell? ⟨g2, o2 + i * 5, none⟩ = some (.string (st gf.name)) := hc2 (i * 5) _ (hfb 0 (by omega))
          have t11 : W0.cell? ⟨g2, o2 + i * 5 + 1, none⟩ = some (.slice Bv gf.vars.length bv) := by rw [Nat.add_assoc]; exact hc2 (i * 5 + 1) _ (hfb 1 (by omega))
          have t12 : W0.cell? ⟨g2, o2 + i * 5 + 2, none⟩ = some (.slice Bp gf.params.length bp) := by rw [Nat.add_assoc]; exact hc2 (i * 5 + 2) _ (hfb 2 (by omega))
          have t13 : W0.cell? ⟨g2, o2 + i * 5 + 3, none⟩ = some (.int .i64 gf.ret) := by rw [Nat.add_assoc]; exact hc2 (i * 5 + 3) _ (hfb 3 (by omega))
          have t14 : W0.cell? ⟨g2, o2 + i * 5 + 4, none⟩ = some (.int .i64 gf.body) := by rw [Nat.add_assoc]; exact hc2 (i * 5 + 4) _ (hfb 4 (by omega))
          have HEl := hid_ (fun (W' : World) (hb : Below W0.heap.size W0 W') => (⟨below_cell hb t00, below_cell hb t01, below_cell hb t02, below_cell hb t03, below_cell hb t04, below_cell hb t10, below_cell hb t11, below_cell hb t12, below_cell hb t13, below_cell hb t14⟩ : _ ∧ _ ∧ _ ∧ _ ∧ _ ∧ _ ∧ _ ∧ _ ∧ _ ∧ _))
          clear hc1 hc2 hfa hfb ho ho' hbd v1 v2 v3 v4 hxe hxe' hix hix' t00 t01 t02 t03 t04 t10 t11 t12 t13 t14
          obtain ⟨x0, y0, x1, y1, x2, y2, x3, y3, x4, y4⟩ := HC.out _ RB.out
          go_upto_region 11 with fail
          clear x0 y0 x1 y1 x2 y2 x3 y3 x4 y4
          have HP := hid_ RB.out.drew
          go_cut [8, 9] (fun s8 s9 wx => ∃ p q : Nat, s8 = .pointer (some ⟨p, 0, none⟩) ∧ s9 = .pointer (some ⟨q, 0, none⟩) ∧ Blk wx p 54 #[.string (st ff.name), .slice Av ff.vars.length av, .slice Ap ff.params.length ap, .int .i64 ff.ret, .int .i64 ff.body] ∧ Blk wx q 54 #[.string (st gf.name), .slice Bv gf.vars.length bv, .slice Bp gf.params.length bp, .int .i64 gf.ret, .int .i64 gf.body] ∧ Below W0.heap.size W0 wx)
          case first =>
            refine wp_regionL (fun W' : World => Below W0.heap.size W0 W') [] (by kernel_rfl) ?_
            have Hsz := hid_ HP.out.size
            generalize wr.drew = wd at *
            refine wpAnyL_take [] (i := 0) (v := ?vf0) rfl (by kernel_rfl) (by kernel_rfl) (by kernel_rfl) (by kernel_rfl) (by kernel_rfl) (by kernel_rfl) (fun _ _ _ h => h) HP.out (Or.inl ⟨by rfl, ?hyf0⟩) ?restf0
            case hyf0 => (intro w hw; obtain ⟨hx0, hy0, hx1, hy1, hx2, hy2, hx3, hy3, hx4, hy4⟩ := HC.out _ hw; obtain ⟨ht00, ht01, ht02, ht03, ht04, ht10, ht11, ht12, ht13, ht14⟩ := HEl.out _ hw; go_simp; with_reducible rfl)
            try simp only [Act.put, List.getElem_toArray, List.getElem_cons_zero, List.setIfInBounds_toArray, List.set_cons_zero, List.set_cons_succ]
            refine wpAnyL_take [] (i := 1) (v := ?vf1) rfl (by kernel_rfl) (by kernel_rfl) (by kernel_rfl) (by kernel_rfl) (by kernel_rfl) (by kernel_rfl) (fun _ _ _ h => h) HP.out (Or.inl ⟨by rfl, ?hyf1⟩) ?restf1
            case hyf1 => (intro w hw; obtain ⟨hx0, hy0, hx1, hy1, hx2, hy2, hx3, hy3, hx4, hy4⟩ := HC.out _ hw; obtain ⟨ht00, ht01, ht02, ht03, ht04, ht10, ht11, ht12, ht13, ht14⟩ := HEl.out _ hw; go_simp; with_reducible rfl)
            try simp only [Act.put, List.getElem_toArray, List.getElem_cons_succ, List.getElem_cons_zero, List.setIfInBounds_toArray, List.set_cons_zero, List.set_cons_succ]
            refine wpAnyL_take [] (i := 2) (v := ?vf2) rfl (by kernel_rfl) (by kernel_rfl) (by kernel_rfl) (by kernel_rfl) (by kernel_rfl) (by kernel_rfl) (fun _ _ _ h => h) HP.out (Or.inl ⟨by rfl, ?hyf2⟩) ?restf2
            case hyf2 => (intro w hw; obtain ⟨hx0, hy0, hx1, hy1, hx2, hy2, hx3, hy3, hx4, hy4⟩ := HC.out _ hw; obtain ⟨ht00, ht01, ht02, ht03, ht04, ht10, ht11, ht12, ht13, ht14⟩ := HEl.out _ hw; go_simp; with_reducible rfl)
            try simp only [Act.put, List.getElem_toArray, List.getElem_cons_succ, List.getElem_cons_zero, List.setIfInBounds_toArray, List.set_cons_zero, List.set_cons_succ]
            refine wpAnyL_take [] (i := 3) (v := ?vf3) rfl (by kernel_rfl) (by kernel_rfl) (by kernel_rfl) (by kernel_rfl) (by kernel_rfl) (by kernel_rfl) (fun _ _ _ h => h) HP.out (Or.inl ⟨by rfl, ?hyf3⟩) ?restf3
            case hyf3 => (intro w hw; obtain ⟨hx0, hy0, hx1, hy1, hx2, hy2, hx3, hy3, hx4, hy4⟩ := HC.out _ hw; obtain ⟨ht00, ht01, ht02, ht03, ht04, ht10, ht11, ht12, ht13, ht14⟩ := HEl.out _ hw; go_simp; with_reducible rfl)
            try simp only [Act.put, List.getElem_toArray, List.getElem_cons_succ, List.getElem_cons_zero, List.setIfInBounds_toArray, List.set_cons_zero, List.set_cons_succ]
            refine wpAnyL_take [] (i := 4) (v := ?vf4) rfl (by kernel_rfl) (by kernel_rfl) (by kernel_rfl) (by kernel_rfl) (by kernel_rfl) (by kernel_rfl) (fun _ _ _ h => h) HP.out (Or.inl ⟨by rfl, ?hyf4⟩) ?restf4
            case hyf4 => (intro w hw; obtain ⟨hx0, hy0, hx1, hy1, hx2, hy2, hx3, hy3, hx4, hy4⟩ := HC.out _ hw; obtain ⟨ht00, ht01, ht02, ht03, ht04, ht10, ht11, ht12, ht13, ht14⟩ := HEl.out _ hw; go_simp; with_reducible rfl)
            try simp only [Act.put, List.getElem_toArray, List.getElem_cons_succ, List.getElem_cons_zero, List.setIfInBounds_toArray, List.set_cons_zero, List.set_cons_succ]
            refine wpAnyL_take [] (i := 5) (v := ?vf5) rfl (by kernel_rfl) (by kernel_rfl) (by kernel_rfl) (by kernel_rfl) (by kernel_rfl) (by kernel_rfl) (fun _ _ _ h => h) HP.out (Or.inl ⟨by rfl, ?hyf5⟩) ?restf5
            case hyf5 => (intro w hw; obtain ⟨hx0, hy0, hx1, hy1, hx2, hy2, hx3, hy3, hx4, hy4⟩ := HC.out _ hw; obtain ⟨ht00, ht01, ht02, ht03, ht04, ht10, ht11, ht12, ht13, ht14⟩ := HEl.out _ hw; go_simp; with_reducible rfl)
            try simp only [Act.put, List.getElem_toArray, List.getElem_cons_succ, List.getElem_cons_zero, List.setIfInBounds_toArray, List.set_cons_zero, List.set_cons_succ]
            refine wpAnyL_take [] (i := 6) (v := ?vf6) rfl (by kernel_rfl) (by kernel_rfl) (by kernel_rfl) (by kernel_rfl) (by kernel_rfl) (by kernel_rfl) (fun _ _ _ h => h) HP.out (Or.inl ⟨by rfl, ?hyf6⟩) ?restf6
            case hyf6 => (intro w hw; obtain ⟨hx0, hy0, hx1, hy1, hx2, hy2, hx3, hy3, hx4, hy4⟩ := HC.out _ hw; obtain ⟨ht00, ht01, ht02, ht03, ht04, ht10, ht11, ht12, ht13, ht14⟩ := HEl.out _ hw; go_simp; with_reducible rfl)
            try simp only [Act.put, List.getElem_toArray, List.getElem_cons_succ, List.getElem_cons_zero, List.setIfInBounds_toArray, List.set_cons_zero, List.set_cons_succ]
            refine wpAnyL_take [] (i := 7) (v := ?vf7) rfl (by kernel_rfl) (by kernel_rfl) (by kernel_rfl) (by kernel_rfl) (by kernel_rfl) (by kernel_rfl) (fun _ _ _ h => h) HP.out (Or.inl ⟨by rfl, ?hyf7⟩) ?restf7
            case hyf7 => (intro w hw; obtain ⟨hx0, hy0, hx1, hy1, hx2, hy2, hx3, hy3, hx4, hy4⟩ := HC.out _ hw; obtain ⟨ht00, ht01, ht02, ht03, ht04, ht10, ht11, ht12, ht13, ht14⟩ := HEl.out _ hw; go_simp; with_reducible rfl)
            try simp only [Act.put, List.getElem_toArray, List.getElem_cons_succ, List.getElem_cons_zero, List.setIfInBounds_toArray, List.set_cons_zero, List.set_cons_succ]
            refine wpAnyL_take [] (i := 8) (v := ?vf8) rfl (by kernel_rfl) (by kernel_rfl) (by kernel_rfl) (by kernel_rfl) (by kernel_rfl) (by kernel_rfl) (fun _ _ _ h => h) HP.out (Or.inl ⟨by rfl, ?hyf8⟩) ?restf8
            case hyf8 => (intro w hw; obtain ⟨hx0, hy0, hx1, hy1, hx2, hy2, hx3, hy3, hx4, hy4⟩ := HC.out _ hw; obtain ⟨ht00, ht01, ht02, ht03, ht04, ht10, ht11, ht12, ht13, ht14⟩ := HEl.out _ hw; go_simp; with_reducible rfl)
            try simp only [Act.put, List.getElem_toArray, List.getElem_cons_succ, List.getElem_cons_zero, List.setIfInBounds_toArray, List.set_cons_zero, List.set_cons_succ]
            refine wpAnyL_take [] (i := 9) (v := ?vf9) rfl (by kernel_rfl) (by kernel_rfl) (by kernel_rfl) (by kernel_rfl) (by kernel_rfl) (by kernel_rfl) (fun _ _ _ h => h) HP.out (Or.inl ⟨by rfl, ?hyf9⟩) ?restf9
            case hyf9 => (intro w hw; obtain ⟨hx0, hy0, hx1, hy1, hx2, hy2, hx3, hy3, hx4, hy4⟩ := HC.out _ hw; obtain ⟨ht00, ht01, ht02, ht03, ht04, ht10, ht11, ht12, ht13, ht14⟩ := HEl.out _ hw; go_simp; with_reducible rfl)
            try simp only [Act.put, List.getElem_toArray, List.getElem_cons_succ, List.getElem_cons_zero, List.setIfInBounds_toArray, List.set_cons_zero, List.set_cons_succ]
            refine wpAnyL_step2 (i := 10) (j := 11) (by kernel_rfl) rfl rfl (fun K hK => ?_) (fun K hK => ?_)
            · go_simp
              refine hK.out _ _ (fun _ => HP.out.alloc HP.out.size _) ?_
              clear hK K
              try simp only [Act.put, List.getElem_toArray, List.getElem_cons_succ, List.getElem_cons_zero, List.setIfInBounds_toArray, List.set_cons_zero, List.set_cons_succ]
              have HP := hid_ (HP.out.alloc HP.out.size (.cells #[.string ⟨#[]⟩, .slice none 0 0, .slice none 0 0, .int .i64 0, .int .i64 0] 54))
              refine wpAnyL_step (i := 11) (by kernel_rfl) rfl (fun K hK => ?_)
              go_simp
              refine hK.out _ _ (fun _ => HP.out.alloc HP.out.size _) ?_
              clear hK K
              try simp only [Act.put, List.getElem_toArray, List.getElem_cons_succ, List.getElem_cons_zero, List.setIfInBounds_toArray, List.set_cons_zero, List.set_cons_succ]
              have HP := hid_ (HP.out.alloc HP.out.size (.cells #[.string ⟨#[]⟩, .slice none 0 0, .slice none 0 0, .int .i64 0, .int .i64 0] 54))
              have hP1 := (Blk.new wd 54 #[.string ⟨#[]⟩, .slice none 0 0, .slice none 0 0, .int .i64 0, .int .i64 0]).alloc (.cells #[.string ⟨#[]⟩, .slice none 0 0, .slice none 0 0, .int .i64 0, .int .i64 0] 54)
              have hP2 := Blk.new (wd.alloc (.cells #[.string ⟨#[]⟩, .slice none 0 0, .slice none 0 0, .int .i64 0, .int .i64 0] 54)) 54 #[.string ⟨#[]⟩, .slice none 0 0, .slice none 0 0, .int .i64 0, .int .i64 0]
              rw [alloc_sz] at hP2
              have HP1 := hid_ (show Blk ((wd.alloc (.cells #[.string ⟨#[]⟩, .slice none 0 0, .slice none 0 0, .int .i64 0, .int .i64 0] 54)).alloc (.cells #[.string ⟨#[]⟩, .slice none 0 0, .slice none 0 0, .int .i64 0, .int .i64 0] 54)) wd.heap.size 54 #[.string ⟨#[]⟩, .slice none 0 0, .slice none 0 0, .int .i64 0, .int .i64 0] from hP1)
              have HP2 := hid_ (show Blk ((wd.alloc (.cells #[.string ⟨#[]⟩, .slice none 0 0, .slice none 0 0, .int .i64 0, .int .i64 0] 54)).alloc (.cells #[.string ⟨#[]⟩, .slice none 0 0, .slice none 0 0, .int .i64 0, .int .i64 0] 54)) (wd.heap.size + 1) 54 #[.string ⟨#[]⟩, .slice none 0 0, .slice none 0 0, .int .i64 0, .int .i64 0] from hP2)
              clear hP1 hP2
              generalize (wd.alloc (.cells #[.string ⟨#[]⟩, .slice none 0 0, .slice none 0 0, .int .i64 0, .int .i64 0] 54)).alloc (.cells #[.string ⟨#[]⟩, .slice none 0 0, .slice none 0 0, .int .i64 0, .int .i64 0] 54) = Wa at *
              have hn1 := Hsz.out
              have hn12 : wd.heap.size ≠ wd.heap.size + 1 := by omega
              obtain ⟨n2, hn2⟩ : ∃ n2, n2 = wd.heap.size + 1 := ⟨_, rfl⟩
              rw [← hn2] at HP2 hn12 ⊢
              have hn2' : W0.heap.size ≤ n2 := by omega
              clear hn2
              clear Hsz; generalize wd.heap.size = n1 at *
              have Hn1 := hid_ hn1
              have Hn2 := hid_ hn2'
              have Hn12 := hid_ hn12
              clear hn1 hn2' hn12
              have z0 : Wa.cell? ⟨n1, 0, none⟩ = some (.string ⟨#[]⟩) := HP1.out.cell 0
              have f0 := HP1.out.frozen 0
              have z1 : Wa.cell? ⟨n1, 1, none⟩ = some (.slice none 0 0) := HP1.out.cell 1
              have f1 := HP1.out.frozen 1
              have z2 : Wa.cell? ⟨n1, 2, none⟩ = some (.slice none 0 0) := HP1.out.cell 2
              have f2 := HP1.out.frozen 2
              have z3 : Wa.cell? ⟨n1, 3, none⟩ = some (.int .i64 0) := HP1.out.cell 3
              have f3 := HP1.out.frozen 3
              have z4 : Wa.cell? ⟨n1, 4, none⟩ = some (.int .i64 0) := HP1.out.cell 4
              have f4 := HP1.out.frozen 4
              refine wpAnyL_step (i := 12) (by kernel_rfl) rfl (fun K hK => ?_)
              go_simp
              clear z0 z1 z2 z3 z4 f0 f1 f2 f3 f4
              refine hK.out _ _ (fun _ => (((((HP.out.setCell (p := ⟨n1, 0, none⟩) Hn1.out (.string (st ff.name))).setCell (p := ⟨n1, 1, none⟩) Hn1.out (.slice Av ff.vars.length av)).setCell (p := ⟨n1, 2, none⟩) Hn1.out (.slice Ap ff.params.length ap)).setCell (p := ⟨n1, 3, none⟩) Hn1.out (.int .i64 ff.ret)).setCell (p := ⟨n1, 4, none⟩) Hn1.out (.int .i64 ff.body))) ?_
              clear hK K
              try simp only [Act.put, List.getElem_toArray, List.getElem_cons_succ, List.getElem_cons_zero, List.setIfInBounds_toArray, List.set_cons_zero, List.set_cons_succ]
              have HX := hid_ (show Blk (((((Wa.setCell ⟨n1, 0, none⟩ (.string (st ff.name))).setCell ⟨n1, 1, none⟩ (.slice Av ff.vars.length av)).setCell ⟨n1, 2, none⟩ (.slice Ap ff.params.length ap)).setCell ⟨n1, 3, none⟩ (.int .i64 ff.ret)).setCell ⟨n1, 4, none⟩ (.int .i64 ff.body)) n1 54 #[.string (st ff.name), .slice Av ff.vars.length av, .slice Ap ff.params.length ap, .int .i64 ff.ret, .int .i64 ff.body] from (((((HP1.out.set_ 0 (.string (st ff.name))).set_ 1 (.slice Av ff.vars.length av)).set_ 2 (.slice Ap ff.params.length ap)).set_ 3 (.int .i64 ff.ret)).set_ 4 (.int .i64 ff.body)))
              have HY := hid_ (show Blk (((((Wa.setCell ⟨n1, 0, none⟩ (.string (st ff.name))).setCell ⟨n1, 1, none⟩ (.slice Av ff.vars.length av)).setCell ⟨n1, 2, none⟩ (.slice Ap ff.params.length ap)).setCell ⟨n1, 3, none⟩ (.int .i64 ff.ret)).setCell ⟨n1, 4, none⟩ (.int .i64 ff.body)) n2 54 #[.string ⟨#[]⟩, .slice none 0 0, .slice none 0 0, .int .i64 0, .int .i64 0] from (((((HP2.out.far (p := ⟨n1, 0, none⟩) (Ne.symm Hn12.out) (.string (st ff.name))).far (p := ⟨n1, 1, none⟩) (Ne.symm Hn12.out) (.slice Av ff.vars.length av)).far (p := ⟨n1, 2, none⟩) (Ne.symm Hn12.out) (.slice Ap ff.params.length ap)).far (p := ⟨n1, 3, none⟩) (Ne.symm Hn12.out) (.int .i64 ff.ret)).far (p := ⟨n1, 4, none⟩) (Ne.symm Hn12.out) (.int .i64 ff.body)))
              have HP := hid_ (((((HP.out.setCell (p := ⟨n1, 0, none⟩) Hn1.out (.string (st ff.name))).setCell (p := ⟨n1, 1, none⟩) Hn1.out (.slice Av ff.vars.length av)).setCell (p := ⟨n1, 2, none⟩) Hn1.out (.slice Ap ff.params.length ap)).setCell (p := ⟨n1, 3, none⟩) Hn1.out (.int .i64 ff.ret)).setCell (p := ⟨n1, 4, none⟩) Hn1.out (.int .i64 ff.body))
              clear HP1 HP2
              have HP1 := HX
              have HP2 := HY
              clear HX HY
              generalize (((((Wa.setCell ⟨n1, 0, none⟩ (.string (st ff.name))).setCell ⟨n1, 1, none⟩ (.slice Av ff.vars.length av)).setCell ⟨n1, 2, none⟩ (.slice Ap ff.params.length ap)).setCell ⟨n1, 3, none⟩ (.int .i64 ff.ret)).setCell ⟨n1, 4, none⟩ (.int .i64 ff.body)) = Wb at *
              have z0 : Wb.cell? ⟨n2, 0, none⟩ = some (.string ⟨#[]⟩) := HP2.out.cell 0
              have f0 := HP2.out.frozen 0
              have z1 : Wb.cell? ⟨n2, 1, none⟩ = some (.slice none 0 0) := HP2.out.cell 1
              have f1 := HP2.out.frozen 1
              have z2 : Wb.cell? ⟨n2, 2, none⟩ = some (.slice none 0 0) := HP2.out.cell 2
              have f2 := HP2.out.frozen 2
              have z3 : Wb.cell? ⟨n2, 3, none⟩ = some (.int .i64 0) := HP2.out.cell 3
              have f3 := HP2.out.frozen 3
              have z4 : Wb.cell? ⟨n2, 4, none⟩ = some (.int .i64 0) := HP2.out.cell 4
              have f4 := HP2.out.frozen 4
              refine wpAnyL_step (i := 13) (by kernel_rfl) rfl (fun K hK => ?_)
              go_simp
              clear z0 z1 z2 z3 z4 f0 f1 f2 f3 f4
              refine hK.out _ _ (fun _ => (((((HP.out.setCell (p := ⟨n2, 0, none⟩) Hn2.out (.string (st gf.name))).setCell (p := ⟨n2, 1, none⟩) Hn2.out (.slice Bv gf.vars.length bv)).setCell (p := ⟨n2, 2, none⟩) Hn2.out (.slice Bp gf.params.length bp)).setCell (p := ⟨n2, 3, none⟩) Hn2.out (.int .i64 gf.ret)).setCell (p := ⟨n2, 4, none⟩) Hn2.out (.int .i64 gf.body))) ?_
              clear hK K
              try simp only [Act.put, List.getElem_toArray, List.getElem_cons_succ, List.getElem_cons_zero, List.setIfInBounds_toArray, List.set_cons_zero, List.set_cons_succ]
              have HX := hid_ (show Blk (((((Wb.setCell ⟨n2, 0, none⟩ (.string (st gf.name))).setCell ⟨n2, 1, none⟩ (.slice Bv gf.vars.length bv)).setCell ⟨n2, 2, none⟩ (.slice Bp gf.params.length bp)).setCell ⟨n2, 3, none⟩ (.int .i64 gf.ret)).setCell ⟨n2, 4, none⟩ (.int .i64 gf.body)) n2 54 #[.string (st gf.name), .slice Bv gf.vars.length bv, .slice Bp gf.params.length bp, .int .i64 gf.ret, .int .i64 gf.body] from (((((HP2.out.set_ 0 (.string (st gf.name))).set_ 1 (.slice Bv gf.vars.length bv)).set_ 2 (.slice Bp gf.params.length bp)).set_ 3 (.int .i64 gf.ret)).set_ 4 (.int .i64 gf.body)))
              have HY := hid_ (show Blk (((((Wb.setCell ⟨n2, 0, none⟩ (.string (st gf.name))).setCell ⟨n2, 1, none⟩ (.slice Bv gf.vars.length bv)).setCell ⟨n2, 2, none⟩ (.slice Bp gf.params.length bp)).setCell ⟨n2, 3, none⟩ (.int .i64 gf.ret)).setCell ⟨n2, 4, none⟩ (.int .i64 gf.body)) n1 54 #[.string (st ff.name), .slice Av ff.vars.length av, .slice Ap ff.params.length ap, .int .i64 ff.ret, .int .i64 ff.body] from (((((HP1.out.far (p := ⟨n2, 0, none⟩) Hn12.out (.string (st gf.name))).far (p := ⟨n2, 1, none⟩) Hn12.out (.slice Bv gf.vars.length bv)).far (p := ⟨n2, 2, none⟩) Hn12.out (.slice Bp gf.params.length bp)).far (p := ⟨n2, 3, none⟩) Hn12.out (.int .i64 gf.ret)).far (p := ⟨n2, 4, none⟩) Hn12.out (.int .i64 gf.body)))
              have HP := hid_ (((((HP.out.setCell (p := ⟨n2, 0, none⟩) Hn2.out (.string (st gf.name))).setCell (p := ⟨n2, 1, none⟩) Hn2.out (.slice Bv gf.vars.length bv)).setCell (p := ⟨n2, 2, none⟩) Hn2.out (.slice Bp gf.params.length bp)).setCell (p := ⟨n2, 3, none⟩) Hn2.out (.int .i64 gf.ret)).setCell (p := ⟨n2, 4, none⟩) Hn2.out (.int .i64 gf.body))
              clear HP1 HP2
              have HP2 := HX
              have HP1 := HY
              clear HX HY
              generalize (((((Wb.setCell ⟨n2, 0, none⟩ (.string (st gf.name))).setCell ⟨n2, 1, none⟩ (.slice Bv gf.vars.length bv)).setCell ⟨n2, 2, none⟩ (.slice Bp gf.params.length bp)).setCell ⟨n2, 3, none⟩ (.int .i64 gf.ret)).setCell ⟨n2, 4, none⟩ (.int .i64 gf.body)) = Wc at *
              refine wpAnyL_done (by kernel_rfl) ?_ _
              go_wp2_with fail
              go_meet
              exact ⟨_, _, rfl, rfl, HP1.out, HP2.out, HP.out⟩
            · go_simp
              refine hK.out _ _ (fun _ => HP.out.alloc HP.out.size _) ?_
              clear hK K
              try simp only [Act.put, List.getElem_toArray, List.getElem_cons_succ, List.getElem_cons_zero, List.setIfInBounds_toArray, List.set_cons_zero, List.set_cons_succ]
              have HP := hid_ (HP.out.alloc HP.out.size (.cells #[.string ⟨#[]⟩, .slice none 0 0, .slice none 0 0, .int .i64 0, .int .i64 0] 54))
              refine wpAnyL_step (i := 10) (by kernel_rfl) rfl (fun K hK => ?_)
              go_simp
              refine hK.out _ _ (fun _ => HP.out.alloc HP.out.size _) ?_
              clear hK K
              try simp only [Act.put, List.getElem_toArray, List.getElem_cons_succ, List.getElem_cons_zero, List.setIfInBounds_toArray, List.set_cons_zero, List.set_cons_succ]
              have HP := hid_ (HP.out.alloc HP.out.size (.cells #[.string ⟨#[]⟩, .slice none 0 0, .slice none 0 0, .int .i64 0, .int .i64 0] 54))
              have hP1 := (Blk.new wd 54 #[.string ⟨#[]⟩, .slice none 0 0, .slice none 0 0, .int .i64 0, .int .i64 0]).alloc (.cells #[.string ⟨#[]⟩, .slice none 0 0, .slice none 0 0, .int .i64 0, .int .i64 0] 54)
              have hP2 := Blk.new (wd.alloc (.cells #[.string ⟨#[]⟩, .slice none 0 0, .slice none 0 0, .int .i64 0, .int .i64 0] 54)) 54 #[.string ⟨#[]⟩, .slice none 0 0, .slice none 0 0, .int .i64 0, .int .i64 0]
              rw [alloc_sz] at hP2
              have HP1 := hid_ (show Blk ((wd.alloc (.cells #[.string ⟨#[]⟩, .slice none 0 0, .slice none 0 0, .int .i64 0, .int .i64 0] 54)).alloc (.cells #[.string ⟨#[]⟩, .slice none 0 0, .slice none 0 0, .int .i64 0, .int .i64 0] 54)) wd.heap.size 54 #[.string ⟨#[]⟩, .slice none 0 0, .slice none 0 0, .int .i64 0, .int .i64 0] from hP1)
              have HP2 := hid_ (show Blk ((wd.alloc (.cells #[.string ⟨#[]⟩, .slice none 0 0, .slice none 0 0, .int .i64 0, .int .i64 0] 54)).alloc (.cells #[.string ⟨#[]⟩, .slice none 0 0, .slice none 0 0, .int .i64 0, .int .i64 0] 54)) (wd.heap.size + 1) 54 #[.string ⟨#[]⟩, .slice none 0 0, .slice none 0 0, .int .i64 0, .int .i64 0] from hP2)
              clear hP1 hP2
              generalize (wd.alloc (.cells #[.string ⟨#[]⟩, .slice none 0 0, .slice none 0 0, .int .i64 0, .int .i64 0] 54)).alloc (.cells #[.string ⟨#[]⟩, .slice none 0 0, .slice none 0 0, .int .i64 0, .int .i64 0] 54) = Wa at *
              have hn1 := Hsz.out
              have hn12 : wd.heap.size ≠ wd.heap.size + 1 := by omega
              obtain ⟨n2, hn2⟩ : ∃ n2, n2 = wd.heap.size + 1 := ⟨_, rfl⟩
              rw [← hn2] at HP2 hn12 ⊢
              have hn2' : W0.heap.size ≤ n2 := by omega
              clear hn2
              clear Hsz; generalize wd.heap.size = n1 at *
              have Hn1 := hid_ hn1
              have Hn2 := hid_ hn2'
              have Hn12 := hid_ hn12
              clear hn1 hn2' hn12
              have z0 : Wa.cell? ⟨n2, 0, none⟩ = some (.string ⟨#[]⟩) := HP2.out.cell 0
              have f0 := HP2.out.frozen 0
              have z1 : Wa.cell? ⟨n2, 1, none⟩ = some (.slice none 0 0) := HP2.out.cell 1
              have f1 := HP2.out.frozen 1
              have z2 : Wa.cell? ⟨n2, 2, none⟩ = some (.slice none 0 0) := HP2.out.cell 2
              have f2 := HP2.out.frozen 2
              have z3 : Wa.cell? ⟨n2, 3, none⟩ = some (.int .i64 0) := HP2.out.cell 3
              have f3 := HP2.out.frozen 3
              have z4 : Wa.cell? ⟨n2, 4, none⟩ = some (.int .i64 0) := HP2.out.cell 4
              have f4 := HP2.out.frozen 4
              refine wpAnyL_step (i := 12) (by kernel_rfl) rfl (fun K hK => ?_)
              go_simp
              clear z0 z1 z2 z3 z4 f0 f1 f2 f3 f4
              refine hK.out _ _ (fun _ => (((((HP.out.setCell (p := ⟨n2, 0, none⟩) Hn2.out (.string (st ff.name))).setCell (p := ⟨n2, 1, none⟩) Hn2.out (.slice Av ff.vars.length av)).setCell (p := ⟨n2, 2, none⟩) Hn2.out (.slice Ap ff.params.length ap)).setCell (p := ⟨n2, 3, none⟩) Hn2.out (.int .i64 ff.ret)).setCell (p := ⟨n2, 4, none⟩) Hn2.out (.int .i64 ff.body))) ?_
              clear hK K
              try simp only [Act.put, List.getElem_toArray, List.getElem_cons_succ, List.getElem_cons_zero, List.setIfInBounds_toArray, List.set_cons_zero, List.set_cons_succ]
              have HX := hid_ (show Blk (((((Wa.setCell ⟨n2, 0, none⟩ (.string (st ff.name))).setCell ⟨n2, 1, none⟩ (.slice Av ff.vars.length av)).setCell ⟨n2, 2, none⟩ (.slice Ap ff.params.length ap)).setCell ⟨n2, 3, none⟩ (.int .i64 ff.ret)).setCell ⟨n2, 4, none⟩ (.int .i64 ff.body)) n2 54 #[.string (st ff.name), .slice Av ff.vars.length av, .slice Ap ff.params.length ap, .int .i64 ff.ret, .int .i64 ff.body] from (((((HP2.out.set_ 0 (.string (st ff.name))).set_ 1 (.slice Av ff.vars.length av)).set_ 2 (.slice Ap ff.params.length ap)).set_ 3 (.int .i64 ff.ret)).set_ 4 (.int .i64 ff.body)))
              have HY := hid_ (show Blk (((((Wa.setCell ⟨n2, 0, none⟩ (.string (st ff.name))).setCell ⟨n2, 1, none⟩ (.slice Av ff.vars.length av)).setCell ⟨n2, 2, none⟩ (.slice Ap ff.params.length ap)).setCell ⟨n2, 3, none⟩ (.int .i64 ff.ret)).setCell ⟨n2, 4, none⟩ (.int .i64 ff.body)) n1 54 #[.string ⟨#[]⟩, .slice none 0 0, .slice none 0 0, .int .i64 0, .int .i64 0] from (((((HP1.out.far (p := ⟨n2, 0, none⟩) Hn12.out (.string (st ff.name))).far (p := ⟨n2, 1, none⟩) Hn12.out (.slice Av ff.vars.length av)).far (p := ⟨n2, 2, none⟩) Hn12.out (.slice Ap ff.params.length ap)).far (p := ⟨n2, 3, none⟩) Hn12.out (.int .i64 ff.ret)).far (p := ⟨n2, 4, none⟩) Hn12.out (.int .i64 ff.body)))
              have HP := hid_ (((((HP.out.setCell (p := ⟨n2, 0, none⟩) Hn2.out (.string (st ff.name))).setCell (p := ⟨n2, 1, none⟩) Hn2.out (.slice Av ff.vars.length av)).setCell (p := ⟨n2, 2, none⟩) Hn2.out (.slice Ap ff.params.length ap)).setCell (p := ⟨n2, 3, none⟩) Hn2.out (.int .i64 ff.ret)).setCell (p := ⟨n2, 4, none⟩) Hn2.out (.int .i64 ff.body))
              clear HP1 HP2
              have HP2 := HX
              have HP1 := HY
              clear HX HY
              generalize (((((Wa.setCell ⟨n2, 0, none⟩ (.string (st ff.name))).setCell ⟨n2, 1, none⟩ (.slice Av ff.vars.length av)).setCell ⟨n2, 2, none⟩ (.slice Ap ff.params.length ap)).setCell ⟨n2, 3, none⟩ (.int .i64 ff.ret)).setCell ⟨n2, 4, none⟩ (.int .i64 ff.body)) = Wb at *
              have z0 : Wb.cell? ⟨n1, 0, none⟩ = some (.string ⟨#[]⟩) := HP1.out.cell 0
              have f0 := HP1.out.frozen 0
              have z1 : Wb.cell? ⟨n1, 1, none⟩ = some (.slice none 0 0) := HP1.out.cell 1
              have f1 := HP1.out.frozen 1
              have z2 : Wb.cell? ⟨n1, 2, none⟩ = some (.slice none 0 0) := HP1.out.cell 2
              have f2 := HP1.out.frozen 2
              have z3 : Wb.cell? ⟨n1, 3, none⟩ = some (.int .i64 0) := HP1.out.cell 3
              have f3 := HP1.out.frozen 3
              have z4 : Wb.cell? ⟨n1, 4, none⟩ = some (.int .i64 0) := HP1.out.cell 4
              have f4 := HP1.out.frozen 4
              refine wpAnyL_step (i := 13) (by kernel_rfl) rfl (fun K hK => ?_)
              go_simp
              clear z0 z1 z2 z3 z4 f0 f1 f2 f3 f4
              refine hK.out _ _ (fun _ => (((((HP.out.setCell (p := ⟨n1, 0, none⟩) Hn1.out (.string (st gf.name))).setCell (p := ⟨n1, 1, none⟩) Hn1.out (.slice Bv gf.vars.length bv)).setCell (p := ⟨n1, 2, none⟩) Hn1.out (.slice Bp gf.params.length bp)).setCell (p := ⟨n1, 3, none⟩) Hn1.out (.int .i64 gf.ret)).setCell (p := ⟨n1, 4, none⟩) Hn1.out (.int .i64 gf.body))) ?_
              clear hK K
              try simp only [Act.put, List.getElem_toArray, List.getElem_cons_succ, List.getElem_cons_zero, List.setIfInBounds_toArray, List.set_cons_zero, List.set_cons_succ]
              have HX := hid_ (show Blk (((((Wb.setCell ⟨n1, 0, none⟩ (.string (st gf.name))).setCell ⟨n1, 1, none⟩ (.slice Bv gf.vars.length bv)).setCell ⟨n1, 2, none⟩ (.slice Bp gf.params.length bp)).setCell ⟨n1, 3, none⟩ (.int .i64 gf.ret)).setCell ⟨n1, 4, none⟩ (.int .i64 gf.body)) n1 54 #[.string (st gf.name), .slice Bv gf.vars.length bv, .slice Bp gf.params.length bp, .int .i64 gf.ret, .int .i64 gf.body] from (((((HP1.out.set_ 0 (.string (st gf.name))).set_ 1 (.slice Bv gf.vars.length bv)).set_ 2 (.slice Bp gf.params.length bp)).set_ 3 (.int .i64 gf.ret)).set_ 4 (.int .i64 gf.body)))
              have HY := hid_ (show Blk (((((Wb.setCell ⟨n1, 0, none⟩ (.string (st gf.name))).setCell ⟨n1, 1, none⟩ (.slice Bv gf.vars.length bv)).setCell ⟨n1, 2, none⟩ (.slice Bp gf.params.length bp)).setCell ⟨n1, 3, none⟩ (.int .i64 gf.ret)).setCell ⟨n1, 4, none⟩ (.int .i64 gf.body)) n2 54 #[.string (st ff.name), .slice Av ff.vars.length av, .slice Ap ff.params.length ap, .int .i64 ff.ret, .int .i64 ff.body] from (((((HP2.out.far (p := ⟨n1, 0, none⟩) (Ne.symm Hn12.out) (.string (st gf.name))).far (p := ⟨n1, 1, none⟩) (Ne.symm Hn12.out) (.slice Bv gf.vars.length bv)).far (p := ⟨n1, 2, none⟩) (Ne.symm Hn12.out) (.slice Bp gf.params.length bp)).far (p := ⟨n1, 3, none⟩) (Ne.symm Hn12.out) (.int .i64 gf.ret)).far (p := ⟨n1, 4, none⟩) (Ne.symm Hn12.out) (.int .i64 gf.body)))
              have HP := hid_ (((((HP.out.setCell (p := ⟨n1, 0, none⟩) Hn1.out (.string (st gf.name))).setCell (p := ⟨n1, 1, none⟩) Hn1.out (.slice Bv gf.vars.length bv)).setCell (p := ⟨n1, 2, none⟩) Hn1.out (.slice Bp gf.params.length bp)).setCell (p := ⟨n1, 3, none⟩) Hn1.out (.int .i64 gf.ret)).setCell (p := ⟨n1, 4, none⟩) Hn1.out (.int .i64 gf.body))
              clear HP1 HP2
              have HP1 := HX
              have HP2 := HY
              clear HX HY
              generalize (((((Wb.setCell ⟨n1, 0, none⟩ (.string (st gf.name))).setCell ⟨n1, 1, none⟩ (.slice Bv gf.vars.length bv)).setCell ⟨n1, 2, none⟩ (.slice Bp gf.params.length bp)).setCell ⟨n1, 3, none⟩ (.int .i64 gf.ret)).setCell ⟨n1, 4, none⟩ (.int .i64 gf.body)) = Wc at *
              refine wpAnyL_done (by kernel_rfl) ?_ _
              go_wp2_with fail
              go_meet
              exact ⟨_, _, rfl, rfl, HP2.out, HP1.out, HP.out⟩
          case rest =>
            obtain ⟨p, q, rfl, rfl, hbp, hbq, hb⟩ := hcut
            clear RB
            have RB := hid_ hb
            have HTD := hid_ (show decide (m.fns.take (i + 1) = m'.fns.take (i + 1)) = (sm && decide (ff = gf)) from HTD.out)
            generalize hsm : (s1 && sm) = ss at *
            have HSm := hid_ hsm
            clear hsm hb
            cases ss with
            | false =>
              clear hbp hbq
              go_wp2_with fail
              go_roundg (gk - 1)
              case rel => exact ⟨i + 1, by rw [HTD.out, ← Bool.and_assoc, HSm.out, Bool.false_and], by go_num, by omega, RB.out, by omega⟩
              case measure => omega
            | true =>
              have x0 : wc.cell? ⟨p, 0, none⟩ = some (.string (st ff.name)) := hbp.cell 0
              have y0 : wc.cell? ⟨q, 0, none⟩ = some (.string (st gf.name)) := hbq.cell 0
              have x1 : wc.cell? ⟨p, 1, none⟩ = some (.slice Av ff.vars.length av) := hbp.cell 1
              have y1 : wc.cell? ⟨q, 1, none⟩ = some (.slice Bv gf.vars.length bv) := hbq.cell 1
              have x2 : wc.cell? ⟨p, 2, none⟩ = some (.slice Ap ff.params.length ap) := hbp.cell 2
              have y2 : wc.cell? ⟨q, 2, none⟩ = some (.slice Bp gf.params.length bp) := hbq.cell 2
              have x3 : wc.cell? ⟨p, 3, none⟩ = some (.int .i64 ff.ret) := hbp.cell 3
              have y3 : wc.cell? ⟨q, 3, none⟩ = some (.int .i64 gf.ret) := hbq.cell 3
              have x4 : wc.cell? ⟨p, 4, none⟩ = some (.int .i64 ff.body) := hbp.cell 4
              have y4 : wc.cell? ⟨q, 4, none⟩ = some (.int .i64 gf.body) := hbq.cell 4
              clear hbp hbq
              by_cases h : ff.name = gf.name
              rotate_left
              · have q0 : ((st ff.name).toList == (st gf.name).toList) = false := by rw [txt_is]; exact decide_eq_false h
                have HE := hid_ (decide_eq_false (fun e : ff = gf => h (by rw [e])))
                clear h
                go_wp2_with fail
                go_roundg (gk - 1)
                case rel => exact ⟨i + 1, by rw [HTD.out, ← Bool.and_assoc, HSm.out, HE.out]; rfl, by go_num, by omega, RB.out, by omega⟩
                case measure => omega
              have q0 : ((st ff.name).toList == (st gf.name).toList) = true := by rw [txt_is]; exact decide_eq_true h
              have E0 := hid_ h
              clear h
              by_cases h : ff.ret = gf.ret
              rotate_left
              · have q1 : (ff.ret == gf.ret) = false := by simp [h]
                have HE := hid_ (decide_eq_false (fun e : ff = gf => h (by rw [e])))
                clear h
                go_wp2_with fail
                go_roundg (gk - 1)
                case rel => exact ⟨i + 1, by rw [HTD.out, ← Bool.and_assoc, HSm.out, HE.out]; rfl, by go_num, by omega, RB.out, by omega⟩
                case measure => omega
              have q1 : (ff.ret == gf.ret) = true := by simp [h]
              have E1 := hid_ h
              clear h
              by_cases h : ff.body = gf.body
              rotate_left
              · have q2 : (ff.body == gf.body) = false := by simp [h]
                have HE := hid_ (decide_eq_false (fun e : ff = gf => h (by rw [e])))
                clear h
                go_wp2_with fail
                go_roundg (gk - 1)
                case rel => exact ⟨i + 1, by rw [HTD.out, ← Bool.and_assoc, HSm.out, HE.out]; rfl, by go_num, by omega, RB.out, by omega⟩
                case measure => omega
              have q2 : (ff.body == gf.body) = true := by simp [h]
              have E2 := hid_ h
              clear h
              go_wp2_with fail
              refine (reqV_c (V1.out.below RB.out) (V3.out.below RB.out) HBd.out.1).mono ?_
              rintro e w5 ⟨he, hb⟩
              have RB := hid_ (RB.out.trans (hb.mono RB.out.size))
              have x2 := below_cell hb x2
              have y2 := below_cell hb y2
              clear x0 y0 x1 y1 x3 y3 x4 y4
              clear hb
              by_cases h : ff.vars = gf.vars
              rotate_left
              · rw [decide_eq_false h] at he
                subst he
                have HE := hid_ (decide_eq_false (fun e : ff = gf => h (by rw [e])))
                clear h
                go_wp2_with fail
                go_roundg (gk - 1)
                case rel => exact ⟨i + 1, by rw [HTD.out, ← Bool.and_assoc, HSm.out, HE.out]; rfl, by go_num, by omega, RB.out, by omega⟩
                case measure => omega
              rw [decide_eq_true h] at he
              subst he
              have E3 := hid_ h
              clear h
              go_wp2_with fail
              refine (reqV_c (V2.out.below RB.out) (V4.out.below RB.out) HBd.out.2).mono ?_
              rintro e w6 ⟨he, hb⟩
              have RB := hid_ (RB.out.trans (hb.mono RB.out.size))
              clear hb
              by_cases h : ff.params = gf.params
              rotate_left
              · rw [decide_eq_false h] at he
                subst he
                have HE := hid_ (decide_eq_false (fun e : ff = gf => h (by rw [e])))
                clear h
                go_wp2_with fail
                go_roundg (gk - 1)
                case rel => exact ⟨i + 1, by rw [HTD.out, ← Bool.and_assoc, HSm.out, HE.out]; rfl, by go_num, by omega, RB.out, by omega⟩
                case measure => omega
              rw [decide_eq_true h] at he
              subst he
              have E4 := hid_ h
              clear h
              have HE := hid_ (decide_eq_true (fd_ext E0.out E1.out E2.out E3.out E4.out))
              go_wp2_with fail
              go_roundg (gk - 1)
              case rel => exact ⟨i + 1, by rw [HTD.out, ← Bool.and_assoc, HSm.out, HE.out]; rfl, by go_num, by omega, RB.out, by omega⟩
              case measure => omega
        · obtain rfl : i = m.fns.length := by omega
          clear hi hg hlt
          have hT : decide (m.fns.take m.fns.length = m'.fns.take m.fns.length) = decide (m.fns = m'.fns) := by
            rw [List.take_length, L3.out, List.take_length]
          rw [hT]
          clear hT
          obtain ⟨x0, y0, x1, y1, x2, y2, x3, y3, x4, y4⟩ := HC.out _ RB.out
          go_wp2_with fail
          clear x0 y0 x1 y1 x2 y2 x3 y3 x4 y4
          obtain ⟨wo2, rfl⟩ : ∃ wo : World, wo = wr := ⟨_, rfl⟩
          obtain ⟨gk1, rfl⟩ : ∃ g, g = gk := ⟨_, rfl⟩
          generalize hs2 : (s1 && decide (m.fns = m'.fns)) = s2 at *
          have HS2 := hid_ hs2
          clear hs2
          go_loopg [5, 10] (m.nodes.length + 1) (fun g v5 v10 wr => ∃ i : Nat, v5 = .bool (s2 && decide (m.nodes.take i = m'.nodes.take i)) ∧ v10 = .int .i64 i ∧ i ≤ m.nodes.length ∧ Below W0.heap.size W0 wr ∧ m.nodes.length - i + 1 ≤ g)
          case atStart => exact ⟨0, by rw [List.take_zero, List.take_zero, decide_eq_true rfl, Bool.and_true], rfl, by omega, RB.out, by omega⟩
          case round =>
            clear RB
            obtain ⟨i, rfl, rfl, hi, hb, hg⟩ := hrel
            have RB := hid_ hb
            clear hb
            by_cases hlt : i < m.nodes.length
            · have b0 : (0 : Int) ≤ (i : Int) := by omega
              have b1 : (i : Int) < (m.nodes.length : Int) := by omega
              have hlt' : i < m'.nodes.length := by have := L4.out; omega
              have b2 : (i : Int) < (m'.nodes.length : Int) := by omega
              have HTD := hid_ (take_dec hlt hlt')
              generalize decide (m.nodes.take i = m'.nodes.take i) = sm at *
              generalize hsm : (s2 && sm) = ss at *
              have HSm := hid_ hsm
              clear hsm
              obtain ⟨x0, y0, x1, y1, x2, y2, x3, y3, x4, y4⟩ := HC.out _ RB.out
              cases ss with
              | false =>
                go_upto_region 16 with fail
                clear x0 y0 x1 y1 x2 y2 x3 y3 x4 y4
                have HP := hid_ RB.out.drew
                refine wp_regionL (fun W' : World => Below W0.heap.size W0 W') [] (by kernel_rfl) ?_
                refine wpAnyL_take [] (i := 0) (v := ?vm0) rfl (by kernel_rfl) (by kernel_rfl) (by kernel_rfl) (by kernel_rfl) (by kernel_rfl) (by kernel_rfl) (fun _ _ _ h => h) HP.out (Or.inl ⟨by rfl, ?hym0⟩) ?restm0
                case hym0 => (intro w hw; skip; go_simp; with_reducible rfl)
                try simp only [Act.put, List.getElem_toArray, List.getElem_cons_zero, List.setIfInBounds_toArray, List.set_cons_zero, List.set_cons_succ]
                refine wpAnyL_take [] (i := 1) (v := ?vm1) rfl (by kernel_rfl) (by kernel_rfl) (by kernel_rfl) (by kernel_rfl) (by kernel_rfl) (by kernel_rfl) (fun _ _ _ h => h) HP.out (Or.inl ⟨by rfl, ?hym1⟩) ?restm1
                case hym1 => (intro w hw; skip; go_simp; with_reducible rfl)
                try simp only [Act.put, List.getElem_toArray, List.getElem_cons_succ, List.getElem_cons_zero, List.setIfInBounds_toArray, List.set_cons_zero, List.set_cons_succ]
                refine wpAnyL_take [] (i := 2) (v := undef) rfl (by kernel_rfl) (by kernel_rfl) (by kernel_rfl) (by kernel_rfl) (by kernel_rfl) (by kernel_rfl) (fun _ _ _ h => h) HP.out (Or.inr ⟨by rfl, rfl⟩) ?restm2
                try simp only [Act.put, List.getElem_toArray, List.getElem_cons_succ, List.getElem_cons_zero, List.setIfInBounds_toArray, List.set_cons_zero, List.set_cons_succ]
                refine wpAnyL_take [] (i := 3) (v := undef) rfl (by kernel_rfl) (by kernel_rfl) (by kernel_rfl) (by kernel_rfl) (by kernel_rfl) (by kernel_rfl) (fun _ _ _ h => h) HP.out (Or.inr ⟨by rfl, rfl⟩) ?restm3
                try simp only [Act.put, List.getElem_toArray, List.getElem_cons_succ, List.getElem_cons_zero, List.setIfInBounds_toArray, List.set_cons_zero, List.set_cons_succ]
                refine wpAnyL_take [] (i := 4) (v := undef) rfl (by kernel_rfl) (by kernel_rfl) (by kernel_rfl) (by kernel_rfl) (by kernel_rfl) (by kernel_rfl) (fun _ _ _ h => h) HP.out (Or.inr ⟨by rfl, rfl⟩) ?restm4
                try simp only [Act.put, List.getElem_toArray, List.getElem_cons_succ, List.getElem_cons_zero, List.setIfInBounds_toArray, List.set_cons_zero, List.set_cons_succ]
                refine wpAnyL_take [] (i := 5) (v := undef) rfl (by kernel_rfl) (by kernel_rfl) (by kernel_rfl) (by kernel_rfl) (by kernel_rfl) (by kernel_rfl) (fun _ _ _ h => h) HP.out (Or.inr ⟨by rfl, rfl⟩) ?restm5
                try simp only [Act.put, List.getElem_toArray, List.getElem_cons_succ, List.getElem_cons_zero, List.setIfInBounds_toArray, List.set_cons_zero, List.set_cons_succ]
                refine wpAnyL_take [] (i := 6) (v := undef) rfl (by kernel_rfl) (by kernel_rfl) (by kernel_rfl) (by kernel_rfl) (by kernel_rfl) (by kernel_rfl) (fun _ _ _ h => h) HP.out (Or.inr ⟨by rfl, rfl⟩) ?restm6
                try simp only [Act.put, List.getElem_toArray, List.getElem_cons_succ, List.getElem_cons_zero, List.setIfInBounds_toArray, List.set_cons_zero, List.set_cons_succ]
                refine wpAnyL_take [] (i := 7) (v := undef) rfl (by kernel_rfl) (by kernel_rfl) (by kernel_rfl) (by kernel_rfl) (by kernel_rfl) (by kernel_rfl) (fun _ _ _ h => h) HP.out (Or.inr ⟨by rfl, rfl⟩) ?restm7
                try simp only [Act.put, List.getElem_toArray, List.getElem_cons_succ, List.getElem_cons_zero, List.setIfInBounds_toArray, List.set_cons_zero, List.set_cons_succ]
                refine wpAnyL_take [] (i := 8) (v := undef) rfl (by kernel_rfl) (by kernel_rfl) (by kernel_rfl) (by kernel_rfl) (by kernel_rfl) (by kernel_rfl) (fun _ _ _ h => h) HP.out (Or.inr ⟨by rfl, rfl⟩) ?restm8
                try simp only [Act.put, List.getElem_toArray, List.getElem_cons_succ, List.getElem_cons_zero, List.setIfInBounds_toArray, List.set_cons_zero, List.set_cons_succ]
                refine wpAnyL_take [] (i := 9) (v := undef) rfl (by kernel_rfl) (by kernel_rfl) (by kernel_rfl) (by kernel_rfl) (by kernel_rfl) (by kernel_rfl) (fun _ _ _ h => h) HP.out (Or.inr ⟨by rfl, rfl⟩) ?restm9
                try simp only [Act.put, List.getElem_toArray, List.getElem_cons_succ, List.getElem_cons_zero, List.setIfInBounds_toArray, List.set_cons_zero, List.set_cons_succ]
                refine wpAnyL_take [] (i := 10) (v := undef) rfl (by kernel_rfl) (by kernel_rfl) (by kernel_rfl) (by kernel_rfl) (by kernel_rfl) (by kernel_rfl) (fun _ _ _ h => h) HP.out (Or.inr ⟨by rfl, rfl⟩) ?restm10
                try simp only [Act.put, List.getElem_toArray, List.getElem_cons_succ, List.getElem_cons_zero, List.setIfInBounds_toArray, List.set_cons_zero, List.set_cons_succ]
                refine wpAnyL_take [] (i := 11) (v := undef) rfl (by kernel_rfl) (by kernel_rfl) (by kernel_rfl) (by kernel_rfl) (by kernel_rfl) (by kernel_rfl) (fun _ _ _ h => h) HP.out (Or.inr ⟨by rfl, rfl⟩) ?restm11
                try simp only [Act.put, List.getElem_toArray, List.getElem_cons_succ, List.getElem_cons_zero, List.setIfInBounds_toArray, List.set_cons_zero, List.set_cons_succ]
                refine wpAnyL_take [] (i := 12) (v := undef) rfl (by kernel_rfl) (by kernel_rfl) (by kernel_rfl) (by kernel_rfl) (by kernel_rfl) (by kernel_rfl) (fun _ _ _ h => h) HP.out (Or.inr ⟨by rfl, rfl⟩) ?restm12
                try simp only [Act.put, List.getElem_toArray, List.getElem_cons_succ, List.getElem_cons_zero, List.setIfInBounds_toArray, List.set_cons_zero, List.set_cons_succ]
                refine wpAnyL_take [] (i := 13) (v := ?vm13) rfl (by kernel_rfl) (by kernel_rfl) (by kernel_rfl) (by kernel_rfl) (by kernel_rfl) (by kernel_rfl) (fun _ _ _ h => h) HP.out (Or.inl ⟨by rfl, ?hym13⟩) ?restm13
                case hym13 => (intro w hw; skip; go_simp; with_reducible rfl)
                try simp only [Act.put, List.getElem_toArray, List.getElem_cons_succ, List.getElem_cons_zero, List.setIfInBounds_toArray, List.set_cons_zero, List.set_cons_succ]
                refine wpAnyL_take [] (i := 14) (v := ?vm14) rfl (by kernel_rfl) (by kernel_rfl) (by kernel_rfl) (by kernel_rfl) (by kernel_rfl) (by kernel_rfl) (fun _ _ _ h => h) HP.out (Or.inl ⟨by rfl, ?hym14⟩) ?restm14
                case hym14 => (intro w hw; skip; go_simp; with_reducible rfl)
                try simp only [Act.put, List.getElem_toArray, List.getElem_cons_succ, List.getElem_cons_zero, List.setIfInBounds_toArray, List.set_cons_zero, List.set_cons_succ]
                refine wpAnyL_done (by kernel_rfl) ?_ _
                go_wp2_with fail
                go_roundg (gk - 1)
                case rel => exact ⟨i + 1, by rw [HTD.out, ← Bool.and_assoc, HSm.out, Bool.false_and], by go_num, by omega, HP.out, by omega⟩
                case measure => omega
              | true =>
                obtain ⟨g1, o1, e1, hx1, hc1⟩ := R4.out.get (by omega)
                obtain ⟨g2, o2, e2, hx2, hc2⟩ := Q4.out.get (by omega)
                injection hx1 with hx1 hz1 hy1
                injection hx2 with hx2 hz2 hy2
                clear hz1 hz2
                subst hx1 hx2 hy1 hy2
                obtain ⟨hix, hxe⟩ := map_at NE.out i hlt
                obtain ⟨hix', hxe'⟩ := map_at NE'.out i hlt'
                have ho := NO.out _ (List.getElem_mem hix)
                have ho' := NO'.out _ (List.getElem_mem hix')
                have hbd := HS.out.nb _ (List.getElem_mem hlt)
                have hfa := fun j hj => flatN_getA nx i hix j hj
                have hfb := fun j hj => flatN_getA nx' i hix' j hj
                rw [hxe, hxe'] at HTD
                rw [hxe] at hbd
                generalize nx[i] = x at *
                generalize nx'[i] = x' at *
                obtain ⟨ff, fv, fp⟩ := x
                obtain ⟨gf, gv, gp⟩ := x'
                have v1 : RowAt W0 fv ff.keys.length (strs ff.keys) := ho.1
                have v2 : RowAt W0 fp ff.l.length (ints ff.l) := ho.2
                have v3 : RowAt W0 gv gf.keys.length (strs gf.keys) := ho'.1
                have v4 : RowAt W0 gp gf.l.length (ints gf.l) := ho'.2
                obtain ⟨Av, av, rfl⟩ := v1.form
                obtain ⟨Ap, ap, rfl⟩ := v2.form
                obtain ⟨Bv, bv, rfl⟩ := v3.form
                obtain ⟨Bp, bp, rfl⟩ := v4.form
                have V1 := hid_ v1
                have V2 := hid_ v2
                have V3 := hid_ v3
                have V4 := hid_ v4
                have HBd := hid_ hbd
                have t00 : W0.cell? ⟨g1, o1 + i * 6, none⟩ = some (.int .i64 ff.kind) := hc1 (i * 6) _ (hfa 0 (by omega))
                have t01 : W0.cell? ⟨g1, o1 + i * 6 + 1, none⟩ = some (.int .i64 ff.num) := by rw [Nat.add_assoc]; exact hc1 (i * 6 + 1) _ (hfa 1 (by omega))
                have t02 : W0.cell? ⟨g1, o1 + i * 6 + 2, none⟩ = some (.string (st ff.mod)) := by rw [Nat.add_assoc]; exact hc1 (i * 6 + 2) _ (hfa 2 (by omega))
                have t03 : W0.cell? ⟨g1, o1 + i * 6 + 3, none⟩ = some (.string (st ff.name)) := by rw [Nat.add_assoc]; exact hc1 (i * 6 + 3) _ (hfa 3 (by omega))
                have t04 : W0.cell? ⟨g1, o1 + i * 6 + 4, none⟩ = some (.slice Av ff.keys.length av) := by rw [Nat.add_assoc]; exact hc1 (i * 6 + 4) _ (hfa 4 (by omega))
                have t05 : W0.cell? ⟨g1, o1 + i * 6 + 5, none⟩ = some (.slice Ap ff.l.length ap) := by rw [Nat.add_assoc]; exact hc1 (i * 6 + 5) _ (hfa 5 (by omega))
                have t10 : W0.cell? ⟨g2, o2 + i * 6, none⟩ = some (.int .i64 gf.kind) := hc2 (i * 6) _ (hfb 0 (by omega))
                have t11 : W0.cell? ⟨g2, o2 + i * 6 + 1, none⟩ = some (.int .i64 gf.num) := by rw [Nat.add_assoc]; exact hc2 (i * 6 + 1) _ (hfb 1 (by omega))
                have t12 : W0.cell? ⟨g2, o2 + i * 6 + 2, none⟩ = some (.string (st gf.mod)) := by rw [Nat.add_assoc]; exact hc2 (i * 6 + 2) _ (hfb 2 (by omega))
                have t13 : W0.cell? ⟨g2, o2 + i * 6 + 3, none⟩ = some (.string (st gf.name)) := by rw [Nat.add_assoc]; exact hc2 (i * 6 + 3) _ (hfb 3 (by omega))
                have t14 : W0.cell? ⟨g2, o2 + i * 6 + 4, none⟩ = some (.slice Bv gf.keys.length bv) := by rw [Nat.add_assoc]; exact hc2 (i * 6 + 4) _ (hfb 4 (by omega))
                have t15 : W0.cell? ⟨g2, o2 + i * 6 + 5, none⟩ = some (.slice Bp gf.l.length bp) := by rw [Nat.add_assoc]; exact hc2 (i * 6 + 5) _ (hfb 5 (by omega))
                have HEl := hid_ (fun (W' : World) (hb : Below W0.heap.size W0 W') => (⟨below_cell hb t00, below_cell hb t01, below_cell hb t02, below_cell hb t03, below_cell hb t04, below_cell hb t05, below_cell hb t10, below_cell hb t11, below_cell hb t12, below_cell hb t13, below_cell hb t14, below_cell hb t15⟩ : _ ∧ _ ∧ _ ∧ _ ∧ _ ∧ _ ∧ _ ∧ _ ∧ _ ∧ _ ∧ _ ∧ _))
                clear hc1 hc2 hfa hfb ho ho' hbd v1 v2 v3 v4 hxe hxe' hix hix' t00 t01 t02 t03 t04 t05 t10 t11 t12 t13 t14 t15
                have HTD := hid_ (show decide (m.nodes.take (i + 1) = m'.nodes.take (i + 1)) = (sm && decide (ff = gf)) from HTD.out)
                go_upto_region 16 with fail
                clear x0 y0 x1 y1 x2 y2 x3 y3 x4 y4
                have HP := hid_ RB.out.drew
                refine wp_regionL (fun W' : World => Below W0.heap.size W0 W') [] (by kernel_rfl) ?_
                refine wpAnyL_take [] (i := 0) (v := ?vk0) rfl (by kernel_rfl) (by kernel_rfl) (by kernel_rfl) (by kernel_rfl) (by kernel_rfl) (by kernel_rfl) (fun _ _ _ h => h) HP.out (Or.inl ⟨by rfl, ?hyk0⟩) ?restk0
                case hyk0 => (intro w hw; obtain ⟨hx0, hy0, hx1, hy1, hx2, hy2, hx3, hy3, hx4, hy4⟩ := HC.out _ hw; obtain ⟨ht00, ht01, ht02, ht03, ht04, ht05, ht10, ht11, ht12, ht13, ht14, ht15⟩ := HEl.out _ hw; go_simp; with_reducible rfl)
                try simp only [Act.put, List.getElem_toArray, List.getElem_cons_zero, List.setIfInBounds_toArray, List.set_cons_zero, List.set_cons_succ]
                refine wpAnyL_take [] (i := 1) (v := ?vk1) rfl (by kernel_rfl) (by kernel_rfl) (by kernel_rfl) (by kernel_rfl) (by kernel_rfl) (by kernel_rfl) (fun _ _ _ h => h) HP.out (Or.inl ⟨by rfl, ?hyk1⟩) ?restk1
                case hyk1 => (intro w hw; obtain ⟨hx0, hy0, hx1, hy1, hx2, hy2, hx3, hy3, hx4, hy4⟩ := HC.out _ hw; obtain ⟨ht00, ht01, ht02, ht03, ht04, ht05, ht10, ht11, ht12, ht13, ht14, ht15⟩ := HEl.out _ hw; go_simp; with_reducible rfl)
                try simp only [Act.put, List.getElem_toArray, List.getElem_cons_succ, List.getElem_cons_zero, List.setIfInBounds_toArray, List.set_cons_zero, List.set_cons_succ]
                refine wpAnyL_take [] (i := 2) (v := ?vk2) rfl (by kernel_rfl) (by kernel_rfl) (by kernel_rfl) (by kernel_rfl) (by kernel_rfl) (by kernel_rfl) (fun _ _ _ h => h) HP.out (Or.inl ⟨by rfl, ?hyk2⟩) ?restk2
                case hyk2 => (intro w hw; obtain ⟨hx0, hy0, hx1, hy1, hx2, hy2, hx3, hy3, hx4, hy4⟩ := HC.out _ hw; obtain ⟨ht00, ht01, ht02, ht03, ht04, ht05, ht10, ht11, ht12, ht13, ht14, ht15⟩ := HEl.out _ hw; go_simp; with_reducible rfl)
                try simp only [Act.put, List.getElem_toArray, List.getElem_cons_succ, List.getElem_cons_zero, List.setIfInBounds_toArray, List.set_cons_zero, List.set_cons_succ]
                refine wpAnyL_take [] (i := 3) (v := ?vk3) rfl (by kernel_rfl) (by kernel_rfl) (by kernel_rfl) (by kernel_rfl) (by kernel_rfl) (by kernel_rfl) (fun _ _ _ h => h) HP.out (Or.inl ⟨by rfl, ?hyk3⟩) ?restk3
                case hyk3 => (intro w hw; obtain ⟨hx0, hy0, hx1, hy1, hx2, hy2, hx3, hy3, hx4, hy4⟩ := HC.out _ hw; obtain ⟨ht00, ht01, ht02, ht03, ht04, ht05, ht10, ht11, ht12, ht13, ht14, ht15⟩ := HEl.out _ hw; go_simp; with_reducible rfl)
                try simp only [Act.put, List.getElem_toArray, List.getElem_cons_succ, List.getElem_cons_zero, List.setIfInBounds_toArray, List.set_cons_zero, List.set_cons_succ]
                refine wpAnyL_take [] (i := 4) (v := ?vk4) rfl (by kernel_rfl) (by kernel_rfl) (by kernel_rfl) (by kernel_rfl) (by kernel_rfl) (by kernel_rfl) (fun _ _ _ h => h) HP.out (Or.inl ⟨by rfl, ?hyk4⟩) ?restk4
                case hyk4 => (intro w hw; obtain ⟨hx0, hy0, hx1, hy1, hx2, hy2, hx3, hy3, hx4, hy4⟩ := HC.out _ hw; obtain ⟨ht00, ht01, ht02, ht03, ht04, ht05, ht10, ht11, ht12, ht13, ht14, ht15⟩ := HEl.out _ hw; go_simp; with_reducible rfl)
                try simp only [Act.put, List.getElem_toArray, List.getElem_cons_succ, List.getElem_cons_zero, List.setIfInBounds_toArray, List.set_cons_zero, List.set_cons_succ]
                refine wpAnyL_take [] (i := 5) (v := ?vk5) rfl (by kernel_rfl) (by kernel_rfl) (by kernel_rfl) (by kernel_rfl) (by kernel_rfl) (by kernel_rfl) (fun _ _ _ h => h) HP.out (Or.inl ⟨by rfl, ?hyk5⟩) ?restk5
                case hyk5 => (intro w hw; obtain ⟨hx0, hy0, hx1, hy1, hx2, hy2, hx3, hy3, hx4, hy4⟩ := HC.out _ hw; obtain ⟨ht00, ht01, ht02, ht03, ht04, ht05, ht10, ht11, ht12, ht13, ht14, ht15⟩ := HEl.out _ hw; go_simp; with_reducible rfl)
                try simp only [Act.put, List.getElem_toArray, List.getElem_cons_succ, List.getElem_cons_zero, List.setIfInBounds_toArray, List.set_cons_zero, List.set_cons_succ]
                refine wpAnyL_take [] (i := 6) (v := ?vk6) rfl (by kernel_rfl) (by kernel_rfl) (by kernel_rfl) (by kernel_rfl) (by kernel_rfl) (by kernel_rfl) (fun _ _ _ h => h) HP.out (Or.inl ⟨by rfl, ?hyk6⟩) ?restk6
                case hyk6 => (intro w hw; obtain ⟨hx0, hy0, hx1, hy1, hx2, hy2, hx3, hy3, hx4, hy4⟩ := HC.out _ hw; obtain ⟨ht00, ht01, ht02, ht03, ht04, ht05, ht10, ht11, ht12, ht13, ht14, ht15⟩ := HEl.out _ hw; go_simp; with_reducible rfl)
                try simp only [Act.put, List.getElem_toArray, List.getElem_cons_succ, List.getElem_cons_zero, List.setIfInBounds_toArray, List.set_cons_zero, List.set_cons_succ]
                refine wpAnyL_take [] (i := 7) (v := ?vk7) rfl (by kernel_rfl) (by kernel_rfl) (by kernel_rfl) (by kernel_rfl) (by kernel_rfl) (by kernel_rfl) (fun _ _ _ h => h) HP.out (Or.inl ⟨by rfl, ?hyk7⟩) ?restk7
                case hyk7 => (intro w hw; obtain ⟨hx0, hy0, hx1, hy1, hx2, hy2, hx3, hy3, hx4, hy4⟩ := HC.out _ hw; obtain ⟨ht00, ht01, ht02, ht03, ht04, ht05, ht10, ht11, ht12, ht13, ht14, ht15⟩ := HEl.out _ hw; go_simp; with_reducible rfl)
                try simp only [Act.put, List.getElem_toArray, List.getElem_cons_succ, List.getElem_cons_zero, List.setIfInBounds_toArray, List.set_cons_zero, List.set_cons_succ]
                refine wpAnyL_take [] (i := 8) (v := ?vk8) rfl (by kernel_rfl) (by kernel_rfl) (by kernel_rfl) (by kernel_rfl) (by kernel_rfl) (by kernel_rfl) (fun _ _ _ h => h) HP.out (Or.inl ⟨by rfl, ?hyk8⟩) ?restk8
                case hyk8 => (intro w hw; obtain ⟨hx0, hy0, hx1, hy1, hx2, hy2, hx3, hy3, hx4, hy4⟩ := HC.out _ hw; obtain ⟨ht00, ht01, ht02, ht03, ht04, ht05, ht10, ht11, ht12, ht13, ht14, ht15⟩ := HEl.out _ hw; go_simp; with_reducible rfl)
                try simp only [Act.put, List.getElem_toArray, List.getElem_cons_succ, List.getElem_cons_zero, List.setIfInBounds_toArray, List.set_cons_zero, List.set_cons_succ]
                refine wpAnyL_take [] (i := 9) (v := ?vk9) rfl (by kernel_rfl) (by kernel_rfl) (by kernel_rfl) (by kernel_rfl) (by kernel_rfl) (by kernel_rfl) (fun _ _ _ h => h) HP.out (Or.inl ⟨by rfl, ?hyk9⟩) ?restk9
                case hyk9 => (intro w hw; obtain ⟨hx0, hy0, hx1, hy1, hx2, hy2, hx3, hy3, hx4, hy4⟩ := HC.out _ hw; obtain ⟨ht00, ht01, ht02, ht03, ht04, ht05, ht10, ht11, ht12, ht13, ht14, ht15⟩ := HEl.out _ hw; go_simp; with_reducible rfl)
                try simp only [Act.put, List.getElem_toArray, List.getElem_cons_succ, List.getElem_cons_zero, List.setIfInBounds_toArray, List.set_cons_zero, List.set_cons_succ]
                refine wpAnyL_take [] (i := 10) (v := ?vk10) rfl (by kernel_rfl) (by kernel_rfl) (by kernel_rfl) (by kernel_rfl) (by kernel_rfl) (by kernel_rfl) (fun _ _ _ h => h) HP.out (Or.inl ⟨by rfl, ?hyk10⟩) ?restk10
                case hyk10 => (intro w hw; obtain ⟨hx0, hy0, hx1, hy1, hx2, hy2, hx3, hy3, hx4, hy4⟩ := HC.out _ hw; obtain ⟨ht00, ht01, ht02, ht03, ht04, ht05, ht10, ht11, ht12, ht13, ht14, ht15⟩ := HEl.out _ hw; go_simp; with_reducible rfl)
                try simp only [Act.put, List.getElem_toArray, List.getElem_cons_succ, List.getElem_cons_zero, List.setIfInBounds_toArray, List.set_cons_zero, List.set_cons_succ]
                refine wpAnyL_take [] (i := 11) (v := ?vk11) rfl (by kernel_rfl) (by kernel_rfl) (by kernel_rfl) (by kernel_rfl) (by kernel_rfl) (by kernel_rfl) (fun _ _ _ h => h) HP.out (Or.inl ⟨by rfl, ?hyk11⟩) ?restk11
                case hyk11 => (intro w hw; obtain ⟨hx0, hy0, hx1, hy1, hx2, hy2, hx3, hy3, hx4, hy4⟩ := HC.out _ hw; obtain ⟨ht00, ht01, ht02, ht03, ht04, ht05, ht10, ht11, ht12, ht13, ht14, ht15⟩ := HEl.out _ hw; go_simp; with_reducible rfl)
                try simp only [Act.put, List.getElem_toArray, List.getElem_cons_succ, List.getElem_cons_zero, List.setIfInBounds_toArray, List.set_cons_zero, List.set_cons_succ]
                refine wpAnyL_step (i := 12) (by kernel_rfl) rfl (fun K hK => ?_)
                go_simp
                go_at_call 54
                refine (rsameN_c (V1.out.below HP.out) (V2.out.below HP.out) (V3.out.below HP.out) (V4.out.below HP.out) HBd.out.1 HBd.out.2).mono ?_
                intro e x1 hE
                obtain ⟨rfl, hb⟩ := hE
                have RBx := hid_ (HP.out.trans (hb.mono HP.out.size))
                clear hb HP
                generalize hde : decide (ff = gf) = de at *
                have HDe := hid_ hde
                clear hde
                refine hK.out _ _ (fun _ => RBx.out) ?_
                have HP := RBx
                clear hK K
                try simp only [Act.put, List.getElem_toArray, List.getElem_cons_succ, List.getElem_cons_zero, List.setIfInBounds_toArray, List.set_cons_zero, List.set_cons_succ]
                refine wpAnyL_take [] (i := 13) (v := ?vk13) rfl (by kernel_rfl) (by kernel_rfl) (by kernel_rfl) (by kernel_rfl) (by kernel_rfl) (by kernel_rfl) (fun _ _ _ h => h) HP.out (Or.inl ⟨by rfl, ?hyk13⟩) ?restk13
                case hyk13 => (intro w hw; obtain ⟨hx0, hy0, hx1, hy1, hx2, hy2, hx3, hy3, hx4, hy4⟩ := HC.out _ hw; obtain ⟨ht00, ht01, ht02, ht03, ht04, ht05, ht10, ht11, ht12, ht13, ht14, ht15⟩ := HEl.out _ hw; go_simp; with_reducible rfl)
                try simp only [Act.put, List.getElem_toArray, List.getElem_cons_succ, List.getElem_cons_zero, List.setIfInBounds_toArray, List.set_cons_zero, List.set_cons_succ]
                refine wpAnyL_take [] (i := 14) (v := ?vk14) rfl (by kernel_rfl) (by kernel_rfl) (by kernel_rfl) (by kernel_rfl) (by kernel_rfl) (by kernel_rfl) (fun _ _ _ h => h) HP.out (Or.inl ⟨by rfl, ?hyk14⟩) ?restk14
                case hyk14 => (intro w hw; obtain ⟨hx0, hy0, hx1, hy1, hx2, hy2, hx3, hy3, hx4, hy4⟩ := HC.out _ hw; obtain ⟨ht00, ht01, ht02, ht03, ht04, ht05, ht10, ht11, ht12, ht13, ht14, ht15⟩ := HEl.out _ hw; go_simp; with_reducible rfl)
                try simp only [Act.put, List.getElem_toArray, List.getElem_cons_succ, List.getElem_cons_zero, List.setIfInBounds_toArray, List.set_cons_zero, List.set_cons_succ]
                refine wpAnyL_done (by kernel_rfl) ?_ _
                go_wp2_with fail
                go_roundg (gk - 1)
                case rel => exact ⟨i + 1, by rw [HTD.out, ← Bool.and_assoc, HSm.out, Bool.true_and], by go_num, by omega, HP.out, by omega⟩
                case measure => omega
            · obtain rfl : i = m.nodes.length := by omega
              clear hi hg hlt
              have hT : decide (m.nodes.take m.nodes.length = m'.nodes.take m.nodes.length) = decide (m.nodes = m'.nodes) := by
                rw [List.take_length, L4.out, List.take_length]
              rw [hT]
              clear hT
              have HE := hid_ (show (s2 && decide (m.nodes = m'.nodes)) = decide (m = m') from by
                rw [← HS2.out, ← HS1.out]
                by_cases e1 : m.types = m'.types
                · by_cases e2 : m.fns = m'.fns
                  · by_cases e3 : m.nodes = m'.nodes
                    · rw [decide_eq_true e1, decide_eq_true e2, decide_eq_true e3, decide_eq_true (md_ext H0.out H1.out e1 e2 e3)]
                      rfl
                    · rw [decide_eq_false e3, Bool.and_false, decide_eq_false (fun e => e3 (by rw [e]))]
                  · rw [decide_eq_false e2, Bool.and_false, Bool.false_and, decide_eq_false (fun e => e2 (by rw [e]))]
                · rw [decide_eq_false e1, Bool.false_and, Bool.false_and, decide_eq_false (fun e => e1 (by rw [e]))])
              obtain ⟨x0, y0, x1, y1, x2, y2, x3, y3, x4, y4⟩ := HC.out _ RB.out
              go_wp2_with fail
              go_ret
              exact ⟨by rw [← HE.out]; rfl, HW.out.trans (RB.out.mono HW.out.size)⟩
end
end Go.Proofs.YtmgjmagniefhoaaGreatDoor
