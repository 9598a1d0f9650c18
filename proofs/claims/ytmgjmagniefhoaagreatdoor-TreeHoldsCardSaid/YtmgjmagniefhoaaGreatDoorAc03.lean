/- tree.Copy. Conditions: those that each theorem names. -/
import Derived.Test.YtmgjmagniefhoaaGreatDoorAc02
namespace Go.Proofs.YtmgjmagniefhoaaGreatDoor
open Go.RowKit Go.Maps
section
variable {w w' : World}
theorem flatF_len' {fx : List Fx} {fs : List Tr.Fd} (h : fx.map (·.1) = fs) : (flatF fx).length = fs.length * 5 := by
  rw [flatF_len, ← h, List.length_map]
theorem flatN_len' {nx : List Nx} {ns : List Tr.Nd} (h : nx.map (·.1) = ns) : (flatN nx).length = ns.length * 6 := by
  rw [flatN_length, ← h, List.length_map]
theorem RowZ.one {v : Value} {n : Nat} {xs : List Value} (h : RowZ w v n xs) : v.oneCell' = true := by
  obtain ⟨A, c, rfl⟩ := h.1.form
  rfl
theorem flatF_one : ∀ (fx : List Fx), (∀ x ∈ fx, x.2.1.oneCell' = true ∧ x.2.2.oneCell' = true) → ∀ u ∈ flatF fx, u.oneCell' = true := fun fx h u hu => by
  obtain ⟨x, hx, hu⟩ := List.mem_flatMap.1 hu
  obtain ⟨h1, h2⟩ := h x hx
  unfold cellF at hu
  simp only [List.mem_cons, List.not_mem_nil, or_false] at hu
  rcases hu with rfl | rfl | rfl | rfl | rfl
  · rfl
  · exact h1
  · exact h2
  · rfl
  · rfl
theorem flatN_one : ∀ (nx : List Nx), (∀ x ∈ nx, x.2.1.oneCell' = true ∧ x.2.2.oneCell' = true) → ∀ u ∈ flatN nx, u.oneCell' = true := fun nx h u hu => by
  obtain ⟨x, hx, hu⟩ := List.mem_flatMap.1 hu
  obtain ⟨h1, h2⟩ := h x hx
  unfold cellN at hu
  simp only [List.mem_cons, List.not_mem_nil, or_false] at hu
  rcases hu with rfl | rfl | rfl | rfl | rfl | rfl
  · rfl
  · rfl
  · rfl
  · rfl
  · exact h1
  · exact h2
theorem TcS.start {w0 W : World} {b0 b1 : Nat} {nm iv0 tv0 fv0 nv0 iv tv fv nv : Value} {im : List (List UInt8)} {ty : List Tr.Vr} {fx : List Fx} {nx : List Nx} (hb : Below w0.heap.size w0 W) (h0 : Blk W b0 31 #[nm, iv0, tv0, fv0, nv0]) (hle : w0.heap.size ≤ b0) (h1 : Blk W b1 31 zeroM) (hne : b0 ≠ b1)
    (hi : W.ownsRow w0.heap.size 9 1 iv im.length (strs im)) (ht : W.ownsRow w0.heap.size 59 2 tv ty.length (flatV ty)) (hf : W.ownsRow w0.heap.size 54 5 fv fx.length (flatF fx)) (hn : W.ownsRow w0.heap.size 57 6 nv nx.length (flatN nx)) {WF : World}
    (hF : WF = (((W.setCell ⟨b0, 1, none⟩ iv).setCell ⟨b0, 2, none⟩ tv).setCell ⟨b0, 3, none⟩ fv).setCell ⟨b0, 4, none⟩ nv) : TcS w0 WF b0 b1 nm iv tv fv nv im ty fx 0 nx 0 := by
  subst hF
  have hk : Kp (fun q => q = b0) W ((((W.setCell ⟨b0, 1, none⟩ iv).setCell ⟨b0, 2, none⟩ tv).setCell ⟨b0, 3, none⟩ fv).setCell ⟨b0, 4, none⟩ nv) := ((((Kp.refl (fun q => q = b0) W).setCell (p := ⟨b0, 1, none⟩) (.inl rfl) iv).setCell (p := ⟨b0, 2, none⟩) (.inl rfl) tv).setCell (p := ⟨b0, 3, none⟩) (.inl rfl) fv).setCell (p := ⟨b0, 4, none⟩) (.inl rfl) nv
  have key : ∀ {e : TypeId} {sz n : Nat} {v : Value} {xs : List Value}, W.ownsRow w0.heap.size e sz v n xs → e ≠ 31 → ((((W.setCell ⟨b0, 1, none⟩ iv).setCell ⟨b0, 2, none⟩ tv).setCell ⟨b0, 3, none⟩ fv).setCell ⟨b0, 4, none⟩ nv).ownsRow w0.heap.size e sz v n xs := fun hr he => own_kp hr hk fun q hq e => by
    have e : q = b0 := e
    subst e
    exact own_blk_ne hr h0 he hq
  refine ⟨(((hb.setCell (p := ⟨b0, 1, none⟩) hle iv).setCell (p := ⟨b0, 2, none⟩) hle tv).setCell (p := ⟨b0, 3, none⟩) hle fv).setCell (p := ⟨b0, 4, none⟩) hle nv, (((h0.set_ 1 iv).set_ 2 tv).set_ 3 fv).set_ 4 nv, h1.kp hk (fun e => hne e.symm), hne, key hi (by decide), key ht (by decide), key hf (by decide), key hn (by decide), fun j x hj => absurd hj (by omega), fun j x hj => absurd hj (by omega)⟩
theorem set_rest {α : Type} {l l0 : List α} {i : Nat} {y : α} (h : ∀ j, i ≤ j → l[j]? = l0[j]?) : ∀ j, i + 1 ≤ j → (l.set i y)[j]? = l0[j]? := fun j hj => by
  rw [List.getElem?_set_ne (by omega)]
  exact h j (by omega)
theorem set_fst {α β : Type} {l : List (α × β)} {i : Nat} (hi : i < l.length) {y : β} {ms : List α} (h : l.map (·.1) = ms) : (l.set i (l[i].1, y)).map (·.1) = ms := by
  rw [← h]
  apply List.ext_getElem
  · simp
  · intro j h1 h2
    simp only [List.getElem_map, List.getElem_set]
    split
    · rename_i e; subst e; rfl
    · rfl
set_option maxHeartbeats 8000000 in
set_option maxRecDepth 100000 in
theorem tcopy_c {iv tv fv nv : Value} {m : Tr.Md} {fx : List Fx} {nx : List Nx} (h : MZ w iv tv fv nv m fx nx) :
    Calls Tryz.prog 17 #[.agg #[.string (st m.name), iv, tv, fv, nv]] w fun e w' => ∃ iv' tv' fv' nv' fx' nx', e = .returned (.agg #[.string (st m.name), iv', tv', fv', nv']) ∧ Hi w.heap.size w' iv' tv' fv' nv' m fx' nx' ∧ Below w.heap.size w w' := by
  have HM := hid_ h
  have hz1 := h.sz.im
  have hz2 := h.sz.ty
  have hz3 := h.sz.fn
  have hz4 := h.sz.nd
  have HF1 := hid_ (flatF_one fx fun x hx => ⟨(h.fo x hx).1.one, (h.fo x hx).2.one⟩)
  have HN1 := hid_ (flatN_one nx fun x hx => ⟨(h.no x hx).1.one, (h.no x hx).2.one⟩)
  have HB0 := hid_ ((Blk.new w 31 #[.string (st m.name), iv, tv, fv, nv]).alloc (.cells #[.string ⟨#[]⟩, .slice none 0 0, .slice none 0 0, .slice none 0 0, .slice none 0 0] 31))
  have hb1 := Blk.new (w.alloc (.cells #[.string (st m.name), iv, tv, fv, nv] 31)) 31 #[.string ⟨#[]⟩, .slice none 0 0, .slice none 0 0, .slice none 0 0, .slice none 0 0]
  simp only [alloc_sz] at hb1
  have HB1 := hid_ hb1
  have HB2 := hid_ ((below_alloc w (.cells #[.string (st m.name), iv, tv, fv, nv] 31)).alloc (by simp) (.cells #[.string ⟨#[]⟩, .slice none 0 0, .slice none 0 0, .slice none 0 0, .slice none 0 0] 31))
  clear h hb1
  go_enter Tryz.func17, Tryz.ntmps17
  go_upto_region 1 with fail
  generalize (w.alloc (.cells #[.string (st m.name), iv, tv, fv, nv] 31)).alloc (.cells #[.string ⟨#[]⟩, .slice none 0 0, .slice none 0 0, .slice none 0 0, .slice none 0 0] 31) = W0 at *
  have HFB := hid_ (fun (W' : World) (hb : Below W0.heap.size W0 W') => (show (W'.cell? ⟨w.heap.size, 1, none⟩ = some iv ∧ W'.cell? ⟨w.heap.size, 2, none⟩ = some tv ∧ W'.cell? ⟨w.heap.size, 3, none⟩ = some fv ∧ W'.cell? ⟨w.heap.size, 4, none⟩ = some nv) ∧ W'.frozen? ⟨w.heap.size, 1, none⟩ = false ∧ W'.frozen? ⟨w.heap.size, 2, none⟩ = false ∧ W'.frozen? ⟨w.heap.size, 3, none⟩ = false ∧ W'.frozen? ⟨w.heap.size, 4, none⟩ = false from by
    have h := HB0.out.kp (Kp.of_below hb fun _ => False) id
    exact ⟨⟨h.cell 1, h.cell 2, h.cell 3, h.cell 4⟩, h.frozen 1, h.frozen 2, h.frozen 3, h.frozen 4⟩))
  have RB := hid_ (show Below W0.heap.size W0 W0.drew from (Below.refl _ _).drew)
  have HP := hid_ (HFB.out _ RB.out).1
  have HT := hid_ (fun (l : Array Bool) => (show TillL (fun W' : World => W'.cell? ⟨w.heap.size, 1, none⟩ = some iv ∧ W'.cell? ⟨w.heap.size, 2, none⟩ = some tv ∧ W'.cell? ⟨w.heap.size, 3, none⟩ = some fv ∧ W'.cell? ⟨w.heap.size, 4, none⟩ = some nv) [13] l W0.drew from fun _ => HP.out))
  refine wp_regionL (fun W' : World => W'.cell? ⟨w.heap.size, 1, none⟩ = some iv ∧ W'.cell? ⟨w.heap.size, 2, none⟩ = some tv ∧ W'.cell? ⟨w.heap.size, 3, none⟩ = some fv ∧ W'.cell? ⟨w.heap.size, 4, none⟩ = some nv) [13] (by kernel_rfl) ?_
  refine wpAnyL_take0 (i := 0) (v := ?v1) rfl (by kernel_rfl) (by kernel_rfl) (by kernel_rfl) (by kernel_rfl) (fun _ _ _ h => h) (HT.out _) (Or.inl ⟨by rfl, ?hy1⟩) ?rest1
  case hy1 => (intro w hw; go_simp; with_reducible rfl)
  try simp only [Act.put, List.getElem_toArray, List.getElem_cons_zero, List.setIfInBounds_toArray, List.set_cons_zero, List.set_cons_succ]
  refine wpAnyL_take [1, 2, 5, 8, 11, 13] (i := 1) (v := ?v2) rfl (by kernel_rfl) (by kernel_rfl) (by kernel_rfl) (by kernel_rfl) (by kernel_rfl) (by kernel_rfl) (fun _ _ _ h => h) HP.out (Or.inl ⟨by rfl, ?hy2⟩) ?rest2
  case hy2 => (intro w hw; obtain ⟨hw1, hw2, hw3, hw4⟩ := hw; go_simp; with_reducible rfl)
  try simp only [Act.put, List.getElem_toArray, List.getElem_cons_succ, List.getElem_cons_zero, List.setIfInBounds_toArray, List.set_cons_zero, List.set_cons_succ]
  refine wpAnyL_take0 (i := 3) (v := ?v3) rfl (by kernel_rfl) (by kernel_rfl) (by kernel_rfl) (by kernel_rfl) (fun _ _ _ h => h) (HT.out _) (Or.inl ⟨by rfl, ?hy3⟩) ?rest3
  case hy3 => (intro w hw; go_simp; with_reducible rfl)
  try simp only [Act.put, List.getElem_toArray, List.getElem_cons_succ, List.getElem_cons_zero, List.setIfInBounds_toArray, List.set_cons_zero, List.set_cons_succ]
  refine wpAnyL_take [4, 5, 8, 11, 13] (i := 4) (v := ?v4) rfl (by kernel_rfl) (by kernel_rfl) (by kernel_rfl) (by kernel_rfl) (by kernel_rfl) (by kernel_rfl) (fun _ _ _ h => h) HP.out (Or.inl ⟨by rfl, ?hy4⟩) ?rest4
  case hy4 => (intro w hw; obtain ⟨hw1, hw2, hw3, hw4⟩ := hw; go_simp; with_reducible rfl)
  try simp only [Act.put, List.getElem_toArray, List.getElem_cons_succ, List.getElem_cons_zero, List.setIfInBounds_toArray, List.set_cons_zero, List.set_cons_succ]
  refine wpAnyL_take0 (i := 6) (v := ?v5) rfl (by kernel_rfl) (by kernel_rfl) (by kernel_rfl) (by kernel_rfl) (fun _ _ _ h => h) (HT.out _) (Or.inl ⟨by rfl, ?hy5⟩) ?rest5
  case hy5 => (intro w hw; go_simp; with_reducible rfl)
  try simp only [Act.put, List.getElem_toArray, List.getElem_cons_succ, List.getElem_cons_zero, List.setIfInBounds_toArray, List.set_cons_zero, List.set_cons_succ]
  refine wpAnyL_take [7, 8, 11, 13] (i := 7) (v := ?v6) rfl (by kernel_rfl) (by kernel_rfl) (by kernel_rfl) (by kernel_rfl) (by kernel_rfl) (by kernel_rfl) (fun _ _ _ h => h) HP.out (Or.inl ⟨by rfl, ?hy6⟩) ?rest6
  case hy6 => (intro w hw; obtain ⟨hw1, hw2, hw3, hw4⟩ := hw; go_simp; with_reducible rfl)
  try simp only [Act.put, List.getElem_toArray, List.getElem_cons_succ, List.getElem_cons_zero, List.setIfInBounds_toArray, List.set_cons_zero, List.set_cons_succ]
  refine wpAnyL_take0 (i := 9) (v := ?v7) rfl (by kernel_rfl) (by kernel_rfl) (by kernel_rfl) (by kernel_rfl) (fun _ _ _ h => h) (HT.out _) (Or.inl ⟨by rfl, ?hy7⟩) ?rest7
  case hy7 => (intro w hw; go_simp; with_reducible rfl)
  try simp only [Act.put, List.getElem_toArray, List.getElem_cons_succ, List.getElem_cons_zero, List.setIfInBounds_toArray, List.set_cons_zero, List.set_cons_succ]
  refine wpAnyL_take [10, 11, 13] (i := 10) (v := ?v8) rfl (by kernel_rfl) (by kernel_rfl) (by kernel_rfl) (by kernel_rfl) (by kernel_rfl) (by kernel_rfl) (fun _ _ _ h => h) HP.out (Or.inl ⟨by rfl, ?hy8⟩) ?rest8
  case hy8 => (intro w hw; obtain ⟨hw1, hw2, hw3, hw4⟩ := hw; go_simp; with_reducible rfl)
  try simp only [Act.put, List.getElem_toArray, List.getElem_cons_succ, List.getElem_cons_zero, List.setIfInBounds_toArray, List.set_cons_zero, List.set_cons_succ]
  refine wpAnyL_step (i := 2) (by kernel_rfl) rfl (fun K hK => ?_)
  go_simp
  go_at_call 46
  refine (cloneStr_c (HM.out.i.below (HB2.out.trans (RB.out.mono HB2.out.size))) (strs_len _) (strs_one _) (by omega)).mono ?_
  intro e w1 hE
  obtain ⟨v1, rfl, hown, hb⟩ := hE
  obtain ⟨Z1, y1, rfl⟩ := own_form hown
  have HO1 := hid_ (ownsRow_base hown (Nat.le_trans HB2.out.size RB.out.size))
  have RB := hid_ (RB.out.trans (hb.mono RB.out.size))
  clear hown hb
  refine hK.out _ _ (fun _ => (HFB.out _ RB.out).1) ?_
  clear hK K
  have HP := hid_ (HFB.out _ RB.out).1
  have HT := hid_ (fun (l : Array Bool) => show TillL (fun W' : World => W'.cell? ⟨w.heap.size, 1, none⟩ = some iv ∧ W'.cell? ⟨w.heap.size, 2, none⟩ = some tv ∧ W'.cell? ⟨w.heap.size, 3, none⟩ = some fv ∧ W'.cell? ⟨w.heap.size, 4, none⟩ = some nv) [13] l _ from fun _ => HP.out)
  try simp only [Act.put, List.getElem_toArray, List.getElem_cons_succ, List.getElem_cons_zero, List.setIfInBounds_toArray, List.set_cons_zero, List.set_cons_succ]
  refine wpAnyL_take0 (i := 12) (v := ?v12) rfl (by kernel_rfl) (by kernel_rfl) (by kernel_rfl) (by kernel_rfl) (fun _ _ _ h => h) (HT.out _) (Or.inl ⟨by rfl, ?hy12⟩) ?rest12
  case hy12 => (intro w hw; go_simp; with_reducible rfl)
  try simp only [Act.put, List.getElem_toArray, List.getElem_cons_succ, List.getElem_cons_zero, List.setIfInBounds_toArray, List.set_cons_zero, List.set_cons_succ]
  refine wpAnyL_step (i := 5) (by kernel_rfl) rfl (fun K hK => ?_)
  go_simp
  go_at_call 47
  refine (cloneDecl_c (HM.out.t.below (HB2.out.trans (RB.out.mono HB2.out.size))) (flatV_len _) (flatV_one _) (by omega)).mono ?_
  intro e w2 hE
  obtain ⟨v2, rfl, hown, hb⟩ := hE
  obtain ⟨Z2, y2, rfl⟩ := own_form hown
  have HO1 := hid_ (own_kp HO1.out (Kp.of_below hb fun _ => False) (fun _ _ e => e))
  have HO2 := hid_ (ownsRow_base hown (Nat.le_trans HB2.out.size RB.out.size))
  have RB := hid_ (RB.out.trans (hb.mono RB.out.size))
  clear hown hb
  refine hK.out _ _ (fun _ => (HFB.out _ RB.out).1) ?_
  clear hK K
  have HP := hid_ (HFB.out _ RB.out).1
  have HT := hid_ (fun (l : Array Bool) => show TillL (fun W' : World => W'.cell? ⟨w.heap.size, 1, none⟩ = some iv ∧ W'.cell? ⟨w.heap.size, 2, none⟩ = some tv ∧ W'.cell? ⟨w.heap.size, 3, none⟩ = some fv ∧ W'.cell? ⟨w.heap.size, 4, none⟩ = some nv) [13] l _ from fun _ => HP.out)
  try simp only [Act.put, List.getElem_toArray, List.getElem_cons_succ, List.getElem_cons_zero, List.setIfInBounds_toArray, List.set_cons_zero, List.set_cons_succ]
  refine wpAnyL_step (i := 8) (by kernel_rfl) rfl (fun K hK => ?_)
  go_simp
  go_at_call 48
  refine (cloneFn_c (HM.out.f.below (HB2.out.trans (RB.out.mono HB2.out.size))) (flatF_len' HM.out.fe) HF1.out (by omega)).mono ?_
  intro e w3 hE
  obtain ⟨v3, rfl, hown, hb⟩ := hE
  obtain ⟨Z3, y3, rfl⟩ := own_form hown
  have HO1 := hid_ (own_kp HO1.out (Kp.of_below hb fun _ => False) (fun _ _ e => e))
  have HO2 := hid_ (own_kp HO2.out (Kp.of_below hb fun _ => False) (fun _ _ e => e))
  have HO3 := hid_ (ownsRow_base hown (Nat.le_trans HB2.out.size RB.out.size))
  have RB := hid_ (RB.out.trans (hb.mono RB.out.size))
  clear hown hb
  refine hK.out _ _ (fun _ => (HFB.out _ RB.out).1) ?_
  clear hK K
  have HP := hid_ (HFB.out _ RB.out).1
  have HT := hid_ (fun (l : Array Bool) => show TillL (fun W' : World => W'.cell? ⟨w.heap.size, 1, none⟩ = some iv ∧ W'.cell? ⟨w.heap.size, 2, none⟩ = some tv ∧ W'.cell? ⟨w.heap.size, 3, none⟩ = some fv ∧ W'.cell? ⟨w.heap.size, 4, none⟩ = some nv) [13] l _ from fun _ => HP.out)
  try simp only [Act.put, List.getElem_toArray, List.getElem_cons_succ, List.getElem_cons_zero, List.setIfInBounds_toArray, List.set_cons_zero, List.set_cons_succ]
  refine wpAnyL_step (i := 11) (by kernel_rfl) rfl (fun K hK => ?_)
  go_simp
  go_at_call 49
  refine (cloneNode_c (HM.out.n.below (HB2.out.trans (RB.out.mono HB2.out.size))) (flatN_len' HM.out.ne) HN1.out (by omega)).mono ?_
  intro e w4 hE
  obtain ⟨v4, rfl, hown, hb⟩ := hE
  obtain ⟨Z4, y4, rfl⟩ := own_form hown
  have HO1 := hid_ (own_kp HO1.out (Kp.of_below hb fun _ => False) (fun _ _ e => e))
  have HO2 := hid_ (own_kp HO2.out (Kp.of_below hb fun _ => False) (fun _ _ e => e))
  have HO3 := hid_ (own_kp HO3.out (Kp.of_below hb fun _ => False) (fun _ _ e => e))
  have HO4 := hid_ (ownsRow_base hown (Nat.le_trans HB2.out.size RB.out.size))
  have RB := hid_ (RB.out.trans (hb.mono RB.out.size))
  clear hown hb
  refine hK.out _ _ (fun _ => (HFB.out _ RB.out).1) ?_
  clear hK K
  have HP := hid_ (HFB.out _ RB.out).1
  have HT := hid_ (fun (l : Array Bool) => show TillL (fun W' : World => W'.cell? ⟨w.heap.size, 1, none⟩ = some iv ∧ W'.cell? ⟨w.heap.size, 2, none⟩ = some tv ∧ W'.cell? ⟨w.heap.size, 3, none⟩ = some fv ∧ W'.cell? ⟨w.heap.size, 4, none⟩ = some nv) [13] l _ from fun _ => HP.out)
  try simp only [Act.put, List.getElem_toArray, List.getElem_cons_succ, List.getElem_cons_zero, List.setIfInBounds_toArray, List.set_cons_zero, List.set_cons_succ]

  have q1 := HFB.out _ RB.out
  obtain ⟨p1, p2, p3, p4⟩ := q1.1
  obtain ⟨f1, f2, f3, f4⟩ := q1.2
  have HK1 := hid_ (HB0.out.kp (Kp.of_below RB.out fun _ => False) id)
  clear q1
  refine wpAnyL_step (i := 13) (by kernel_rfl) rfl (fun K hK => ?_)
  go_simp
  refine hK.out _ _ (tillL_off (s := 13) (by simp) (by kernel_rfl)) ?_
  clear hK K
  try simp only [Act.put, List.getElem_toArray, List.getElem_cons_succ, List.getElem_cons_zero, List.setIfInBounds_toArray, List.set_cons_zero, List.set_cons_succ]
  refine wpAnyL_step (i := 14) (by kernel_rfl) rfl (fun K hK => ?_)
  go_simp
  refine hK.out _ _ (tillL_off (s := 13) (by simp) (by kernel_rfl)) ?_
  clear hK K
  try simp only [Act.put, List.getElem_toArray, List.getElem_cons_succ, List.getElem_cons_zero, List.setIfInBounds_toArray, List.set_cons_zero, List.set_cons_succ]
  refine wpAnyL_step (i := 15) (by kernel_rfl) rfl (fun K hK => ?_)
  go_simp
  refine hK.out _ _ (tillL_off (s := 13) (by simp) (by kernel_rfl)) ?_
  clear hK K
  try simp only [Act.put, List.getElem_toArray, List.getElem_cons_succ, List.getElem_cons_zero, List.setIfInBounds_toArray, List.set_cons_zero, List.set_cons_succ]
  refine wpAnyL_step (i := 16) (by kernel_rfl) rfl (fun K hK => ?_)
  go_simp
  refine hK.out _ _ (tillL_off (s := 13) (by simp) (by kernel_rfl)) ?_
  clear hK K
  try simp only [Act.put, List.getElem_toArray, List.getElem_cons_succ, List.getElem_cons_zero, List.setIfInBounds_toArray, List.set_cons_zero, List.set_cons_succ]
  refine wpAnyL_step (i := 17) (by kernel_rfl) rfl (fun K hK => ?_)
  go_simp
  refine hK.out _ _ (tillL_off (s := 13) (by simp) (by kernel_rfl)) ?_
  clear hK K
  try simp only [Act.put, List.getElem_toArray, List.getElem_cons_succ, List.getElem_cons_zero, List.setIfInBounds_toArray, List.set_cons_zero, List.set_cons_succ]
  refine wpAnyL_step (i := 18) (by kernel_rfl) rfl (fun K hK => ?_)
  go_simp
  refine hK.out _ _ (tillL_off (s := 13) (by simp) (by kernel_rfl)) ?_
  clear hK K
  try simp only [Act.put, List.getElem_toArray, List.getElem_cons_succ, List.getElem_cons_zero, List.setIfInBounds_toArray, List.set_cons_zero, List.set_cons_succ]
  refine wpAnyL_step (i := 19) (by kernel_rfl) rfl (fun K hK => ?_)
  go_simp
  refine hK.out _ _ (tillL_off (s := 13) (by simp) (by kernel_rfl)) ?_
  clear hK K
  try simp only [Act.put, List.getElem_toArray, List.getElem_cons_succ, List.getElem_cons_zero, List.setIfInBounds_toArray, List.set_cons_zero, List.set_cons_succ]
  refine wpAnyL_done (by kernel_rfl) ?_ _
  have hfl : fx.length = m.fns.length := by rw [← HM.out.fe, List.length_map]
  have hnl : nx.length = m.nodes.length := by rw [← HM.out.ne, List.length_map]
  have HS1 := hid_ (TcS.start (HB2.out.trans (RB.out.mono HB2.out.size)) HK1.out (Nat.le_refl _) (HB1.out.kp (Kp.of_below RB.out fun _ => False) id) (by omega) HO1.out HO2.out (by rw [hfl]; exact HO3.out) (by rw [hnl]; exact HO4.out) rfl)
  clear p1 p2 p3 p4 f1 f2 f3 f4 HK1 HT HP HO1 HO2 HO3 HO4 RB HFB HB2
  generalize (((w4.setCell ⟨w.heap.size, 1, none⟩ (.slice Z1 m.imports.length y1)).setCell ⟨w.heap.size, 2, none⟩ (.slice Z2 m.types.length y2)).setCell ⟨w.heap.size, 3, none⟩ (.slice Z3 m.fns.length y3)).setCell ⟨w.heap.size, 4, none⟩ (.slice Z4 m.nodes.length y4) = W1 at *
  have c3 : W1.cell? ⟨w.heap.size, 3, none⟩ = some (.slice Z3 m.fns.length y3) := HS1.out.a0.cell 3
  go_wp2_with fail
  clear c3
  go_loopg [3, 4, 26] (m.fns.length + 1) (fun g _ _ v26 wr => ∃ (i : Nat) (fx' : List Fx), v26 = .int .i64 i ∧ i ≤ m.fns.length ∧ fx'.map (·.1) = m.fns ∧ (∀ j, i ≤ j → fx'[j]? = fx[j]?) ∧ TcS w wr w.heap.size (w.heap.size + 1) (.string (st m.name)) (.slice Z1 m.imports.length y1) (.slice Z2 m.types.length y2) (.slice Z3 m.fns.length y3) (.slice Z4 m.nodes.length y4) m.imports m.types fx' i nx 0 ∧ m.fns.length - i + 1 ≤ g)
  case atStart => exact ⟨0, fx, rfl, by omega, HM.out.fe, fun _ _ => rfl, HS1.out, by omega⟩
  case round =>
    clear HS1
    obtain ⟨i, fx', rfl, hi, hfx, hre, hs, hg⟩ := hrel
    have HS1 := hid_ hs
    have HFx := hid_ hfx
    have HRe := hid_ hre
    clear hs hfx hre
    by_cases hlt : i < m.fns.length
    · have b0 : (0 : Int) ≤ (i : Int) := by omega
      have b1' : (i : Int) < (m.fns.length : Int) := by omega
      have hlen : fx'.length = m.fns.length := by rw [← HFx.out, List.length_map]
      have hix : i < fx.length := by omega
      have hix' : i < fx'.length := by omega
      obtain ⟨g0, c0, hz⟩ := own_head HS1.out.f (by omega)
      injection hz with hz hzl hzc
      clear hzl
      subst hz hzc
      obtain ⟨_, hxe⟩ := map_at HM.out.fe i hlt
      have hfo := HM.out.fo _ (List.getElem_mem hix)
      have hfb := HM.out.sz.fb _ (List.getElem_mem hlt)
      rw [hxe] at hfb
      have hxx : fx'[i] = fx[i] := by
        have := HRe.out i (Nat.le_refl _)
        rw [List.getElem?_eq_getElem hix', List.getElem?_eq_getElem hix] at this
        injection this
      rw [← hxx] at hfo hfb
      have hfa := fun j hj => flatF_at fx' i hix' j hj
      have HSF := hid_ (show TcS w wr w.heap.size (w.heap.size + 1) (.string (st m.name)) (.slice Z1 m.imports.length y1) (.slice Z2 m.types.length y2) (.slice (some ⟨g0, 0, none⟩) fx'.length y3) (.slice Z4 m.nodes.length y4) m.imports m.types fx' i nx 0 from by rw [hlen]; exact HS1.out)
      have HUp := hid_ (fun (W' : World) (hb : Below wr.heap.size wr W') (v p : Value) (W1 : World) h => (HSF.out.below hb).setF hix' (v := v) (p := p) (WF := W1) h)
      have hcf := fun j u hu => own_cell HSF.out.f j u hu
      have HfrF := hid_ (fun j => own_frozen HSF.out.f j)
      have HFs := hid_ (fun y => set_fst hix' (y := y) HFx.out)
      generalize fx'[i] = x at *
      obtain ⟨fd, vv, pv⟩ := x
      have hv1 : RowZ w vv fd.vars.length (flatV fd.vars) := hfo.1
      have hp1 : RowZ w pv fd.params.length (flatV fd.params) := hfo.2
      have hfb1 : fd.vars.length * 24 ≤ 140737488351232 := hfb.1
      have hfb2 : fd.params.length * 24 ≤ 140737488351232 := hfb.2
      obtain ⟨Av, cv, rfl⟩ := hv1.1.form
      obtain ⟨Ap, cp, rfl⟩ := hp1.1.form
      have HV := hid_ hv1
      have HPp := hid_ hp1
      have t0 : wr.cell? ⟨g0, i * 5, none⟩ = some (.string (st fd.name)) := hcf (i * 5) _ (hfa 0 (by omega))
      have t1 : wr.cell? ⟨g0, i * 5 + 1, none⟩ = some (.slice Av fd.vars.length cv) := hcf (i * 5 + 1) _ (hfa 1 (by omega))
      have t2 : wr.cell? ⟨g0, i * 5 + 2, none⟩ = some (.slice Ap fd.params.length cp) := hcf (i * 5 + 2) _ (hfa 2 (by omega))
      have t3 : wr.cell? ⟨g0, i * 5 + 3, none⟩ = some (.int .i64 fd.ret) := hcf (i * 5 + 3) _ (hfa 3 (by omega))
      have t4 : wr.cell? ⟨g0, i * 5 + 4, none⟩ = some (.int .i64 fd.body) := hcf (i * 5 + 4) _ (hfa 4 (by omega))
      have hgb : w.heap.size ≠ g0 := fun e => own_blk_ne HS1.out.f HS1.out.a0 (by decide) (by rw [e]; rfl)
      have hgl := own_lt HS1.out.f (k := g0) rfl
      have Hgl := hid_ hgl
      have Hgb := hid_ hgb
      have HE1 := hid_ (show (flatF fx')[i * 5 + 1]? = some (.slice Av fd.vars.length cv) from hfa 1 (by omega))
      have HE2 := hid_ (show (flatF fx')[i * 5 + 2]? = some (.slice Ap fd.params.length cp) from hfa 2 (by omega))
      clear hcf hfa hfo hfb hv1 hp1 hxe hxx hgb hgl
      have HLen := hid_ hlen
      clear hlen hix hix'
      go_upto_region 5 with fail
      have HFb := hid_ (Blk.new wr 54 #[.string (st fd.name), .slice Av fd.vars.length cv, .slice Ap fd.params.length cp, .int .i64 fd.ret, .int .i64 fd.body])
      have HBw := hid_ (below_alloc wr (.cells #[.string (st fd.name), .slice Av fd.vars.length cv, .slice Ap fd.params.length cp, .int .i64 fd.ret, .int .i64 fd.body] 54))
      generalize wr.alloc (.cells #[.string (st fd.name), .slice Av fd.vars.length cv, .slice Ap fd.params.length cp, .int .i64 fd.ret, .int .i64 fd.body] 54) = W4 at *
      obtain ⟨fb, hfb⟩ : ∃ fb, fb = wr.heap.size := ⟨_, rfl⟩
      rw [← hfb] at HFb ⊢
      have Hfb := hid_ (show fb ≠ g0 from by have := Hgl.out; omega)
      clear hfb t0 t1 t2 t3 t4
      have HB4 := hid_ (HS1.out.bel.trans (HBw.out.mono HS1.out.bel.size))
      have HFB := hid_ (fun (W' : World) (hb : Below W4.heap.size W4 W') => (show W'.cell? ⟨w.heap.size, 3, none⟩ = some (.slice (some ⟨g0, 0, none⟩) m.fns.length y3) ∧ W'.cell? ⟨fb, 1, none⟩ = some (.slice Av fd.vars.length cv) ∧ W'.cell? ⟨fb, 2, none⟩ = some (.slice Ap fd.params.length cp) from by
        have h := HFb.out.kp (Kp.of_below hb fun _ => False) id
        have h' := HS1.out.a0.kp (Kp.of_below (HBw.out.trans (hb.mono HBw.out.size)) fun _ => False) id
        exact ⟨h'.cell 3, h.cell 1, h.cell 2⟩))
      have RB := hid_ (show Below W4.heap.size W4 W4.drew from (Below.refl _ _).drew)
      have HP := hid_ (HFB.out _ RB.out)
      have FRZ := hid_ (fun (W' : World) (hb : Below W4.heap.size W4 W') => (show (∀ j, W'.frozen? ⟨g0, j, none⟩ = false) ∧ W'.cell? ⟨g0, i * 5 + 1, none⟩ = some (.slice Av fd.vars.length cv) ∧ (∀ u, (W'.setCell ⟨g0, i * 5 + 1, none⟩ u).cell? ⟨g0, i * 5 + 2, none⟩ = some (.slice Ap fd.params.length cp)) from by
        have h := own_kp HSF.out.f (Kp.of_below (HBw.out.trans (hb.mono HBw.out.size)) fun _ => False) (fun _ _ e => e)
        refine ⟨fun j => own_frozen h j, own_cell h _ _ HE1.out, fun u => ?_⟩
        rw [World.cell?_setCell_other _ _ _ _ (by intro e; injection e with e1 e2; omega)]
        exact own_cell h _ _ HE2.out))
      refine wp_regionL (fun W' : World => W'.cell? ⟨w.heap.size, 3, none⟩ = some (.slice (some ⟨g0, 0, none⟩) m.fns.length y3) ∧ W'.cell? ⟨fb, 1, none⟩ = some (.slice Av fd.vars.length cv) ∧ W'.cell? ⟨fb, 2, none⟩ = some (.slice Ap fd.params.length cp)) [] (by kernel_rfl) ?_
      refine wpAnyL_take [] (i := 0) (v := ?vf0) rfl (by kernel_rfl) (by kernel_rfl) (by kernel_rfl) (by kernel_rfl) (by kernel_rfl) (by kernel_rfl) (fun _ _ _ h => h) HP.out (Or.inl ⟨by rfl, ?hyf0⟩) ?restf0
      case hyf0 => (intro w hw; obtain ⟨hw1, hw2, hw3⟩ := hw; go_simp; with_reducible rfl)
      try simp only [Act.put, List.getElem_toArray, List.getElem_cons_zero, List.setIfInBounds_toArray, List.set_cons_zero, List.set_cons_succ]
      refine wpAnyL_take [] (i := 1) (v := ?vf1) rfl (by kernel_rfl) (by kernel_rfl) (by kernel_rfl) (by kernel_rfl) (by kernel_rfl) (by kernel_rfl) (fun _ _ _ h => h) HP.out (Or.inl ⟨by rfl, ?hyf1⟩) ?restf1
      case hyf1 => (intro w hw; obtain ⟨hw1, hw2, hw3⟩ := hw; go_simp; with_reducible rfl)
      try simp only [Act.put, List.getElem_toArray, List.getElem_cons_succ, List.getElem_cons_zero, List.setIfInBounds_toArray, List.set_cons_zero, List.set_cons_succ]
      refine wpAnyL_take [] (i := 2) (v := ?vf2) rfl (by kernel_rfl) (by kernel_rfl) (by kernel_rfl) (by kernel_rfl) (by kernel_rfl) (by kernel_rfl) (fun _ _ _ h => h) HP.out (Or.inl ⟨by rfl, ?hyf2⟩) ?restf2
      case hyf2 => (intro w hw; obtain ⟨hw1, hw2, hw3⟩ := hw; go_simp; with_reducible rfl)
      try simp only [Act.put, List.getElem_toArray, List.getElem_cons_succ, List.getElem_cons_zero, List.setIfInBounds_toArray, List.set_cons_zero, List.set_cons_succ]
      refine wpAnyL_take [] (i := 3) (v := ?vf3) rfl (by kernel_rfl) (by kernel_rfl) (by kernel_rfl) (by kernel_rfl) (by kernel_rfl) (by kernel_rfl) (fun _ _ _ h => h) HP.out (Or.inl ⟨by rfl, ?hyf3⟩) ?restf3
      case hyf3 => (intro w hw; obtain ⟨hw1, hw2, hw3⟩ := hw; go_simp; with_reducible rfl)
      try simp only [Act.put, List.getElem_toArray, List.getElem_cons_succ, List.getElem_cons_zero, List.setIfInBounds_toArray, List.set_cons_zero, List.set_cons_succ]
      refine wpAnyL_take [] (i := 4) (v := ?vf4) rfl (by kernel_rfl) (by kernel_rfl) (by kernel_rfl) (by kernel_rfl) (by kernel_rfl) (by kernel_rfl) (fun _ _ _ h => h) HP.out (Or.inl ⟨by rfl, ?hyf4⟩) ?restf4
      case hyf4 => (intro w hw; obtain ⟨hw1, hw2, hw3⟩ := hw; go_simp; with_reducible rfl)
      try simp only [Act.put, List.getElem_toArray, List.getElem_cons_succ, List.getElem_cons_zero, List.setIfInBounds_toArray, List.set_cons_zero, List.set_cons_succ]
      refine wpAnyL_take [] (i := 5) (v := ?vf5) rfl (by kernel_rfl) (by kernel_rfl) (by kernel_rfl) (by kernel_rfl) (by kernel_rfl) (by kernel_rfl) (fun _ _ _ h => h) HP.out (Or.inl ⟨by rfl, ?hyf5⟩) ?restf5
      case hyf5 => (intro w hw; obtain ⟨hw1, hw2, hw3⟩ := hw; go_simp; with_reducible rfl)
      try simp only [Act.put, List.getElem_toArray, List.getElem_cons_succ, List.getElem_cons_zero, List.setIfInBounds_toArray, List.set_cons_zero, List.set_cons_succ]
      refine wpAnyL_take [] (i := 6) (v := ?vf6) rfl (by kernel_rfl) (by kernel_rfl) (by kernel_rfl) (by kernel_rfl) (by kernel_rfl) (by kernel_rfl) (fun _ _ _ h => h) HP.out (Or.inl ⟨by rfl, ?hyf6⟩) ?restf6
      case hyf6 => (intro w hw; obtain ⟨hw1, hw2, hw3⟩ := hw; go_simp; with_reducible rfl)
      try simp only [Act.put, List.getElem_toArray, List.getElem_cons_succ, List.getElem_cons_zero, List.setIfInBounds_toArray, List.set_cons_zero, List.set_cons_succ]
      refine wpAnyL_take [] (i := 7) (v := ?vf7) rfl (by kernel_rfl) (by kernel_rfl) (by kernel_rfl) (by kernel_rfl) (by kernel_rfl) (by kernel_rfl) (fun _ _ _ h => h) HP.out (Or.inl ⟨by rfl, ?hyf7⟩) ?restf7
      case hyf7 => (intro w hw; obtain ⟨hw1, hw2, hw3⟩ := hw; go_simp; with_reducible rfl)
      try simp only [Act.put, List.getElem_toArray, List.getElem_cons_succ, List.getElem_cons_zero, List.setIfInBounds_toArray, List.set_cons_zero, List.set_cons_succ]
      refine wpAnyL_take [] (i := 9) (v := ?vf9) rfl (by kernel_rfl) (by kernel_rfl) (by kernel_rfl) (by kernel_rfl) (by kernel_rfl) (by kernel_rfl) (fun _ _ _ h => h) HP.out (Or.inl ⟨by rfl, ?hyf9⟩) ?restf9
      case hyf9 => (intro w hw; obtain ⟨hw1, hw2, hw3⟩ := hw; go_simp; with_reducible rfl)
      try simp only [Act.put, List.getElem_toArray, List.getElem_cons_succ, List.getElem_cons_zero, List.setIfInBounds_toArray, List.set_cons_zero, List.set_cons_succ]
      refine wpAnyL_take [] (i := 10) (v := ?vf10) rfl (by kernel_rfl) (by kernel_rfl) (by kernel_rfl) (by kernel_rfl) (by kernel_rfl) (by kernel_rfl) (fun _ _ _ h => h) HP.out (Or.inl ⟨by rfl, ?hyf10⟩) ?restf10
      case hyf10 => (intro w hw; obtain ⟨hw1, hw2, hw3⟩ := hw; go_simp; with_reducible rfl)
      try simp only [Act.put, List.getElem_toArray, List.getElem_cons_succ, List.getElem_cons_zero, List.setIfInBounds_toArray, List.set_cons_zero, List.set_cons_succ]
      refine wpAnyL_step (i := 8) (by kernel_rfl) rfl (fun K hK => ?_)
      go_simp
      go_at_call 50
      refine (cloneVar_c (HV.out.below (HB4.out.trans (RB.out.mono HB4.out.size))) (flatV_len _) (flatV_one _) (by omega)).mono ?_
      intro e x1 hE
      obtain ⟨v1, rfl, hown, hb⟩ := hE
      obtain ⟨C1, d1, rfl⟩ := own_form hown
      have HV1 := hid_ (ownsRow_base hown (Nat.le_trans HB4.out.size RB.out.size))
      have RB := hid_ (RB.out.trans (hb.mono RB.out.size))
      clear hown hb HP
      refine hK.out _ _ (fun _ => HFB.out _ RB.out) ?_
      clear hK K
      have HP := hid_ (HFB.out _ RB.out)
      try simp only [Act.put, List.getElem_toArray, List.getElem_cons_succ, List.getElem_cons_zero, List.setIfInBounds_toArray, List.set_cons_zero, List.set_cons_succ]
      refine wpAnyL_step (i := 11) (by kernel_rfl) rfl (fun K hK => ?_)
      go_simp
      go_at_call 50
      refine (cloneVar_c (HPp.out.below (HB4.out.trans (RB.out.mono HB4.out.size))) (flatV_len _) (flatV_one _) (by omega)).mono ?_
      intro e x2 hE
      obtain ⟨v2, rfl, hown, hb⟩ := hE
      obtain ⟨C2, d2, rfl⟩ := own_form hown
      have HV1 := hid_ (own_kp HV1.out (Kp.of_below hb fun _ => False) (fun _ _ e => e))
      have HV2 := hid_ (ownsRow_base hown (Nat.le_trans HB4.out.size RB.out.size))
      have RB := hid_ (RB.out.trans (hb.mono RB.out.size))
      clear hown hb HP
      refine hK.out _ _ (fun _ => HFB.out _ RB.out) ?_
      clear hK K
      have HP := hid_ (HFB.out _ RB.out)
      try simp only [Act.put, List.getElem_toArray, List.getElem_cons_succ, List.getElem_cons_zero, List.setIfInBounds_toArray, List.set_cons_zero, List.set_cons_succ]
      have HFar := hid_ (fun (W' : World) (hp : (fun W' : World => W'.cell? ⟨w.heap.size, 3, none⟩ = some (.slice (some ⟨g0, 0, none⟩) m.fns.length y3) ∧ W'.cell? ⟨fb, 1, none⟩ = some (.slice Av fd.vars.length cv) ∧ W'.cell? ⟨fb, 2, none⟩ = some (.slice Ap fd.params.length cp)) W') (j : Nat) (u : Value) => (show (fun W' : World => W'.cell? ⟨w.heap.size, 3, none⟩ = some (.slice (some ⟨g0, 0, none⟩) m.fns.length y3) ∧ W'.cell? ⟨fb, 1, none⟩ = some (.slice Av fd.vars.length cv) ∧ W'.cell? ⟨fb, 2, none⟩ = some (.slice Ap fd.params.length cp)) (W'.setCell ⟨g0, j, none⟩ u) from ⟨(World.cell?_setCell_far _ _ _ _ (Ne.symm Hgb.out)).trans hp.1, (World.cell?_setCell_far _ _ _ _ (Ne.symm Hfb.out)).trans hp.2.1, (World.cell?_setCell_far _ _ _ _ (Ne.symm Hfb.out)).trans hp.2.2⟩))
      have HFr := hid_ (FRZ.out _ RB.out)
      refine wpAnyL_step (i := 12) (by kernel_rfl) rfl (fun K hK => ?_)
      obtain ⟨p1, p2, p3⟩ := HP.out
      go_simp
      clear p1 p2 p3
      refine hK.out _ _ (fun _ => HP.out) ?_
      clear hK K
      try simp only [Act.put, List.getElem_toArray, List.getElem_cons_succ, List.getElem_cons_zero, List.setIfInBounds_toArray, List.set_cons_zero, List.set_cons_succ]
      refine wpAnyL_step (i := 13) (by kernel_rfl) rfl (fun K hK => ?_)
      obtain ⟨p1, p2, p3⟩ := HP.out
      go_simp
      clear p1 p2 p3
      refine hK.out _ _ (fun _ => HP.out) ?_
      clear hK K
      try simp only [Act.put, List.getElem_toArray, List.getElem_cons_succ, List.getElem_cons_zero, List.setIfInBounds_toArray, List.set_cons_zero, List.set_cons_succ]
      refine wpAnyL_step (i := 14) (by kernel_rfl) rfl (fun K hK => ?_)
      have fz := HFr.out.1
      have fc := HFr.out.2.1
      obtain ⟨p1, p2, p3⟩ := HP.out
      go_simp
      clear p1 p2 p3 fz fc
      refine hK.out _ _ (fun _ => HFar.out _ HP.out _ _) ?_
      clear hK K
      have HP := hid_ (HFar.out _ HP.out (i * 5 + 1) (.slice C1 fd.vars.length d1))
      try simp only [Act.put, List.getElem_toArray, List.getElem_cons_succ, List.getElem_cons_zero, List.setIfInBounds_toArray, List.set_cons_zero, List.set_cons_succ]
      refine wpAnyL_step (i := 15) (by kernel_rfl) rfl (fun K hK => ?_)
      obtain ⟨p1, p2, p3⟩ := HP.out
      go_simp
      clear p1 p2 p3
      refine hK.out _ _ (fun _ => HP.out) ?_
      clear hK K
      try simp only [Act.put, List.getElem_toArray, List.getElem_cons_succ, List.getElem_cons_zero, List.setIfInBounds_toArray, List.set_cons_zero, List.set_cons_succ]
      refine wpAnyL_step (i := 16) (by kernel_rfl) rfl (fun K hK => ?_)
      obtain ⟨p1, p2, p3⟩ := HP.out
      go_simp
      clear p1 p2 p3
      refine hK.out _ _ (fun _ => HP.out) ?_
      clear hK K
      try simp only [Act.put, List.getElem_toArray, List.getElem_cons_succ, List.getElem_cons_zero, List.setIfInBounds_toArray, List.set_cons_zero, List.set_cons_succ]
      refine wpAnyL_step (i := 17) (by kernel_rfl) rfl (fun K hK => ?_)
      have fz := HFr.out.1
      have fc := HFr.out.2.2 (.slice C1 fd.vars.length d1)
      obtain ⟨p1, p2, p3⟩ := HP.out
      go_simp
      clear p1 p2 p3 fz fc
      refine hK.out _ _ (fun _ => HFar.out _ HP.out _ _) ?_
      clear hK K
      try simp only [Act.put, List.getElem_toArray, List.getElem_cons_succ, List.getElem_cons_zero, List.setIfInBounds_toArray, List.set_cons_zero, List.set_cons_succ]
      refine wpAnyL_done (by kernel_rfl) ?_ _
      have HBx := hid_ (HBw.out.trans (RB.out.mono HBw.out.size))
      have HSn := hid_ (HUp.out _ HBx.out _ _ _ HV1.out HV2.out rfl)
      have HSm := hid_ (show TcS w ((x2.setCell ⟨g0, i * 5 + 1, none⟩ (.slice C1 fd.vars.length d1)).setCell ⟨g0, i * 5 + 2, none⟩ (.slice C2 fd.params.length d2)) w.heap.size (w.heap.size + 1) (.string (st m.name)) (.slice Z1 m.imports.length y1) (.slice Z2 m.types.length y2) (.slice (some ⟨g0, 0, none⟩) m.fns.length y3) (.slice Z4 m.nodes.length y4) m.imports m.types (fx'.set i (fd, .slice C1 fd.vars.length d1, .slice C2 fd.params.length d2)) (i + 1) nx 0 from by
        have := HSn.out
        rw [HLen.out] at this
        exact this)
      go_wp2_with fail
      go_roundg (gk - 1)
      case rel => exact ⟨i + 1, _, by go_num, by omega, HFs.out _, set_rest HRe.out, HSm.out, by omega⟩
      case measure => omega
    · obtain rfl : i = m.fns.length := by omega
      clear hi hg hlt
      have hlen : fx'.length = m.fns.length := by rw [← HFx.out, List.length_map]
      have HLen := hid_ hlen
      clear hlen
      have c4 : wr.cell? ⟨w.heap.size, 4, none⟩ = some (.slice Z4 m.nodes.length y4) := HS1.out.a0.cell 4
      go_wp2_with fail
      clear c4
      obtain ⟨wo, rfl⟩ : ∃ wo : World, wo = wr := ⟨_, rfl⟩
      obtain ⟨gk0, rfl⟩ : ∃ g, g = gk := ⟨_, rfl⟩
      go_loopg [5, 6, 51] (m.nodes.length + 1) (fun g _ _ v51 wr => ∃ (i : Nat) (nx' : List Nx), v51 = .int .i64 i ∧ i ≤ m.nodes.length ∧ nx'.map (·.1) = m.nodes ∧ (∀ j, i ≤ j → nx'[j]? = nx[j]?) ∧ TcS w wr w.heap.size (w.heap.size + 1) (.string (st m.name)) (.slice Z1 m.imports.length y1) (.slice Z2 m.types.length y2) (.slice Z3 m.fns.length y3) (.slice Z4 m.nodes.length y4) m.imports m.types fx' m.fns.length nx' i ∧ m.nodes.length - i + 1 ≤ g)
      case atStart => exact ⟨0, nx, rfl, by omega, HM.out.ne, fun _ _ => rfl, HS1.out, by omega⟩
      case round =>
        clear HS1
        obtain ⟨i, nx', rfl, hi, hnx, hre, hs, hg⟩ := hrel
        have HS1 := hid_ hs
        have HNx := hid_ hnx
        have HRe := hid_ hre
        clear hs hnx hre
        by_cases hlt : i < m.nodes.length
        · have b0 : (0 : Int) ≤ (i : Int) := by omega
          have b1' : (i : Int) < (m.nodes.length : Int) := by omega
          have hlen : nx'.length = m.nodes.length := by rw [← HNx.out, List.length_map]
          have hix : i < nx.length := by omega
          have hix' : i < nx'.length := by omega
          obtain ⟨g1, c1, hz⟩ := own_head HS1.out.n (by omega)
          injection hz with hz hzl hzc
          clear hzl
          subst hz hzc
          obtain ⟨_, hxe⟩ := map_at HM.out.ne i hlt
          have hno := HM.out.no _ (List.getElem_mem hix)
          have hnb := HM.out.sz.nb _ (List.getElem_mem hlt)
          rw [hxe] at hnb
          have hxx : nx'[i] = nx[i] := by
            have := HRe.out i (Nat.le_refl _)
            rw [List.getElem?_eq_getElem hix', List.getElem?_eq_getElem hix] at this
            injection this
          rw [← hxx] at hno hnb
          have hfa := fun j hj => flatN_getA nx' i hix' j hj
          have HSN := hid_ (show TcS w wr w.heap.size (w.heap.size + 1) (.string (st m.name)) (.slice Z1 m.imports.length y1) (.slice Z2 m.types.length y2) (.slice Z3 m.fns.length y3) (.slice (some ⟨g1, 0, none⟩) nx'.length y4) m.imports m.types fx' m.fns.length nx' i from by rw [hlen]; exact HS1.out)
          have HUp := hid_ (fun (W' : World) (hb : Below wr.heap.size wr W') (v p : Value) (W1 : World) h => (HSN.out.below hb).setN hix' (v := v) (p := p) (WF := W1) h)
          have hcf := fun j u hu => own_cell HSN.out.n j u hu
          have HFs := hid_ (fun y => set_fst hix' (y := y) HNx.out)
          generalize nx'[i] = x at *
          obtain ⟨nd, kv, lv⟩ := x
          have hk1 : RowZ w kv nd.keys.length (strs nd.keys) := hno.1
          have hl1 : RowZ w lv nd.l.length (ints nd.l) := hno.2
          have hnb1 : nd.keys.length * 16 ≤ 140737488351232 := hnb.1
          have hnb2 : nd.l.length * 8 ≤ 140737488351232 := hnb.2
          obtain ⟨Ak, ck, rfl⟩ := hk1.1.form
          obtain ⟨Al, cl, rfl⟩ := hl1.1.form
          have HK := hid_ hk1
          have HL := hid_ hl1
          have t0 : wr.cell? ⟨g1, i * 6, none⟩ = some (.int .i64 nd.kind) := hcf (i * 6) _ (hfa 0 (by omega))
          have t1 : wr.cell? ⟨g1, i * 6 + 1, none⟩ = some (.int .i64 nd.num) := hcf (i * 6 + 1) _ (hfa 1 (by omega))
          have t2 : wr.cell? ⟨g1, i * 6 + 2, none⟩ = some (.string (st nd.mod)) := hcf (i * 6 + 2) _ (hfa 2 (by omega))
          have t3 : wr.cell? ⟨g1, i * 6 + 3, none⟩ = some (.string (st nd.name)) := hcf (i * 6 + 3) _ (hfa 3 (by omega))
          have t4 : wr.cell? ⟨g1, i * 6 + 4, none⟩ = some (.slice Ak nd.keys.length ck) := hcf (i * 6 + 4) _ (hfa 4 (by omega))
          have t5 : wr.cell? ⟨g1, i * 6 + 5, none⟩ = some (.slice Al nd.l.length cl) := hcf (i * 6 + 5) _ (hfa 5 (by omega))
          have hgb : w.heap.size ≠ g1 := fun e => own_blk_ne HS1.out.n HS1.out.a0 (by decide) (by rw [e]; rfl)
          have hgl := own_lt HS1.out.n (k := g1) rfl
          have Hgl := hid_ hgl
          have Hgb := hid_ hgb
          have HE1 := hid_ (show (flatN nx')[i * 6 + 4]? = some (.slice Ak nd.keys.length ck) from hfa 4 (by omega))
          have HE2 := hid_ (show (flatN nx')[i * 6 + 5]? = some (.slice Al nd.l.length cl) from hfa 5 (by omega))
          clear hcf hfa hno hnb hk1 hl1 hxe hxx hgb hgl
          have HLen2 := hid_ hlen
          clear hlen hix hix'
          go_upto_region 10 with fail
          have HNb := hid_ (Blk.new wr 57 #[.int .i64 nd.kind, .int .i64 nd.num, .string (st nd.mod), .string (st nd.name), .slice Ak nd.keys.length ck, .slice Al nd.l.length cl])
          have HBw := hid_ (below_alloc wr (.cells #[.int .i64 nd.kind, .int .i64 nd.num, .string (st nd.mod), .string (st nd.name), .slice Ak nd.keys.length ck, .slice Al nd.l.length cl] 57))
          generalize wr.alloc (.cells #[.int .i64 nd.kind, .int .i64 nd.num, .string (st nd.mod), .string (st nd.name), .slice Ak nd.keys.length ck, .slice Al nd.l.length cl] 57) = W4 at *
          obtain ⟨nb, hnb⟩ : ∃ nb, nb = wr.heap.size := ⟨_, rfl⟩
          rw [← hnb] at HNb ⊢
          have Hnb := hid_ (show nb ≠ g1 from by have := Hgl.out; omega)
          clear hnb t0 t1 t2 t3 t4 t5
          have HB4 := hid_ (HS1.out.bel.trans (HBw.out.mono HS1.out.bel.size))
          have HFB := hid_ (fun (W' : World) (hb : Below W4.heap.size W4 W') => (show W'.cell? ⟨w.heap.size, 4, none⟩ = some (.slice (some ⟨g1, 0, none⟩) m.nodes.length y4) ∧ W'.cell? ⟨nb, 4, none⟩ = some (.slice Ak nd.keys.length ck) ∧ W'.cell? ⟨nb, 5, none⟩ = some (.slice Al nd.l.length cl) from by
            have h := HNb.out.kp (Kp.of_below hb fun _ => False) id
            have h' := HS1.out.a0.kp (Kp.of_below (HBw.out.trans (hb.mono HBw.out.size)) fun _ => False) id
            exact ⟨h'.cell 4, h.cell 4, h.cell 5⟩))
          have RB := hid_ (show Below W4.heap.size W4 W4.drew from (Below.refl _ _).drew)
          have HP := hid_ (HFB.out _ RB.out)
          have FRZ := hid_ (fun (W' : World) (hb : Below W4.heap.size W4 W') => (show (∀ j, W'.frozen? ⟨g1, j, none⟩ = false) ∧ W'.cell? ⟨g1, i * 6 + 4, none⟩ = some (.slice Ak nd.keys.length ck) ∧ (∀ u, (W'.setCell ⟨g1, i * 6 + 4, none⟩ u).cell? ⟨g1, i * 6 + 5, none⟩ = some (.slice Al nd.l.length cl)) from by
            have h := own_kp HSN.out.n (Kp.of_below (HBw.out.trans (hb.mono HBw.out.size)) fun _ => False) (fun _ _ e => e)
            refine ⟨fun j => own_frozen h j, own_cell h _ _ HE1.out, fun u => ?_⟩
            rw [World.cell?_setCell_other _ _ _ _ (by intro e; injection e with e1 e2; omega)]
            exact own_cell h _ _ HE2.out))
          refine wp_regionL (fun W' : World => W'.cell? ⟨w.heap.size, 4, none⟩ = some (.slice (some ⟨g1, 0, none⟩) m.nodes.length y4) ∧ W'.cell? ⟨nb, 4, none⟩ = some (.slice Ak nd.keys.length ck) ∧ W'.cell? ⟨nb, 5, none⟩ = some (.slice Al nd.l.length cl)) [] (by kernel_rfl) ?_
          refine wpAnyL_take [] (i := 0) (v := ?vn0) rfl (by kernel_rfl) (by kernel_rfl) (by kernel_rfl) (by kernel_rfl) (by kernel_rfl) (by kernel_rfl) (fun _ _ _ h => h) HP.out (Or.inl ⟨by rfl, ?hyn0⟩) ?restn0
          case hyn0 => (intro w hw; obtain ⟨hw1, hw2, hw3⟩ := hw; go_simp; with_reducible rfl)
          try simp only [Act.put, List.getElem_toArray, List.getElem_cons_zero, List.setIfInBounds_toArray, List.set_cons_zero, List.set_cons_succ]
          refine wpAnyL_take [] (i := 1) (v := ?vn1) rfl (by kernel_rfl) (by kernel_rfl) (by kernel_rfl) (by kernel_rfl) (by kernel_rfl) (by kernel_rfl) (fun _ _ _ h => h) HP.out (Or.inl ⟨by rfl, ?hyn1⟩) ?restn1
          case hyn1 => (intro w hw; obtain ⟨hw1, hw2, hw3⟩ := hw; go_simp; with_reducible rfl)
          try simp only [Act.put, List.getElem_toArray, List.getElem_cons_succ, List.getElem_cons_zero, List.setIfInBounds_toArray, List.set_cons_zero, List.set_cons_succ]
          refine wpAnyL_take [] (i := 2) (v := ?vn2) rfl (by kernel_rfl) (by kernel_rfl) (by kernel_rfl) (by kernel_rfl) (by kernel_rfl) (by kernel_rfl) (fun _ _ _ h => h) HP.out (Or.inl ⟨by rfl, ?hyn2⟩) ?restn2
          case hyn2 => (intro w hw; obtain ⟨hw1, hw2, hw3⟩ := hw; go_simp; with_reducible rfl)
          try simp only [Act.put, List.getElem_toArray, List.getElem_cons_succ, List.getElem_cons_zero, List.setIfInBounds_toArray, List.set_cons_zero, List.set_cons_succ]
          refine wpAnyL_take [] (i := 3) (v := ?vn3) rfl (by kernel_rfl) (by kernel_rfl) (by kernel_rfl) (by kernel_rfl) (by kernel_rfl) (by kernel_rfl) (fun _ _ _ h => h) HP.out (Or.inl ⟨by rfl, ?hyn3⟩) ?restn3
          case hyn3 => (intro w hw; obtain ⟨hw1, hw2, hw3⟩ := hw; go_simp; with_reducible rfl)
          try simp only [Act.put, List.getElem_toArray, List.getElem_cons_succ, List.getElem_cons_zero, List.setIfInBounds_toArray, List.set_cons_zero, List.set_cons_succ]
          refine wpAnyL_take [] (i := 4) (v := ?vn4) rfl (by kernel_rfl) (by kernel_rfl) (by kernel_rfl) (by kernel_rfl) (by kernel_rfl) (by kernel_rfl) (fun _ _ _ h => h) HP.out (Or.inl ⟨by rfl, ?hyn4⟩) ?restn4
          case hyn4 => (intro w hw; obtain ⟨hw1, hw2, hw3⟩ := hw; go_simp; with_reducible rfl)
          try simp only [Act.put, List.getElem_toArray, List.getElem_cons_succ, List.getElem_cons_zero, List.setIfInBounds_toArray, List.set_cons_zero, List.set_cons_succ]
          refine wpAnyL_take [] (i := 5) (v := ?vn5) rfl (by kernel_rfl) (by kernel_rfl) (by kernel_rfl) (by kernel_rfl) (by kernel_rfl) (by kernel_rfl) (fun _ _ _ h => h) HP.out (Or.inl ⟨by rfl, ?hyn5⟩) ?restn5
          case hyn5 => (intro w hw; obtain ⟨hw1, hw2, hw3⟩ := hw; go_simp; with_reducible rfl)
          try simp only [Act.put, List.getElem_toArray, List.getElem_cons_succ, List.getElem_cons_zero, List.setIfInBounds_toArray, List.set_cons_zero, List.set_cons_succ]
          refine wpAnyL_take [] (i := 6) (v := ?vn6) rfl (by kernel_rfl) (by kernel_rfl) (by kernel_rfl) (by kernel_rfl) (by kernel_rfl) (by kernel_rfl) (fun _ _ _ h => h) HP.out (Or.inl ⟨by rfl, ?hyn6⟩) ?restn6
          case hyn6 => (intro w hw; obtain ⟨hw1, hw2, hw3⟩ := hw; go_simp; with_reducible rfl)
          try simp only [Act.put, List.getElem_toArray, List.getElem_cons_succ, List.getElem_cons_zero, List.setIfInBounds_toArray, List.set_cons_zero, List.set_cons_succ]
          refine wpAnyL_take [] (i := 7) (v := ?vn7) rfl (by kernel_rfl) (by kernel_rfl) (by kernel_rfl) (by kernel_rfl) (by kernel_rfl) (by kernel_rfl) (fun _ _ _ h => h) HP.out (Or.inl ⟨by rfl, ?hyn7⟩) ?restn7
          case hyn7 => (intro w hw; obtain ⟨hw1, hw2, hw3⟩ := hw; go_simp; with_reducible rfl)
          try simp only [Act.put, List.getElem_toArray, List.getElem_cons_succ, List.getElem_cons_zero, List.setIfInBounds_toArray, List.set_cons_zero, List.set_cons_succ]
          refine wpAnyL_take [] (i := 9) (v := ?vn9) rfl (by kernel_rfl) (by kernel_rfl) (by kernel_rfl) (by kernel_rfl) (by kernel_rfl) (by kernel_rfl) (fun _ _ _ h => h) HP.out (Or.inl ⟨by rfl, ?hyn9⟩) ?restn9
          case hyn9 => (intro w hw; obtain ⟨hw1, hw2, hw3⟩ := hw; go_simp; with_reducible rfl)
          try simp only [Act.put, List.getElem_toArray, List.getElem_cons_succ, List.getElem_cons_zero, List.setIfInBounds_toArray, List.set_cons_zero, List.set_cons_succ]
          refine wpAnyL_take [] (i := 10) (v := ?vn10) rfl (by kernel_rfl) (by kernel_rfl) (by kernel_rfl) (by kernel_rfl) (by kernel_rfl) (by kernel_rfl) (fun _ _ _ h => h) HP.out (Or.inl ⟨by rfl, ?hyn10⟩) ?restn10
          case hyn10 => (intro w hw; obtain ⟨hw1, hw2, hw3⟩ := hw; go_simp; with_reducible rfl)
          try simp only [Act.put, List.getElem_toArray, List.getElem_cons_succ, List.getElem_cons_zero, List.setIfInBounds_toArray, List.set_cons_zero, List.set_cons_succ]
          refine wpAnyL_step (i := 8) (by kernel_rfl) rfl (fun K hK => ?_)
          go_simp
          go_at_call 46
          refine (cloneStr_c (HK.out.below (HB4.out.trans (RB.out.mono HB4.out.size))) (strs_len _) (strs_one _) (by omega)).mono ?_
          intro e x1 hE
          obtain ⟨v1, rfl, hown, hb⟩ := hE
          obtain ⟨C1, d1, rfl⟩ := own_form hown
          have HV1 := hid_ (ownsRow_base hown (Nat.le_trans HB4.out.size RB.out.size))
          have RB := hid_ (RB.out.trans (hb.mono RB.out.size))
          clear hown hb HP
          refine hK.out _ _ (fun _ => HFB.out _ RB.out) ?_
          clear hK K
          have HP := hid_ (HFB.out _ RB.out)
          try simp only [Act.put, List.getElem_toArray, List.getElem_cons_succ, List.getElem_cons_zero, List.setIfInBounds_toArray, List.set_cons_zero, List.set_cons_succ]
          refine wpAnyL_step (i := 11) (by kernel_rfl) rfl (fun K hK => ?_)
          go_simp
          go_at_call 51
          refine (cloneInt_c (HL.out.below (HB4.out.trans (RB.out.mono HB4.out.size))) (ints_len _) (ints_one _) (by omega)).mono ?_
          intro e x2 hE
          obtain ⟨v2, rfl, hown, hb⟩ := hE
          obtain ⟨C2, d2, rfl⟩ := own_form hown
          have HV1 := hid_ (own_kp HV1.out (Kp.of_below hb fun _ => False) (fun _ _ e => e))
          have HV2 := hid_ (ownsRow_base hown (Nat.le_trans HB4.out.size RB.out.size))
          have RB := hid_ (RB.out.trans (hb.mono RB.out.size))
          clear hown hb HP
          refine hK.out _ _ (fun _ => HFB.out _ RB.out) ?_
          clear hK K
          have HP := hid_ (HFB.out _ RB.out)
          try simp only [Act.put, List.getElem_toArray, List.getElem_cons_succ, List.getElem_cons_zero, List.setIfInBounds_toArray, List.set_cons_zero, List.set_cons_succ]
          have HFar := hid_ (fun (W' : World) (hp : (fun W' : World => W'.cell? ⟨w.heap.size, 4, none⟩ = some (.slice (some ⟨g1, 0, none⟩) m.nodes.length y4) ∧ W'.cell? ⟨nb, 4, none⟩ = some (.slice Ak nd.keys.length ck) ∧ W'.cell? ⟨nb, 5, none⟩ = some (.slice Al nd.l.length cl)) W') (j : Nat) (u : Value) => (show (fun W' : World => W'.cell? ⟨w.heap.size, 4, none⟩ = some (.slice (some ⟨g1, 0, none⟩) m.nodes.length y4) ∧ W'.cell? ⟨nb, 4, none⟩ = some (.slice Ak nd.keys.length ck) ∧ W'.cell? ⟨nb, 5, none⟩ = some (.slice Al nd.l.length cl)) (W'.setCell ⟨g1, j, none⟩ u) from ⟨(World.cell?_setCell_far _ _ _ _ (Ne.symm Hgb.out)).trans hp.1, (World.cell?_setCell_far _ _ _ _ (Ne.symm Hnb.out)).trans hp.2.1, (World.cell?_setCell_far _ _ _ _ (Ne.symm Hnb.out)).trans hp.2.2⟩))
          have HFr := hid_ (FRZ.out _ RB.out)
          refine wpAnyL_step (i := 12) (by kernel_rfl) rfl (fun K hK => ?_)
          obtain ⟨p1, p2, p3⟩ := HP.out
          go_simp
          clear p1 p2 p3
          refine hK.out _ _ (fun _ => HP.out) ?_
          clear hK K
          try simp only [Act.put, List.getElem_toArray, List.getElem_cons_succ, List.getElem_cons_zero, List.setIfInBounds_toArray, List.set_cons_zero, List.set_cons_succ]
          refine wpAnyL_step (i := 13) (by kernel_rfl) rfl (fun K hK => ?_)
          obtain ⟨p1, p2, p3⟩ := HP.out
          go_simp
          clear p1 p2 p3
          refine hK.out _ _ (fun _ => HP.out) ?_
          clear hK K
          try simp only [Act.put, List.getElem_toArray, List.getElem_cons_succ, List.getElem_cons_zero, List.setIfInBounds_toArray, List.set_cons_zero, List.set_cons_succ]
          refine wpAnyL_step (i := 14) (by kernel_rfl) rfl (fun K hK => ?_)
          have fz := HFr.out.1
          have fc := HFr.out.2.1
          obtain ⟨p1, p2, p3⟩ := HP.out
          go_simp
          clear p1 p2 p3 fz fc
          refine hK.out _ _ (fun _ => HFar.out _ HP.out _ _) ?_
          clear hK K
          have HP := hid_ (HFar.out _ HP.out (i * 6 + 4) (.slice C1 nd.keys.length d1))
          try simp only [Act.put, List.getElem_toArray, List.getElem_cons_succ, List.getElem_cons_zero, List.setIfInBounds_toArray, List.set_cons_zero, List.set_cons_succ]
          refine wpAnyL_step (i := 15) (by kernel_rfl) rfl (fun K hK => ?_)
          obtain ⟨p1, p2, p3⟩ := HP.out
          go_simp
          clear p1 p2 p3
          refine hK.out _ _ (fun _ => HP.out) ?_
          clear hK K
          try simp only [Act.put, List.getElem_toArray, List.getElem_cons_succ, List.getElem_cons_zero, List.setIfInBounds_toArray, List.set_cons_zero, List.set_cons_succ]
          refine wpAnyL_step (i := 16) (by kernel_rfl) rfl (fun K hK => ?_)
          obtain ⟨p1, p2, p3⟩ := HP.out
          go_simp
          clear p1 p2 p3
          refine hK.out _ _ (fun _ => HP.out) ?_
          clear hK K
          try simp only [Act.put, List.getElem_toArray, List.getElem_cons_succ, List.getElem_cons_zero, List.setIfInBounds_toArray, List.set_cons_zero, List.set_cons_succ]
          refine wpAnyL_step (i := 17) (by kernel_rfl) rfl (fun K hK => ?_)
          have fz := HFr.out.1
          have fc := HFr.out.2.2 (.slice C1 nd.keys.length d1)
          obtain ⟨p1, p2, p3⟩ := HP.out
          go_simp
          clear p1 p2 p3 fz fc
          refine hK.out _ _ (fun _ => HFar.out _ HP.out _ _) ?_
          clear hK K
          try simp only [Act.put, List.getElem_toArray, List.getElem_cons_succ, List.getElem_cons_zero, List.setIfInBounds_toArray, List.set_cons_zero, List.set_cons_succ]
          refine wpAnyL_done (by kernel_rfl) ?_ _
          have HBx := hid_ (HBw.out.trans (RB.out.mono HBw.out.size))
          have HSn := hid_ (HUp.out _ HBx.out _ _ _ HV1.out HV2.out rfl)
          have HSm := hid_ (show TcS w ((x2.setCell ⟨g1, i * 6 + 4, none⟩ (.slice C1 nd.keys.length d1)).setCell ⟨g1, i * 6 + 5, none⟩ (.slice C2 nd.l.length d2)) w.heap.size (w.heap.size + 1) (.string (st m.name)) (.slice Z1 m.imports.length y1) (.slice Z2 m.types.length y2) (.slice Z3 m.fns.length y3) (.slice (some ⟨g1, 0, none⟩) m.nodes.length y4) m.imports m.types fx' m.fns.length (nx'.set i (nd, .slice C1 nd.keys.length d1, .slice C2 nd.l.length d2)) (i + 1) from by
            have := HSn.out
            rw [HLen2.out] at this
            exact this)
          go_wp2_with fail
          go_roundg (gk - 1)
          case rel => exact ⟨i + 1, _, by go_num, by omega, HFs.out _, set_rest HRe.out, HSm.out, by omega⟩
          case measure => omega
        · obtain rfl : i = m.nodes.length := by omega
          clear hi hg hlt
          have hlen2 : nx'.length = m.nodes.length := by rw [← HNx.out, List.length_map]
          have HS2 := hid_ (show TcS w wr w.heap.size (w.heap.size + 1) (.string (st m.name)) (.slice Z1 m.imports.length y1) (.slice Z2 m.types.length y2) (.slice Z3 m.fns.length y3) (.slice Z4 m.nodes.length y4) m.imports m.types fx' fx'.length nx' nx'.length from by
            rw [hlen2, HLen.out]
            exact HS1.out)
          clear hlen2
          have s0 : wr.cell? ⟨w.heap.size, 0, none⟩ = some (.string (st m.name)) := HS1.out.a0.cell 0
          have s1 : wr.cell? ⟨w.heap.size, 1, none⟩ = some (.slice Z1 m.imports.length y1) := HS1.out.a0.cell 1
          have s2 : wr.cell? ⟨w.heap.size, 2, none⟩ = some (.slice Z2 m.types.length y2) := HS1.out.a0.cell 2
          have s3 : wr.cell? ⟨w.heap.size, 3, none⟩ = some (.slice Z3 m.fns.length y3) := HS1.out.a0.cell 3
          have s4 : wr.cell? ⟨w.heap.size, 4, none⟩ = some (.slice Z4 m.nodes.length y4) := HS1.out.a0.cell 4
          have z0 : wr.cell? ⟨w.heap.size + 1, 0, none⟩ = some (.string ⟨#[]⟩) := HS1.out.a1.cell 0
          have z1 : wr.cell? ⟨w.heap.size + 1, 1, none⟩ = some (.slice none 0 0) := HS1.out.a1.cell 1
          have z2 : wr.cell? ⟨w.heap.size + 1, 2, none⟩ = some (.slice none 0 0) := HS1.out.a1.cell 2
          have z3 : wr.cell? ⟨w.heap.size + 1, 3, none⟩ = some (.slice none 0 0) := HS1.out.a1.cell 3
          have z4 : wr.cell? ⟨w.heap.size + 1, 4, none⟩ = some (.slice none 0 0) := HS1.out.a1.cell 4
          have f0 := HS1.out.a1.frozen 0
          have f1 := HS1.out.a1.frozen 1
          have f2 := HS1.out.a1.frozen 2
          have f3 := HS1.out.a1.frozen 3
          have f4 := HS1.out.a1.frozen 4
          obtain ⟨g1, g2, g3⟩ := HS2.out.done HM.out.sz HFx.out HNx.out (by omega) rfl
          have y0' := g1.cell 0
          have y1' := g1.cell 1
          have y2' := g1.cell 2
          have y3' := g1.cell 3
          have y4' := g1.cell 4
          have HY := hid_ (And.intro y0' (And.intro y1' (And.intro y2' (And.intro y3' y4'))))
          have HG := hid_ (And.intro g2 g3)
          clear y0' y1' y2' y3' y4' g1 g2 g3
          go_wp2_with fail
          obtain ⟨y0', y1', y2', y3', y4'⟩ := HY.out
          exact bodyPost_ret (v := .agg #[.string (st m.name), .slice Z1 m.imports.length y1, .slice Z2 m.types.length y2, .slice Z3 m.fns.length y3, .slice Z4 m.nodes.length y4]) (by simp [results, Tryz.results17, go_sem, y0', y1', y2', y3', y4']) rfl ⟨_, _, _, _, _, _, rfl, HG.out.1, HG.out.2⟩
end
end Go.Proofs.YtmgjmagniefhoaaGreatDoor
