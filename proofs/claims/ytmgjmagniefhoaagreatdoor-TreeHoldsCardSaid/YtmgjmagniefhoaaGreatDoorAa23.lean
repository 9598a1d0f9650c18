/- What stands in these texts of the proof: Qa Qb Qc. Conditions: those that each theorem names. -/
import Derived.Test.YtmgjmagniefhoaaGreatDoorAa20
/- slices.Equal. Conditions: those that each theorem names. -/
namespace Go.Proofs.YtmgjmagniefhoaaGreatDoor
open Go.RowKit Go.Maps
section
variable {w w' : World}
theorem strs_at {l : List (List UInt8)} {j : Nat} (h : j < l.length) : (strs l)[j]? = some (.string (st l[j])) := by
  unfold strs
  rw [List.getElem?_map, List.getElem?_eq_getElem h]
  rfl
theorem vr_ext : ∀ {a b : Tr.Vr}, a.name = b.name → a.type = b.type → a = b
  | ⟨_, _⟩, ⟨_, _⟩, rfl, rfl => rfl
set_option maxHeartbeats 4000000 in
set_option maxRecDepth 100000 in
theorem eqI_c {va vb : Value} {a b : List (Int)} (ha : RowAt w va a.length (ints a)) (hb : RowAt w vb b.length (ints b)) (hla : a.length ≤ 9223372036854775807) : Calls Tryz.prog 38 #[va, vb] w fun e w' => e = .returned (.bool (decide (a = b))) ∧ Below w.heap.size w w' := by
  obtain ⟨A1, c1, rfl⟩ := ha.form
  obtain ⟨A2, c2, rfl⟩ := hb.form
  have HA := hid_ ha
  have HB := hid_ hb
  clear ha hb
  by_cases hl : a.length = b.length
  · rw [← hl] at HB ⊢
    have HL := hid_ hl
    clear hl
    go_enter Tryz.func38, Tryz.ntmps38
    go_wp2_with fail
    go_loopg [5, 13] (a.length + 1) (fun g _ v wr => ∃ i : Nat, v = .int .i64 i ∧ i ≤ a.length ∧ (∀ j, j < i → a.getD j 0 = b.getD j 0) ∧ Below w.heap.size w wr ∧ a.length - i + 1 ≤ g)
    case atStart => exact ⟨0, rfl, by omega, fun j h => by omega, Below.refl _ _, by omega⟩
    case round =>
      obtain ⟨i, rfl, hi, hall, hb, hg⟩ := hrel
      have HAll := hid_ hall
      have HBl := hid_ hb
      clear hall hb
      by_cases hlt : i < a.length
      · have b0 : (0 : Int) ≤ (i : Int) := by omega
        have b1 : (i : Int) < (a.length : Int) := by omega
        have hltb : i < b.length := by have := HL.out; omega
        obtain ⟨x1, o1, d1, hx1, hc1⟩ := (HA.out.below HBl.out).get (by omega)
        obtain ⟨x2, o2, d2, hx2, hc2⟩ := (HB.out.below HBl.out).get (by omega)
        injection hx1 with hx1 _ hy1
        injection hx2 with hx2 _ hy2
        have e1 := getD_at hlt 0
        have e2 := getD_at hltb 0
        have hp1 := hc1 i _ (ints_at hlt)
        have hp2 := hc2 i _ (ints_at hltb)
        clear hc1 hc2
        subst hx1 hx2 hy1 hy2
        by_cases he : a[i] = b[i]
        · have q0 : (a[i] != b[i]) = false := by simp [he]
          have HE := hid_ (show ∀ j, j < i + 1 → a.getD j 0 = b.getD j 0 from fun j hj => by
            by_cases hji : j = i
            · subst hji; rw [e1, e2, he]
            · exact HAll.out j (by omega))
          clear he e1 e2
          go_wp2_with fail
          go_quiet (fail)
          go_wp2_with fail
          go_roundg (gk - 1)
          case rel => exact ⟨i + 1, by go_num, by omega, HE.out, by first | exact HBl.out | exact HBl.out.drew | exact bdrewN HBl.out _, by omega⟩
          case measure => omega
        · have q0 : (a[i] != b[i]) = true := by simp [he]
          have HE := hid_ (show decide (a = b) = false from decide_eq_false (fun h => he (by subst h; rfl)))
          clear he e1 e2
          go_wp2_with fail
          go_quiet (fail)
          go_wp2_with fail
          go_ret
          rw [HE.out]
          exact ⟨rfl, by first | exact HBl.out | exact HBl.out.drew | exact bdrewN HBl.out _⟩
      · have b1 : ¬ (i : Int) < (a.length : Int) := by omega
        have HE := hid_ (show decide (a = b) = true from decide_eq_true (List.ext_getElem HL.out (fun j h1 h2 => by
          have := HAll.out j (by omega)
          rw [getD_at h1, getD_at h2] at this
          exact this)))
        go_wp2_with fail
        go_ret
        rw [HE.out]
        exact ⟨rfl, HBl.out⟩
  · have q0 : ((a.length : Int) != (b.length : Int)) = true := by
      rw [bne_iff_ne]
      intro h
      exact hl (by omega)
    have HE := hid_ (show decide (a = b) = false from decide_eq_false (fun h => hl (by rw [h])))
    clear hl
    go_enter Tryz.func38, Tryz.ntmps38
    go_wp2_with fail
    go_ret
    rw [HE.out]
    exact ⟨rfl, Below.refl _ _⟩
set_option maxHeartbeats 4000000 in
set_option maxRecDepth 100000 in
theorem eqS_c {va vb : Value} {a b : List (List UInt8)} (ha : RowAt w va a.length (strs a)) (hb : RowAt w vb b.length (strs b)) (hla : a.length ≤ 9223372036854775807) : Calls Tryz.prog 37 #[va, vb] w fun e w' => e = .returned (.bool (decide (a = b))) ∧ Below w.heap.size w w' := by
  obtain ⟨A1, c1, rfl⟩ := ha.form
  obtain ⟨A2, c2, rfl⟩ := hb.form
  have HA := hid_ ha
  have HB := hid_ hb
  clear ha hb
  by_cases hl : a.length = b.length
  · rw [← hl] at HB ⊢
    have HL := hid_ hl
    clear hl
    go_enter Tryz.func37, Tryz.ntmps37
    go_wp2_with fail
    go_loopg [5, 13] (a.length + 1) (fun g _ v wr => ∃ i : Nat, v = .int .i64 i ∧ i ≤ a.length ∧ (∀ j, j < i → a.getD j [] = b.getD j []) ∧ Below w.heap.size w wr ∧ a.length - i + 1 ≤ g)
    case atStart => exact ⟨0, rfl, by omega, fun j h => by omega, Below.refl _ _, by omega⟩
    case round =>
      obtain ⟨i, rfl, hi, hall, hb, hg⟩ := hrel
      have HAll := hid_ hall
      have HBl := hid_ hb
      clear hall hb
      by_cases hlt : i < a.length
      · have b0 : (0 : Int) ≤ (i : Int) := by omega
        have b1 : (i : Int) < (a.length : Int) := by omega
        have hltb : i < b.length := by have := HL.out; omega
        obtain ⟨x1, o1, d1, hx1, hc1⟩ := (HA.out.below HBl.out).get (by omega)
        obtain ⟨x2, o2, d2, hx2, hc2⟩ := (HB.out.below HBl.out).get (by omega)
        injection hx1 with hx1 _ hy1
        injection hx2 with hx2 _ hy2
        have e1 := getD_at hlt []
        have e2 := getD_at hltb []
        have hp1 := hc1 i _ (strs_at hlt)
        have hp2 := hc2 i _ (strs_at hltb)
        clear hc1 hc2
        subst hx1 hx2 hy1 hy2
        by_cases he : a[i] = b[i]
        · have q0 : ((st a[i]).toList == (st b[i]).toList) = true := by rw [txt_is]; exact decide_eq_true he
          have HE := hid_ (show ∀ j, j < i + 1 → a.getD j [] = b.getD j [] from fun j hj => by
            by_cases hji : j = i
            · subst hji; rw [e1, e2, he]
            · exact HAll.out j (by omega))
          clear he e1 e2
          go_wp2_with fail
          go_quiet (fail)
          go_wp2_with fail
          go_roundg (gk - 1)
          case rel => exact ⟨i + 1, by go_num, by omega, HE.out, by first | exact HBl.out | exact HBl.out.drew | exact bdrewN HBl.out _, by omega⟩
          case measure => omega
        · have q0 : ((st a[i]).toList == (st b[i]).toList) = false := by rw [txt_is]; exact decide_eq_false he
          have HE := hid_ (show decide (a = b) = false from decide_eq_false (fun h => he (by subst h; rfl)))
          clear he e1 e2
          go_wp2_with fail
          go_quiet (fail)
          go_wp2_with fail
          go_ret
          rw [HE.out]
          exact ⟨rfl, by first | exact HBl.out | exact HBl.out.drew | exact bdrewN HBl.out _⟩
      · have b1 : ¬ (i : Int) < (a.length : Int) := by omega
        have HE := hid_ (show decide (a = b) = true from decide_eq_true (List.ext_getElem HL.out (fun j h1 h2 => by
          have := HAll.out j (by omega)
          rw [getD_at h1, getD_at h2] at this
          exact this)))
        go_wp2_with fail
        go_ret
        rw [HE.out]
        exact ⟨rfl, HBl.out⟩
  · have q0 : ((a.length : Int) != (b.length : Int)) = true := by
      rw [bne_iff_ne]
      intro h
      exact hl (by omega)
    have HE := hid_ (show decide (a = b) = false from decide_eq_false (fun h => hl (by rw [h])))
    clear hl
    go_enter Tryz.func37, Tryz.ntmps37
    go_wp2_with fail
    go_ret
    rw [HE.out]
    exact ⟨rfl, Below.refl _ _⟩
set_option maxHeartbeats 4000000 in
set_option maxRecDepth 100000 in
theorem eqV_c {va vb : Value} {a b : List (Tr.Vr)} (ha : RowAt w va a.length (flatV a)) (hb : RowAt w vb b.length (flatV b)) (hla : a.length ≤ 9223372036854775807) : Calls Tryz.prog 35 #[va, vb] w fun e w' => e = .returned (.bool (decide (a = b))) ∧ Below w.heap.size w w' := by
  obtain ⟨A1, c1, rfl⟩ := ha.form
  obtain ⟨A2, c2, rfl⟩ := hb.form
  have HA := hid_ ha
  have HB := hid_ hb
  clear ha hb
  by_cases hl : a.length = b.length
  · rw [← hl] at HB ⊢
    have HL := hid_ hl
    clear hl
    go_enter Tryz.func35, Tryz.ntmps35
    go_wp2_with fail
    go_loopg [5, 13] (a.length + 1) (fun g _ v wr => ∃ i : Nat, v = .int .i64 i ∧ i ≤ a.length ∧ (∀ j, j < i → a.getD j ⟨[], 0⟩ = b.getD j ⟨[], 0⟩) ∧ Below w.heap.size w wr ∧ a.length - i + 1 ≤ g)
    case atStart => exact ⟨0, rfl, by omega, fun j h => by omega, Below.refl _ _, by omega⟩
    case round =>
      obtain ⟨i, rfl, hi, hall, hb, hg⟩ := hrel
      have HAll := hid_ hall
      have HBl := hid_ hb
      clear hall hb
      by_cases hlt : i < a.length
      · have b0 : (0 : Int) ≤ (i : Int) := by omega
        have b1 : (i : Int) < (a.length : Int) := by omega
        have hltb : i < b.length := by have := HL.out; omega
        obtain ⟨x1, o1, d1, hx1, hc1⟩ := (HA.out.below HBl.out).get (by omega)
        obtain ⟨x2, o2, d2, hx2, hc2⟩ := (HB.out.below HBl.out).get (by omega)
        injection hx1 with hx1 _ hy1
        injection hx2 with hx2 _ hy2
        have e1 := getD_at hlt ⟨[], 0⟩
        have e2 := getD_at hltb ⟨[], 0⟩
        have hp1 := hc1 (i * 2) _ (flatV_at _ i hlt 0 (by omega))
        have hq1 := hc1 (i * 2 + 1) _ (flatV_at _ i hlt 1 (by omega))
        have hp2 := hc2 (i * 2) _ (flatV_at _ i hltb 0 (by omega))
        have hq2 := hc2 (i * 2 + 1) _ (flatV_at _ i hltb 1 (by omega))
        rw [← Nat.add_assoc] at hq1 hq2
        clear hc1 hc2
        subst hx1 hx2 hy1 hy2
        by_cases hn : a[i].name = b[i].name
        · have q0 : ((st a[i].name).toList == (st b[i].name).toList) = true := by rw [txt_is]; exact decide_eq_true hn
          by_cases ht : a[i].type = b[i].type
          · have q1 : (a[i].type == b[i].type) = true := by simp [ht]
            have he : a[i] = b[i] := vr_ext hn ht
            clear hn ht
            have HE := hid_ (show ∀ j, j < i + 1 → a.getD j ⟨[], 0⟩ = b.getD j ⟨[], 0⟩ from fun j hj => by
              by_cases hji : j = i
              · subst hji; rw [e1, e2, he]
              · exact HAll.out j (by omega))
            clear he e1 e2
            go_wp2_with fail
            go_quiet (fail)
            go_wp2_with fail
            go_roundg (gk - 1)
            case rel => exact ⟨i + 1, by go_num, by omega, HE.out, by first | exact HBl.out | exact HBl.out.drew | exact bdrewN HBl.out _, by omega⟩
            case measure => omega
          · have q1 : (a[i].type == b[i].type) = false := by simp [ht]
            have he : ¬ a[i] = b[i] := fun h => ht (by rw [h])
            clear hn ht
            have HE := hid_ (show decide (a = b) = false from decide_eq_false (fun h => he (by subst h; rfl)))
            clear he e1 e2
            go_wp2_with fail
            go_quiet (fail)
            go_wp2_with fail
            go_ret
            rw [HE.out]
            exact ⟨rfl, by first | exact HBl.out | exact HBl.out.drew | exact bdrewN HBl.out _⟩
        · have q0 : ((st a[i].name).toList == (st b[i].name).toList) = false := by rw [txt_is]; exact decide_eq_false hn
          have he : ¬ a[i] = b[i] := fun h => hn (by rw [h])
          clear hn
          have HE := hid_ (show decide (a = b) = false from decide_eq_false (fun h => he (by subst h; rfl)))
          clear he e1 e2
          go_wp2_with fail
          go_quiet (fail)
          go_wp2_with fail
          go_ret
          rw [HE.out]
          exact ⟨rfl, by first | exact HBl.out | exact HBl.out.drew | exact bdrewN HBl.out _⟩
      · have b1 : ¬ (i : Int) < (a.length : Int) := by omega
        have HE := hid_ (show decide (a = b) = true from decide_eq_true (List.ext_getElem HL.out (fun j h1 h2 => by
          have := HAll.out j (by omega)
          rw [getD_at h1, getD_at h2] at this
          exact this)))
        go_wp2_with fail
        go_ret
        rw [HE.out]
        exact ⟨rfl, HBl.out⟩
  · have q0 : ((a.length : Int) != (b.length : Int)) = true := by
      rw [bne_iff_ne]
      intro h
      exact hl (by omega)
    have HE := hid_ (show decide (a = b) = false from decide_eq_false (fun h => hl (by rw [h])))
    clear hl
    go_enter Tryz.func35, Tryz.ntmps35
    go_wp2_with fail
    go_ret
    rw [HE.out]
    exact ⟨rfl, Below.refl _ _⟩
set_option maxHeartbeats 4000000 in
set_option maxRecDepth 100000 in
theorem eqD_c {va vb : Value} {a b : List (Tr.Vr)} (ha : RowAt w va a.length (flatV a)) (hb : RowAt w vb b.length (flatV b)) (hla : a.length ≤ 9223372036854775807) : Calls Tryz.prog 39 #[va, vb] w fun e w' => e = .returned (.bool (decide (a = b))) ∧ Below w.heap.size w w' := by
  obtain ⟨A1, c1, rfl⟩ := ha.form
  obtain ⟨A2, c2, rfl⟩ := hb.form
  have HA := hid_ ha
  have HB := hid_ hb
  clear ha hb
  by_cases hl : a.length = b.length
  · rw [← hl] at HB ⊢
    have HL := hid_ hl
    clear hl
    go_enter Tryz.func39, Tryz.ntmps39
    go_wp2_with fail
    go_loopg [5, 13] (a.length + 1) (fun g _ v wr => ∃ i : Nat, v = .int .i64 i ∧ i ≤ a.length ∧ (∀ j, j < i → a.getD j ⟨[], 0⟩ = b.getD j ⟨[], 0⟩) ∧ Below w.heap.size w wr ∧ a.length - i + 1 ≤ g)
    case atStart => exact ⟨0, rfl, by omega, fun j h => by omega, Below.refl _ _, by omega⟩
    case round =>
      obtain ⟨i, rfl, hi, hall, hb, hg⟩ := hrel
      have HAll := hid_ hall
      have HBl := hid_ hb
      clear hall hb
      by_cases hlt : i < a.length
      · have b0 : (0 : Int) ≤ (i : Int) := by omega
        have b1 : (i : Int) < (a.length : Int) := by omega
        have hltb : i < b.length := by have := HL.out; omega
        obtain ⟨x1, o1, d1, hx1, hc1⟩ := (HA.out.below HBl.out).get (by omega)
        obtain ⟨x2, o2, d2, hx2, hc2⟩ := (HB.out.below HBl.out).get (by omega)
        injection hx1 with hx1 _ hy1
        injection hx2 with hx2 _ hy2
        have e1 := getD_at hlt ⟨[], 0⟩
        have e2 := getD_at hltb ⟨[], 0⟩
        have hp1 := hc1 (i * 2) _ (flatV_at _ i hlt 0 (by omega))
        have hq1 := hc1 (i * 2 + 1) _ (flatV_at _ i hlt 1 (by omega))
        have hp2 := hc2 (i * 2) _ (flatV_at _ i hltb 0 (by omega))
        have hq2 := hc2 (i * 2 + 1) _ (flatV_at _ i hltb 1 (by omega))
        rw [← Nat.add_assoc] at hq1 hq2
        clear hc1 hc2
        subst hx1 hx2 hy1 hy2
        by_cases hn : a[i].name = b[i].name
        · have q0 : ((st a[i].name).toList == (st b[i].name).toList) = true := by rw [txt_is]; exact decide_eq_true hn
          by_cases ht : a[i].type = b[i].type
          · have q1 : (a[i].type == b[i].type) = true := by simp [ht]
            have he : a[i] = b[i] := vr_ext hn ht
            clear hn ht
            have HE := hid_ (show ∀ j, j < i + 1 → a.getD j ⟨[], 0⟩ = b.getD j ⟨[], 0⟩ from fun j hj => by
              by_cases hji : j = i
              · subst hji; rw [e1, e2, he]
              · exact HAll.out j (by omega))
            clear he e1 e2
            go_wp2_with fail
            go_quiet (fail)
            go_wp2_with fail
            go_roundg (gk - 1)
            case rel => exact ⟨i + 1, by go_num, by omega, HE.out, by first | exact HBl.out | exact HBl.out.drew | exact bdrewN HBl.out _, by omega⟩
            case measure => omega
          · have q1 : (a[i].type == b[i].type) = false := by simp [ht]
            have he : ¬ a[i] = b[i] := fun h => ht (by rw [h])
            clear hn ht
            have HE := hid_ (show decide (a = b) = false from decide_eq_false (fun h => he (by subst h; rfl)))
            clear he e1 e2
            go_wp2_with fail
            go_quiet (fail)
            go_wp2_with fail
            go_ret
            rw [HE.out]
            exact ⟨rfl, by first | exact HBl.out | exact HBl.out.drew | exact bdrewN HBl.out _⟩
        · have q0 : ((st a[i].name).toList == (st b[i].name).toList) = false := by rw [txt_is]; exact decide_eq_false hn
          have he : ¬ a[i] = b[i] := fun h => hn (by rw [h])
          clear hn
          have HE := hid_ (show decide (a = b) = false from decide_eq_false (fun h => he (by subst h; rfl)))
          clear he e1 e2
          go_wp2_with fail
          go_quiet (fail)
          go_wp2_with fail
          go_ret
          rw [HE.out]
          exact ⟨rfl, by first | exact HBl.out | exact HBl.out.drew | exact bdrewN HBl.out _⟩
      · have b1 : ¬ (i : Int) < (a.length : Int) := by omega
        have HE := hid_ (show decide (a = b) = true from decide_eq_true (List.ext_getElem HL.out (fun j h1 h2 => by
          have := HAll.out j (by omega)
          rw [getD_at h1, getD_at h2] at this
          exact this)))
        go_wp2_with fail
        go_ret
        rw [HE.out]
        exact ⟨rfl, HBl.out⟩
  · have q0 : ((a.length : Int) != (b.length : Int)) = true := by
      rw [bne_iff_ne]
      intro h
      exact hl (by omega)
    have HE := hid_ (show decide (a = b) = false from decide_eq_false (fun h => hl (by rw [h])))
    clear hl
    go_enter Tryz.func39, Tryz.ntmps39
    go_wp2_with fail
    go_ret
    rw [HE.out]
    exact ⟨rfl, Below.refl _ _⟩
end
end Go.Proofs.YtmgjmagniefhoaaGreatDoor

/- tree.Same's closures. Conditions: those that each theorem names. -/
namespace Go.Proofs.YtmgjmagniefhoaaGreatDoor
open Go.RowKit Go.Maps
section
variable {w w' : World}
theorem fd_ext : ∀ {a b : Tr.Fd}, a.name = b.name → a.ret = b.ret → a.body = b.body → a.vars = b.vars → a.params = b.params → a = b
  | ⟨_, _, _, _, _⟩, ⟨_, _, _, _, _⟩, rfl, rfl, rfl, rfl, rfl => rfl
theorem nd_ext : ∀ {a b : Tr.Nd}, a.kind = b.kind → a.num = b.num → a.mod = b.mod → a.name = b.name → a.keys = b.keys → a.l = b.l → a = b
  | ⟨_, _, _, _, _, _⟩, ⟨_, _, _, _, _, _⟩, rfl, rfl, rfl, rfl, rfl, rfl => rfl
set_option maxHeartbeats 8000000 in
set_option maxRecDepth 100000 in
theorem same1_c {f g : Tr.Fd} {va pa vb pb : Value} (r1 : RowAt w va f.vars.length (flatV f.vars)) (r2 : RowAt w pa f.params.length (flatV f.params)) (r3 : RowAt w vb g.vars.length (flatV g.vars)) (r4 : RowAt w pb g.params.length (flatV g.params)) (b1 : f.vars.length ≤ 9223372036854775807) (b2 : f.params.length ≤ 9223372036854775807) : Calls Tryz.prog 34 #[.agg #[.string (st f.name), va, pa, .int .i64 f.ret, .int .i64 f.body], .agg #[.string (st g.name), vb, pb, .int .i64 g.ret, .int .i64 g.body]] w fun e w' => e = .returned (.bool (decide (f = g))) ∧ Below w.heap.size w w' := by
  obtain ⟨A_va, c_va, rfl⟩ := r1.form
  obtain ⟨A_pa, c_pa, rfl⟩ := r2.form
  obtain ⟨A_vb, c_vb, rfl⟩ := r3.form
  obtain ⟨A_pb, c_pb, rfl⟩ := r4.form
  have hB1 := Blk.new w 54 #[.string (st f.name), .slice A_va f.vars.length c_va, .slice A_pa f.params.length c_pa, .int .i64 f.ret, .int .i64 f.body]
  have hB2 := Blk.new (w.alloc (.cells #[.string (st f.name), .slice A_va f.vars.length c_va, .slice A_pa f.params.length c_pa, .int .i64 f.ret, .int .i64 f.body] 54)) 54 #[.string (st g.name), .slice A_vb g.vars.length c_vb, .slice A_pb g.params.length c_pb, .int .i64 g.ret, .int .i64 g.body]
  have hB1' := hB1.alloc (.cells #[.string (st g.name), .slice A_vb g.vars.length c_vb, .slice A_pb g.params.length c_pb, .int .i64 g.ret, .int .i64 g.body] 54)
  have hW := (below_alloc w (.cells #[.string (st f.name), .slice A_va f.vars.length c_va, .slice A_pa f.params.length c_pa, .int .i64 f.ret, .int .i64 f.body] 54)).alloc (by simp) (.cells #[.string (st g.name), .slice A_vb g.vars.length c_vb, .slice A_pb g.params.length c_pb, .int .i64 g.ret, .int .i64 g.body] 54)
  rw [alloc_sz] at hB2
  have HB1 := hid_ hB1'
  have HB2 := hid_ hB2
  have HW := hid_ hW
  have HR1 := hid_ (r1.below hW)
  have HR2 := hid_ (r2.below hW)
  have HR3 := hid_ (r3.below hW)
  have HR4 := hid_ (r4.below hW)
  clear hB1 hB2 hB1' hW r1 r2 r3 r4
  go_enter Tryz.func34, Tryz.ntmps34
  go_upto_region 1 with fail
  generalize (w.alloc (.cells #[.string (st f.name), .slice A_va f.vars.length c_va, .slice A_pa f.params.length c_pa, .int .i64 f.ret, .int .i64 f.body] 54)).alloc (.cells #[.string (st g.name), .slice A_vb g.vars.length c_vb, .slice A_pb g.params.length c_pb, .int .i64 g.ret, .int .i64 g.body] 54) = W at *
  have x0 : W.cell? ⟨w.heap.size, 0, none⟩ = some (.string (st f.name)) := HB1.out.cell 0
  have y0 : W.cell? ⟨w.heap.size + 1, 0, none⟩ = some (.string (st g.name)) := HB2.out.cell 0
  have x1 : W.cell? ⟨w.heap.size, 1, none⟩ = some (.slice A_va f.vars.length c_va) := HB1.out.cell 1
  have y1 : W.cell? ⟨w.heap.size + 1, 1, none⟩ = some (.slice A_vb g.vars.length c_vb) := HB2.out.cell 1
  have x2 : W.cell? ⟨w.heap.size, 2, none⟩ = some (.slice A_pa f.params.length c_pa) := HB1.out.cell 2
  have y2 : W.cell? ⟨w.heap.size + 1, 2, none⟩ = some (.slice A_pb g.params.length c_pb) := HB2.out.cell 2
  have x3 : W.cell? ⟨w.heap.size, 3, none⟩ = some (.int .i64 f.ret) := HB1.out.cell 3
  have y3 : W.cell? ⟨w.heap.size + 1, 3, none⟩ = some (.int .i64 g.ret) := HB2.out.cell 3
  have x4 : W.cell? ⟨w.heap.size, 4, none⟩ = some (.int .i64 f.body) := HB1.out.cell 4
  have y4 : W.cell? ⟨w.heap.size + 1, 4, none⟩ = some (.int .i64 g.body) := HB2.out.cell 4
  by_cases h0 : f.name = g.name
  rotate_left
  · have q : ((st f.name).toList == (st g.name).toList) = false := by rw [txt_is]; exact decide_eq_false h0
    have HE := hid_ (show decide (f = g) = false from decide_eq_false (fun h => h0 (by rw [h])))
    clear h0
    go_wp2_with fail
    go_ret
    rw [HE.out]
    exact ⟨rfl, HW.out⟩
  have q0 : ((st f.name).toList == (st g.name).toList) = true := by rw [txt_is]; exact decide_eq_true h0
  have H0 := hid_ h0
  clear h0
  by_cases h1 : f.ret = g.ret
  rotate_left
  · have q : (f.ret == g.ret) = false := by simp [h1]
    have HE := hid_ (show decide (f = g) = false from decide_eq_false (fun h => h1 (by rw [h])))
    clear h1
    go_wp2_with fail
    go_ret
    rw [HE.out]
    exact ⟨rfl, HW.out⟩
  have q1 : (f.ret == g.ret) = true := by simp [h1]
  have H1 := hid_ h1
  clear h1
  by_cases h2 : f.body = g.body
  rotate_left
  · have q : (f.body == g.body) = false := by simp [h2]
    have HE := hid_ (show decide (f = g) = false from decide_eq_false (fun h => h2 (by rw [h])))
    clear h2
    go_wp2_with fail
    go_ret
    rw [HE.out]
    exact ⟨rfl, HW.out⟩
  have q2 : (f.body == g.body) = true := by simp [h2]
  have H2 := hid_ h2
  clear h2
  go_wp2_with fail
  refine (eqV_c HR1.out HR3.out b1).mono ?_
  rintro e w3 ⟨he, hb3⟩
  have HW3 := hid_ (HW.out.trans (hb3.mono HW.out.size))
  have HR2' := hid_ (HR2.out.below hb3)
  have HR4' := hid_ (HR4.out.below hb3)
  have x2' := below_cell hb3 x2
  have y2' := below_cell hb3 y2
  clear hb3
  by_cases hc : f.vars = g.vars
  rotate_left
  · rw [decide_eq_false hc] at he
    subst he
    have HE := hid_ (show decide (f = g) = false from decide_eq_false (fun h => hc (by rw [h])))
    clear hc
    go_wp2_with fail
    go_ret
    rw [HE.out]
    exact ⟨rfl, HW3.out⟩
  rw [decide_eq_true hc] at he
  subst he
  have HC := hid_ hc
  clear hc
  go_wp2_with fail
  refine (eqV_c HR2'.out HR4'.out b2).mono ?_
  rintro e w4 ⟨he, hb4⟩
  have HW4 := hid_ (HW3.out.trans (hb4.mono HW3.out.size))
  clear hb4
  by_cases hc : f.params = g.params
  rotate_left
  · rw [decide_eq_false hc] at he
    subst he
    have HE := hid_ (show decide (f = g) = false from decide_eq_false (fun h => hc (by rw [h])))
    clear hc
    go_wp2_with fail
    go_ret
    rw [HE.out]
    exact ⟨rfl, HW4.out⟩
  rw [decide_eq_true hc] at he
  subst he
  have HE := hid_ (show decide (f = g) = true from decide_eq_true (fd_ext H0.out H1.out H2.out HC.out hc))
  clear hc
  go_wp2_with fail
  go_ret
  rw [HE.out]
  exact ⟨rfl, HW4.out⟩
set_option maxHeartbeats 8000000 in
set_option maxRecDepth 100000 in
theorem same2_c {f g : Tr.Nd} {ka la kb lb : Value} (r1 : RowAt w ka f.keys.length (strs f.keys)) (r2 : RowAt w la f.l.length (ints f.l)) (r3 : RowAt w kb g.keys.length (strs g.keys)) (r4 : RowAt w lb g.l.length (ints g.l)) (b1 : f.keys.length ≤ 9223372036854775807) (b2 : f.l.length ≤ 9223372036854775807) : Calls Tryz.prog 36 #[.agg #[.int .i64 f.kind, .int .i64 f.num, .string (st f.mod), .string (st f.name), ka, la], .agg #[.int .i64 g.kind, .int .i64 g.num, .string (st g.mod), .string (st g.name), kb, lb]] w fun e w' => e = .returned (.bool (decide (f = g))) ∧ Below w.heap.size w w' := by
  obtain ⟨A_ka, c_ka, rfl⟩ := r1.form
  obtain ⟨A_la, c_la, rfl⟩ := r2.form
  obtain ⟨A_kb, c_kb, rfl⟩ := r3.form
  obtain ⟨A_lb, c_lb, rfl⟩ := r4.form
  have hB1 := Blk.new w 57 #[.int .i64 f.kind, .int .i64 f.num, .string (st f.mod), .string (st f.name), .slice A_ka f.keys.length c_ka, .slice A_la f.l.length c_la]
  have hB2 := Blk.new (w.alloc (.cells #[.int .i64 f.kind, .int .i64 f.num, .string (st f.mod), .string (st f.name), .slice A_ka f.keys.length c_ka, .slice A_la f.l.length c_la] 57)) 57 #[.int .i64 g.kind, .int .i64 g.num, .string (st g.mod), .string (st g.name), .slice A_kb g.keys.length c_kb, .slice A_lb g.l.length c_lb]
  have hB1' := hB1.alloc (.cells #[.int .i64 g.kind, .int .i64 g.num, .string (st g.mod), .string (st g.name), .slice A_kb g.keys.length c_kb, .slice A_lb g.l.length c_lb] 57)
  have hW := (below_alloc w (.cells #[.int .i64 f.kind, .int .i64 f.num, .string (st f.mod), .string (st f.name), .slice A_ka f.keys.length c_ka, .slice A_la f.l.length c_la] 57)).alloc (by simp) (.cells #[.int .i64 g.kind, .int .i64 g.num, .string (st g.mod), .string (st g.name), .slice A_kb g.keys.length c_kb, .slice A_lb g.l.length c_lb] 57)
  rw [alloc_sz] at hB2
  have HB1 := hid_ hB1'
  have HB2 := hid_ hB2
  have HW := hid_ hW
  have HR1 := hid_ (r1.below hW)
  have HR2 := hid_ (r2.below hW)
  have HR3 := hid_ (r3.below hW)
  have HR4 := hid_ (r4.below hW)
  clear hB1 hB2 hB1' hW r1 r2 r3 r4
  go_enter Tryz.func36, Tryz.ntmps36
  go_upto_region 1 with fail
  generalize (w.alloc (.cells #[.int .i64 f.kind, .int .i64 f.num, .string (st f.mod), .string (st f.name), .slice A_ka f.keys.length c_ka, .slice A_la f.l.length c_la] 57)).alloc (.cells #[.int .i64 g.kind, .int .i64 g.num, .string (st g.mod), .string (st g.name), .slice A_kb g.keys.length c_kb, .slice A_lb g.l.length c_lb] 57) = W at *
  have x0 : W.cell? ⟨w.heap.size, 0, none⟩ = some (.int .i64 f.kind) := HB1.out.cell 0
  have y0 : W.cell? ⟨w.heap.size + 1, 0, none⟩ = some (.int .i64 g.kind) := HB2.out.cell 0
  have x1 : W.cell? ⟨w.heap.size, 1, none⟩ = some (.int .i64 f.num) := HB1.out.cell 1
  have y1 : W.cell? ⟨w.heap.size + 1, 1, none⟩ = some (.int .i64 g.num) := HB2.out.cell 1
  have x2 : W.cell? ⟨w.heap.size, 2, none⟩ = some (.string (st f.mod)) := HB1.out.cell 2
  have y2 : W.cell? ⟨w.heap.size + 1, 2, none⟩ = some (.string (st g.mod)) := HB2.out.cell 2
  have x3 : W.cell? ⟨w.heap.size, 3, none⟩ = some (.string (st f.name)) := HB1.out.cell 3
  have y3 : W.cell? ⟨w.heap.size + 1, 3, none⟩ = some (.string (st g.name)) := HB2.out.cell 3
  have x4 : W.cell? ⟨w.heap.size, 4, none⟩ = some (.slice A_ka f.keys.length c_ka) := HB1.out.cell 4
  have y4 : W.cell? ⟨w.heap.size + 1, 4, none⟩ = some (.slice A_kb g.keys.length c_kb) := HB2.out.cell 4
  have x5 : W.cell? ⟨w.heap.size, 5, none⟩ = some (.slice A_la f.l.length c_la) := HB1.out.cell 5
  have y5 : W.cell? ⟨w.heap.size + 1, 5, none⟩ = some (.slice A_lb g.l.length c_lb) := HB2.out.cell 5
  by_cases h0 : f.kind = g.kind
  rotate_left
  · have q : (f.kind == g.kind) = false := by simp [h0]
    have HE := hid_ (show decide (f = g) = false from decide_eq_false (fun h => h0 (by rw [h])))
    clear h0
    go_wp2_with fail
    go_ret
    rw [HE.out]
    exact ⟨rfl, HW.out⟩
  have q0 : (f.kind == g.kind) = true := by simp [h0]
  have H0 := hid_ h0
  clear h0
  by_cases h1 : f.num = g.num
  rotate_left
  · have q : (f.num == g.num) = false := by simp [h1]
    have HE := hid_ (show decide (f = g) = false from decide_eq_false (fun h => h1 (by rw [h])))
    clear h1
    go_wp2_with fail
    go_ret
    rw [HE.out]
    exact ⟨rfl, HW.out⟩
  have q1 : (f.num == g.num) = true := by simp [h1]
  have H1 := hid_ h1
  clear h1
  by_cases h2 : f.mod = g.mod
  rotate_left
  · have q : ((st f.mod).toList == (st g.mod).toList) = false := by rw [txt_is]; exact decide_eq_false h2
    have HE := hid_ (show decide (f = g) = false from decide_eq_false (fun h => h2 (by rw [h])))
    clear h2
    go_wp2_with fail
    go_ret
    rw [HE.out]
    exact ⟨rfl, HW.out⟩
  have q2 : ((st f.mod).toList == (st g.mod).toList) = true := by rw [txt_is]; exact decide_eq_true h2
  have H2 := hid_ h2
  clear h2
  by_cases h3 : f.name = g.name
  rotate_left
  · have q : ((st f.name).toList == (st g.name).toList) = false := by rw [txt_is]; exact decide_eq_false h3
    have HE := hid_ (show decide (f = g) = false from decide_eq_false (fun h => h3 (by rw [h])))
    clear h3
    go_wp2_with fail
    go_ret
    rw [HE.out]
    exact ⟨rfl, HW.out⟩
  have q3 : ((st f.name).toList == (st g.name).toList) = true := by rw [txt_is]; exact decide_eq_true h3
  have H3 := hid_ h3
  clear h3
  go_wp2_with fail
  refine (eqS_c HR1.out HR3.out b1).mono ?_
  rintro e w3 ⟨he, hb3⟩
  have HW3 := hid_ (HW.out.trans (hb3.mono HW.out.size))
  have HR2' := hid_ (HR2.out.below hb3)
  have HR4' := hid_ (HR4.out.below hb3)
  have x5' := below_cell hb3 x5
  have y5' := below_cell hb3 y5
  clear hb3
  by_cases hc : f.keys = g.keys
  rotate_left
  · rw [decide_eq_false hc] at he
    subst he
    have HE := hid_ (show decide (f = g) = false from decide_eq_false (fun h => hc (by rw [h])))
    clear hc
    go_wp2_with fail
    go_ret
    rw [HE.out]
    exact ⟨rfl, HW3.out⟩
  rw [decide_eq_true hc] at he
  subst he
  have HC := hid_ hc
  clear hc
  go_wp2_with fail
  refine (eqI_c HR2'.out HR4'.out b2).mono ?_
  rintro e w4 ⟨he, hb4⟩
  have HW4 := hid_ (HW3.out.trans (hb4.mono HW3.out.size))
  clear hb4
  by_cases hc : f.l = g.l
  rotate_left
  · rw [decide_eq_false hc] at he
    subst he
    have HE := hid_ (show decide (f = g) = false from decide_eq_false (fun h => hc (by rw [h])))
    clear hc
    go_wp2_with fail
    go_ret
    rw [HE.out]
    exact ⟨rfl, HW4.out⟩
  rw [decide_eq_true hc] at he
  subst he
  have HE := hid_ (show decide (f = g) = true from decide_eq_true (nd_ext H0.out H1.out H2.out H3.out HC.out hc))
  clear hc
  go_wp2_with fail
  go_ret
  rw [HE.out]
  exact ⟨rfl, HW4.out⟩
end
end Go.Proofs.YtmgjmagniefhoaaGreatDoor

/- slices.EqualFunc at functions, nodes. Conditions: those that each theorem names. -/
namespace Go.Proofs.YtmgjmagniefhoaaGreatDoor
open Go.RowKit Go.Maps
section
variable {w w' : World}
set_option maxHeartbeats 8000000 in
set_option maxRecDepth 100000 in
theorem eqF_c {m m' : Tr.Md} {Ai At Af An Bi Bt Bf Bn : Option Addr} {c1 c2 : Nat} (ha : ModO w m Ai At Af An) (hb : ModO w m' Bi Bt Bf Bn) (hla : m.fns.length ≤ 9223372036854775807) (hbd : ∀ x ∈ m.fns, x.vars.length ≤ 9223372036854775807 ∧ x.params.length ≤ 9223372036854775807) :
    Calls Tryz.prog 40 #[.slice Af m.fns.length c1, .slice Bf m'.fns.length c2, .func (.func 34) #[] #[]] w fun e w' => e = .returned (.bool (decide (m.fns = m'.fns))) ∧ Below w.heap.size w w' := by
  have HA := hid_ ha
  have HB := hid_ hb
  have HBd := hid_ hbd
  clear ha hb hbd
  by_cases hl : m.fns.length = m'.fns.length
  · have q0 : ((m.fns.length : Int) != (m'.fns.length : Int)) = false := by simp [hl]
    have HL := hid_ hl
    clear hl
    go_enter Tryz.func40, Tryz.ntmps40
    go_wp2_with fail
    go_loopg [7, 8, 9, 17] (m.fns.length + 1) (fun g _ _ _ v wr => ∃ i : Nat, v = .int .i64 i ∧ i ≤ m.fns.length ∧ (∀ j, j < i → m.fns.getD j ⟨[], [], [], 0, 0⟩ = m'.fns.getD j ⟨[], [], [], 0, 0⟩) ∧ Below w.heap.size w wr ∧ m.fns.length - i + 1 ≤ g)
    case atStart => exact ⟨0, rfl, by omega, fun j h => by omega, Below.refl _ _, by omega⟩
    case round =>
      obtain ⟨i, rfl, hi, hall, hb, hg⟩ := hrel
      have HAll := hid_ hall
      have HBl := hid_ hb
      clear hall hb
      by_cases hlt : i < m.fns.length
      · have b0 : (0 : Int) ≤ (i : Int) := by omega
        have b1 : (i : Int) < (m.fns.length : Int) := by omega
        have hltb : i < m'.fns.length := by have := HL.out; omega
        have b2 : (i : Int) < (m'.fns.length : Int) := by omega
        obtain ⟨xb, xo, va, vb, rfl, x0, x1, x2, x3, x4, hr1, hr2⟩ := (HA.out.below HBl.out).fn i hlt
        obtain ⟨yb, yo, vc, vd, rfl, y0, y1, y2, y3, y4, hr3, hr4⟩ := (HB.out.below HBl.out).fn i hltb
        obtain ⟨Aa, ca, rfl⟩ := hr1.form
        obtain ⟨Ab, cb, rfl⟩ := hr2.form
        obtain ⟨Ac, cc, rfl⟩ := hr3.form
        obtain ⟨Ad, cd, rfl⟩ := hr4.form
        have z0 := fun o => below_cell (below_alloc wr o) y0
        have z1 := fun o => below_cell (below_alloc wr o) y1
        have z2 := fun o => below_cell (below_alloc wr o) y2
        have z3 := fun o => below_cell (below_alloc wr o) y3
        have z4 := fun o => below_cell (below_alloc wr o) y4
        have n0 := fun o => (Blk.new wr 54 #[.string (st m.fns[i].name), .slice Aa m.fns[i].vars.length ca, .slice Ab m.fns[i].params.length cb, .int .i64 m.fns[i].ret, .int .i64 m.fns[i].body]).alloc o
        have hW := (below_alloc wr (.cells #[.string (st m.fns[i].name), .slice Aa m.fns[i].vars.length ca, .slice Ab m.fns[i].params.length cb, .int .i64 m.fns[i].ret, .int .i64 m.fns[i].body] 54)).alloc (by simp) (.cells #[.string (st m'.fns[i].name), .slice Ac m'.fns[i].vars.length cc, .slice Ad m'.fns[i].params.length cd, .int .i64 m'.fns[i].ret, .int .i64 m'.fns[i].body] 54)
        have HW := hid_ hW
        have HS := hid_ (same1_c (f := m.fns[i]) (g := m'.fns[i]) (hr1.below hW) (hr2.below hW) (hr3.below hW) (hr4.below hW) (HBd.out _ (List.getElem_mem hlt)).1 (HBd.out _ (List.getElem_mem hlt)).2)
        have e1 := getD_at hlt ⟨[], [], [], 0, 0⟩
        have e2 := getD_at hltb ⟨[], [], [], 0, 0⟩
        clear hr1 hr2 hr3 hr4 hW n0
        go_wp2_with fail
        refine HS.out.mono ?_
        rintro e w3 ⟨he, hb3⟩
        have HB3 := hid_ (HBl.out.trans ((HW.out.trans (hb3.mono HW.out.size)).mono HBl.out.size))
        clear hb3
        by_cases hc : m.fns[i] = m'.fns[i]
        · rw [decide_eq_true hc] at he
          subst he
          have HE := hid_ (show ∀ j, j < i + 1 → m.fns.getD j ⟨[], [], [], 0, 0⟩ = m'.fns.getD j ⟨[], [], [], 0, 0⟩ from fun j hj => by
            by_cases hji : j = i
            · subst hji; rw [e1, e2, hc]
            · exact HAll.out j (by omega))
          clear hc e1 e2
          go_wp2_with fail
          go_roundg (gk - 1)
          case rel => exact ⟨i + 1, by go_num, by omega, HE.out, HB3.out, by omega⟩
          case measure => omega
        · rw [decide_eq_false hc] at he
          subst he
          have HE := hid_ (show decide (m.fns = m'.fns) = false from decide_eq_false (fun h => hc (by rw [← e1, ← e2, h])))
          clear hc e1 e2
          go_wp2_with fail
          go_ret
          rw [HE.out]
          exact ⟨rfl, HB3.out⟩
      · have b1 : ¬ (i : Int) < (m.fns.length : Int) := by omega
        have HE := hid_ (show decide (m.fns = m'.fns) = true from decide_eq_true (List.ext_getElem HL.out (fun j h1 h2 => by
          have := HAll.out j (by omega)
          rw [getD_at h1, getD_at h2] at this
          exact this)))
        go_wp2_with fail
        go_ret
        rw [HE.out]
        exact ⟨rfl, HBl.out⟩
  · have q0 : ((m.fns.length : Int) != (m'.fns.length : Int)) = true := by
      rw [bne_iff_ne]
      intro h
      exact hl (by omega)
    have HE := hid_ (show decide (m.fns = m'.fns) = false from decide_eq_false (fun h => hl (by rw [h])))
    clear hl
    go_enter Tryz.func40, Tryz.ntmps40
    go_wp2_with fail
    go_ret
    rw [HE.out]
    exact ⟨rfl, Below.refl _ _⟩
set_option maxHeartbeats 8000000 in
set_option maxRecDepth 100000 in
theorem eqN_c {m m' : Tr.Md} {Ai At Af An Bi Bt Bf Bn : Option Addr} {c1 c2 : Nat} (ha : ModO w m Ai At Af An) (hb : ModO w m' Bi Bt Bf Bn) (hla : m.nodes.length ≤ 9223372036854775807) (hbd : ∀ x ∈ m.nodes, x.keys.length ≤ 9223372036854775807 ∧ x.l.length ≤ 9223372036854775807) :
    Calls Tryz.prog 41 #[.slice An m.nodes.length c1, .slice Bn m'.nodes.length c2, .func (.func 36) #[] #[]] w fun e w' => e = .returned (.bool (decide (m.nodes = m'.nodes))) ∧ Below w.heap.size w w' := by
  have HA := hid_ ha
  have HB := hid_ hb
  have HBd := hid_ hbd
  clear ha hb hbd
  by_cases hl : m.nodes.length = m'.nodes.length
  · have q0 : ((m.nodes.length : Int) != (m'.nodes.length : Int)) = false := by simp [hl]
    have HL := hid_ hl
    clear hl
    go_enter Tryz.func41, Tryz.ntmps41
    go_wp2_with fail
    go_loopg [7, 8, 9, 17] (m.nodes.length + 1) (fun g _ _ _ v wr => ∃ i : Nat, v = .int .i64 i ∧ i ≤ m.nodes.length ∧ (∀ j, j < i → m.nodes.getD j ⟨0, 0, [], [], [], []⟩ = m'.nodes.getD j ⟨0, 0, [], [], [], []⟩) ∧ Below w.heap.size w wr ∧ m.nodes.length - i + 1 ≤ g)
    case atStart => exact ⟨0, rfl, by omega, fun j h => by omega, Below.refl _ _, by omega⟩
    case round =>
      obtain ⟨i, rfl, hi, hall, hb, hg⟩ := hrel
      have HAll := hid_ hall
      have HBl := hid_ hb
      clear hall hb
      by_cases hlt : i < m.nodes.length
      · have b0 : (0 : Int) ≤ (i : Int) := by omega
        have b1 : (i : Int) < (m.nodes.length : Int) := by omega
        have hltb : i < m'.nodes.length := by have := HL.out; omega
        have b2 : (i : Int) < (m'.nodes.length : Int) := by omega
        obtain ⟨xb, xo, va, vb, rfl, x0, x1, x2, x3, x4, x5, hr1, hr2⟩ := (HA.out.below HBl.out).nd i hlt
        obtain ⟨yb, yo, vc, vd, rfl, y0, y1, y2, y3, y4, y5, hr3, hr4⟩ := (HB.out.below HBl.out).nd i hltb
        obtain ⟨Aa, ca, rfl⟩ := hr1.form
        obtain ⟨Ab, cb, rfl⟩ := hr2.form
        obtain ⟨Ac, cc, rfl⟩ := hr3.form
        obtain ⟨Ad, cd, rfl⟩ := hr4.form
        have z0 := fun o => below_cell (below_alloc wr o) y0
        have z1 := fun o => below_cell (below_alloc wr o) y1
        have z2 := fun o => below_cell (below_alloc wr o) y2
        have z3 := fun o => below_cell (below_alloc wr o) y3
        have z4 := fun o => below_cell (below_alloc wr o) y4
        have z5 := fun o => below_cell (below_alloc wr o) y5
        have n0 := fun o => (Blk.new wr 57 #[.int .i64 m.nodes[i].kind, .int .i64 m.nodes[i].num, .string (st m.nodes[i].mod), .string (st m.nodes[i].name), .slice Aa m.nodes[i].keys.length ca, .slice Ab m.nodes[i].l.length cb]).alloc o
        have hW := (below_alloc wr (.cells #[.int .i64 m.nodes[i].kind, .int .i64 m.nodes[i].num, .string (st m.nodes[i].mod), .string (st m.nodes[i].name), .slice Aa m.nodes[i].keys.length ca, .slice Ab m.nodes[i].l.length cb] 57)).alloc (by simp) (.cells #[.int .i64 m'.nodes[i].kind, .int .i64 m'.nodes[i].num, .string (st m'.nodes[i].mod), .string (st m'.nodes[i].name), .slice Ac m'.nodes[i].keys.length cc, .slice Ad m'.nodes[i].l.length cd] 57)
        have HW := hid_ hW
        have HS := hid_ (same2_c (f := m.nodes[i]) (g := m'.nodes[i]) (hr1.below hW) (hr2.below hW) (hr3.below hW) (hr4.below hW) (HBd.out _ (List.getElem_mem hlt)).1 (HBd.out _ (List.getElem_mem hlt)).2)
        have e1 := getD_at hlt ⟨0, 0, [], [], [], []⟩
        have e2 := getD_at hltb ⟨0, 0, [], [], [], []⟩
        clear hr1 hr2 hr3 hr4 hW n0
        go_wp2_with fail
        refine HS.out.mono ?_
        rintro e w3 ⟨he, hb3⟩
        have HB3 := hid_ (HBl.out.trans ((HW.out.trans (hb3.mono HW.out.size)).mono HBl.out.size))
        clear hb3
        by_cases hc : m.nodes[i] = m'.nodes[i]
        · rw [decide_eq_true hc] at he
          subst he
          have HE := hid_ (show ∀ j, j < i + 1 → m.nodes.getD j ⟨0, 0, [], [], [], []⟩ = m'.nodes.getD j ⟨0, 0, [], [], [], []⟩ from fun j hj => by
            by_cases hji : j = i
            · subst hji; rw [e1, e2, hc]
            · exact HAll.out j (by omega))
          clear hc e1 e2
          go_wp2_with fail
          go_roundg (gk - 1)
          case rel => exact ⟨i + 1, by go_num, by omega, HE.out, HB3.out, by omega⟩
          case measure => omega
        · rw [decide_eq_false hc] at he
          subst he
          have HE := hid_ (show decide (m.nodes = m'.nodes) = false from decide_eq_false (fun h => hc (by rw [← e1, ← e2, h])))
          clear hc e1 e2
          go_wp2_with fail
          go_ret
          rw [HE.out]
          exact ⟨rfl, HB3.out⟩
      · have b1 : ¬ (i : Int) < (m.nodes.length : Int) := by omega
        have HE := hid_ (show decide (m.nodes = m'.nodes) = true from decide_eq_true (List.ext_getElem HL.out (fun j h1 h2 => by
          have := HAll.out j (by omega)
          rw [getD_at h1, getD_at h2] at this
          exact this)))
        go_wp2_with fail
        go_ret
        rw [HE.out]
        exact ⟨rfl, HBl.out⟩
  · have q0 : ((m.nodes.length : Int) != (m'.nodes.length : Int)) = true := by
      rw [bne_iff_ne]
      intro h
      exact hl (by omega)
    have HE := hid_ (show decide (m.nodes = m'.nodes) = false from decide_eq_false (fun h => hl (by rw [h])))
    clear hl
    go_enter Tryz.func41, Tryz.ntmps41
    go_wp2_with fail
    go_ret
    rw [HE.out]
    exact ⟨rfl, Below.refl _ _⟩
end
end Go.Proofs.YtmgjmagniefhoaaGreatDoor
