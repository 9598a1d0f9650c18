/- What stands in these texts of the proof: Qd Jc Ka Lq. Conditions: those that each theorem names. -/
import Derived.Test.YtmgjmagniefhoaaGreatDoorAa23
import Derived.Test.YtmgjmagniefhoaaGreatDoorAa06
import Derived.WalkMore
import Derived.Deep.LoopGhost
import Derived.Test.YtmgjmagniefhoaaGreatDoorAa19
import Derived.Test.YtmgjmagniefhoaaGreatDoorAa22
import Derived.Deep.DeepCutAuto
import Derived.Test.YtmgjmagniefhoaaGreatDoorAa03
import Derived.Test.YtmgjmagniefhoaaGreatDoorCards
import Derived.Test.YtmgjmagniefhoaaGreatDoorTie
import Derived.ProofKit
import Derived.SizedLaws
import Derived.OpenShut
import Derived.Deep.DeepHandedRow
import Derived.Deep.DeepWitnessRowRef
import Derived.Deep.DeepLaidRun
import Derived.Lib.LaidTab
import Derived.Lib.LaidU8
import Derived.Deep.Slices
import Derived.Deep.Fields
/- tree.Same. Conditions: those that each theorem names. -/
namespace Go.Proofs.YtmgjmagniefhoaaGreatDoor
open Go.RowKit Go.Maps
section
variable {w w' : World}
theorem ModAt.open2 {v : Value} {m : Tr.Md} (h : ModAt w v m) : ∃ Ai ci At ct Af cf An cn, v = .agg #[.string (st m.name), .slice Ai m.imports.length ci, .slice At m.types.length ct, .slice Af m.fns.length cf, .slice An m.nodes.length cn] ∧ ModO w m Ai At Af An ∧
    RowAt w (.slice Ai m.imports.length ci) m.imports.length (strs m.imports) ∧ RowAt w (.slice At m.types.length ct) m.types.length (flatV m.types) := by
  obtain ⟨Ai, ci, At, ct, Af, cf, An, cn, hv, ho⟩ := h.open
  obtain ⟨iv, tv, fv, nv, _, hv2, h1, h2, _⟩ := h
  rw [hv] at hv2
  injection hv2 with hv2
  injection hv2 with hv2
  injection hv2 with _ hv2
  injection hv2 with e1 hv2
  injection hv2 with e2 _
  subst e1 e2
  exact ⟨_, _, _, _, _, _, _, _, hv, ho, h1, h2⟩
theorem md_ext : ∀ {a b : Tr.Md}, a.name = b.name → a.imports = b.imports → a.types = b.types → a.fns = b.fns → a.nodes = b.nodes → a = b
  | ⟨_, _, _, _, _⟩, ⟨_, _, _, _, _⟩, rfl, rfl, rfl, rfl, rfl => rfl
set_option maxHeartbeats 8000000 in
set_option maxRecDepth 100000 in
theorem same_c {va vb : Value} {m m' : Tr.Md} (ha : ModAt w va m) (hb : ModAt w vb m') : Calls Tryz.prog 14 #[va, vb] w fun e w' => e = .returned (.bool (decide (m = m'))) ∧ Below w.heap.size w w' := by
  have hS : MdS m := by
    obtain ⟨_, _, _, _, h, _⟩ := ha
    exact h
  obtain ⟨Ai, ci, At, ct, Af, cf, An, cn, rfl, ho1, i1, t1⟩ := ha.open2
  obtain ⟨Bi, di, Bt, dt, Bf, df, Bn, dn, rfl, ho2, i2, t2⟩ := hb.open2
  have hB1 := Blk.new w 31 #[.string (st m.name), .slice Ai m.imports.length ci, .slice At m.types.length ct, .slice Af m.fns.length cf, .slice An m.nodes.length cn]
  have hB2 := Blk.new (w.alloc (.cells #[.string (st m.name), .slice Ai m.imports.length ci, .slice At m.types.length ct, .slice Af m.fns.length cf, .slice An m.nodes.length cn] 31)) 31 #[.string (st m'.name), .slice Bi m'.imports.length di, .slice Bt m'.types.length dt, .slice Bf m'.fns.length df, .slice Bn m'.nodes.length dn]
  have hB1' := hB1.alloc (.cells #[.string (st m'.name), .slice Bi m'.imports.length di, .slice Bt m'.types.length dt, .slice Bf m'.fns.length df, .slice Bn m'.nodes.length dn] 31)
  have hW := (below_alloc w (.cells #[.string (st m.name), .slice Ai m.imports.length ci, .slice At m.types.length ct, .slice Af m.fns.length cf, .slice An m.nodes.length cn] 31)).alloc (by simp) (.cells #[.string (st m'.name), .slice Bi m'.imports.length di, .slice Bt m'.types.length dt, .slice Bf m'.fns.length df, .slice Bn m'.nodes.length dn] 31)
  rw [alloc_sz] at hB2
  have HB1 := hid_ hB1'
  have HB2 := hid_ hB2
  have HW := hid_ hW
  have HO1 := hid_ (ho1.below hW)
  have HO2 := hid_ (ho2.below hW)
  have HI1 := hid_ (i1.below hW)
  have HI2 := hid_ (i2.below hW)
  have HT1 := hid_ (t1.below hW)
  have HT2 := hid_ (t2.below hW)
  have HS := hid_ hS
  clear hB1 hB2 hB1' hW ha hb ho1 ho2 i1 i2 t1 t2 hS
  go_enter Tryz.func14, Tryz.ntmps14
  go_upto_region 3 with fail
  generalize (w.alloc (.cells #[.string (st m.name), .slice Ai m.imports.length ci, .slice At m.types.length ct, .slice Af m.fns.length cf, .slice An m.nodes.length cn] 31)).alloc (.cells #[.string (st m'.name), .slice Bi m'.imports.length di, .slice Bt m'.types.length dt, .slice Bf m'.fns.length df, .slice Bn m'.nodes.length dn] 31) = W at *
  have x0 : W.cell? ⟨w.heap.size, 0, none⟩ = some (.string (st m.name)) := HB1.out.cell 0
  have y0 : W.cell? ⟨w.heap.size + 1, 0, none⟩ = some (.string (st m'.name)) := HB2.out.cell 0
  have x1 : W.cell? ⟨w.heap.size, 1, none⟩ = some (.slice Ai m.imports.length ci) := HB1.out.cell 1
  have y1 : W.cell? ⟨w.heap.size + 1, 1, none⟩ = some (.slice Bi m'.imports.length di) := HB2.out.cell 1
  have x2 : W.cell? ⟨w.heap.size, 2, none⟩ = some (.slice At m.types.length ct) := HB1.out.cell 2
  have y2 : W.cell? ⟨w.heap.size + 1, 2, none⟩ = some (.slice Bt m'.types.length dt) := HB2.out.cell 2
  have x3 : W.cell? ⟨w.heap.size, 3, none⟩ = some (.slice Af m.fns.length cf) := HB1.out.cell 3
  have y3 : W.cell? ⟨w.heap.size + 1, 3, none⟩ = some (.slice Bf m'.fns.length df) := HB2.out.cell 3
  have x4 : W.cell? ⟨w.heap.size, 4, none⟩ = some (.slice An m.nodes.length cn) := HB1.out.cell 4
  have y4 : W.cell? ⟨w.heap.size + 1, 4, none⟩ = some (.slice Bn m'.nodes.length dn) := HB2.out.cell 4
  by_cases h0 : m.name = m'.name
  rotate_left
  · have q : ((st m.name).toList == (st m'.name).toList) = false := by rw [txt_is]; exact decide_eq_false h0
    have HE := hid_ (show decide (m = m') = false from decide_eq_false (fun h => h0 (by rw [h])))
    clear h0
    go_wp2_with fail
    go_ret
    rw [HE.out]
    exact ⟨rfl, HW.out⟩
  have q0 : ((st m.name).toList == (st m'.name).toList) = true := by rw [txt_is]; exact decide_eq_true h0
  have H0 := hid_ h0
  clear h0
  go_wp2_with fail
  refine (eqS_c HI1.out HI2.out HS.out.im).mono ?_
  rintro e w3 ⟨he, hb⟩
  have HW := hid_ (HW.out.trans (hb.mono HW.out.size))
  have HO1 := hid_ (HO1.out.below hb)
  have HO2 := hid_ (HO2.out.below hb)
  have HT1 := hid_ (HT1.out.below hb)
  have HT2 := hid_ (HT2.out.below hb)
  have x2 := below_cell hb x2
  have y2 := below_cell hb y2
  have x3 := below_cell hb x3
  have y3 := below_cell hb y3
  have x4 := below_cell hb x4
  have y4 := below_cell hb y4
  clear hb
  by_cases hc : m.imports = m'.imports
  rotate_left
  · rw [decide_eq_false hc] at he
    subst he
    have HE := hid_ (show decide (m = m') = false from decide_eq_false (fun h => hc (by rw [h])))
    clear hc
    go_wp2_with fail
    go_ret
    rw [HE.out]
    exact ⟨rfl, HW.out⟩
  rw [decide_eq_true hc] at he
  subst he
  have H1 := hid_ hc
  clear hc
  go_wp2_with fail
  refine (eqD_c HT1.out HT2.out HS.out.ty).mono ?_
  rintro e w4 ⟨he, hb⟩
  have HW := hid_ (HW.out.trans (hb.mono HW.out.size))
  have HO1 := hid_ (HO1.out.below hb)
  have HO2 := hid_ (HO2.out.below hb)
  have x3 := below_cell hb x3
  have y3 := below_cell hb y3
  have x4 := below_cell hb x4
  have y4 := below_cell hb y4
  clear hb
  by_cases hc : m.types = m'.types
  rotate_left
  · rw [decide_eq_false hc] at he
    subst he
    have HE := hid_ (show decide (m = m') = false from decide_eq_false (fun h => hc (by rw [h])))
    clear hc
    go_wp2_with fail
    go_ret
    rw [HE.out]
    exact ⟨rfl, HW.out⟩
  rw [decide_eq_true hc] at he
  subst he
  have H2 := hid_ hc
  clear hc
  go_wp2_with fail
  refine (eqF_c HO1.out HO2.out HS.out.fn HS.out.fb).mono ?_
  rintro e w5 ⟨he, hb⟩
  have HW := hid_ (HW.out.trans (hb.mono HW.out.size))
  have HO1 := hid_ (HO1.out.below hb)
  have HO2 := hid_ (HO2.out.below hb)
  have x4 := below_cell hb x4
  have y4 := below_cell hb y4
  clear hb
  by_cases hc : m.fns = m'.fns
  rotate_left
  · rw [decide_eq_false hc] at he
    subst he
    have HE := hid_ (show decide (m = m') = false from decide_eq_false (fun h => hc (by rw [h])))
    clear hc
    go_wp2_with fail
    go_ret
    rw [HE.out]
    exact ⟨rfl, HW.out⟩
  rw [decide_eq_true hc] at he
  subst he
  have H3 := hid_ hc
  clear hc
  go_wp2_with fail
  refine (eqN_c HO1.out HO2.out HS.out.nd HS.out.nb).mono ?_
  rintro e w6 ⟨he, hb⟩
  have HW := hid_ (HW.out.trans (hb.mono HW.out.size))
  clear hb
  by_cases hc : m.nodes = m'.nodes
  rotate_left
  · rw [decide_eq_false hc] at he
    subst he
    have HE := hid_ (show decide (m = m') = false from decide_eq_false (fun h => hc (by rw [h])))
    clear hc
    go_wp2_with fail
    go_ret
    rw [HE.out]
    exact ⟨rfl, HW.out⟩
  rw [decide_eq_true hc] at he
  subst he
  have HE := hid_ (show decide (m = m') = true from decide_eq_true (md_ext H0.out H1.out H2.out H3.out hc))
  clear hc
  go_wp2_with fail
  go_ret
  rw [HE.out]
  exact ⟨rfl, HW.out⟩
end
end Go.Proofs.YtmgjmagniefhoaaGreatDoor

/- Join, of more words. Conditions: those that each theorem names. -/
namespace Go.Proofs.YtmgjmagniefhoaaGreatDoor
open Go.RowKit Go.Maps
theorem join_strsW {W : World} {B : Nat} {v : Value} {L : List (List UInt8)} (h : W.ownsRow B 9 1 v L.length (strs L)) (hl : L.length ≤ 100000) (ht : ∀ t ∈ L, t.length ≤ 1001) :
    Calls Tryz.prog 60 #[v, .string ⟨#[32]⟩] W fun e w' => e = .returned (.string (st (Lib.join L [32]))) ∧ Below W.heap.size W w' := by
  obtain ⟨A, c, rfl⟩ := own_form h
  obtain ⟨h1, h2, h3, h4, h5⟩ := own_parts h
  cases A with
  | none =>
    obtain ⟨e0, _⟩ := h1 rfl
    have eL : L = [] := List.length_eq_zero_iff.1 e0
    subst eL
    refine (Tryz.strings_Join_none none c ⟨#[32]⟩ W).mono ?_
    rintro e w' ⟨rfl, rfl⟩
    exact ⟨rfl, Below.refl _ _⟩
  | some ad =>
    obtain ⟨g, rfl⟩ := h4 ad rfl
    have em : ((L.map st).map (·.data.toList)) = L := by
      rw [List.map_map]
      exact (List.map_congr_left (fun t _ => bl_st t)).trans (List.map_id _)
    have hb : (Lib.join L [32]).length ≤ 140737488355328 := by
      cases L with
      | nil => simp [Lib.join_nil]
      | cons x r =>
        rw [Lib.join_length]
        have := lens_le (x :: r) ht
        simp only [List.length_cons, List.length_nil] at this hl ⊢
        omega
    have := Tryz.strings_Join g 0 c (L.map st) ⟨#[32]⟩ W (fun j x hx => by
      rw [Nat.zero_add]
      refine own_cell h j _ ?_
      unfold strs
      rw [List.getElem?_map] at hx ⊢
      cases hj : L[j]? with
      | none => rw [hj] at hx; cases hx
      | some t => rw [hj] at hx; injection hx with hx; rw [← hx]; rfl) (h5 g rfl) (by rw [List.length_map]; omega) (by rw [List.length_map]; exact h2) (by rw [em]; exact hb)
    rw [List.length_map, em] at this
    exact this
set_option maxHeartbeats 4000000 in
set_option maxRecDepth 100000 in
theorem lex_JoinW {w : World} {v : Value} {ws : List Lx.Wd} (h : WsAt w v ws) (hl : ws.length ≤ 100000) (ht : ∀ x ∈ ws, x.text.length ≤ 1000) : Calls Tryz.prog 26 #[v] w fun e w' => e = .returned (.string (st (Lx.joinL ws))) ∧ Below w.heap.size w w' := by
  obtain ⟨A, c, rfl, hn, hA⟩ := h
  obtain ⟨i0, hi0, hz0, hz1, hz2⟩ := info_parts Tryz.infoS
  go_enter Tryz.func26, Tryz.ntmps26
  go_wp2_with fail
  go_loopg [3, 8] (ws.length + 1) (fun g t3 t8 wr => ∃ (k : Nat) (v : Value), t3 = v ∧ t8 = .int .i64 k ∧ k ≤ ws.length ∧ ws.length + 1 - k ≤ g ∧ JR w wr ws k v)
  case atStart => exact ⟨0, _, rfl, rfl, by omega, by omega, World.ownsRow_nil _ _ _ _, Below.refl _ _⟩
  case round =>
    obtain ⟨k, v, rfl, rfl, hk, hg, hJ⟩ := hrel
    obtain ⟨B, d, rfl⟩ := own_form hJ.own
    have HJ := hid_ hJ
    have hbw := hJ.bel
    have hpl := parts_le (ws.take k)
    rw [List.length_take] at hpl
    clear hJ
    by_cases hlt : k < ws.length
    · have b0 : (0 : Int) ≤ (k : Int) := by omega
      have b1 : (k : Int) < (ws.length : Int) := by omega
      have htx := ht ws[k] (List.getElem_mem hlt)
      cases A with
      | none => have := hn rfl; subst this; simp at hlt
      | some a =>
        obtain ⟨b, off, n⟩ := a
        obtain ⟨rfl, hcx⟩ := hA b off n rfl
        have x0 : wr.cell? ⟨b, off + k * 4, none⟩ = some (.int .i64 ws[k].kind) := below_cell hbw (hcx k hlt 0 (by omega))
        have x1 : wr.cell? ⟨b, off + k * 4 + 1, none⟩ = some (.string (st ws[k].text)) := below_cell hbw (hcx k hlt 1 (by omega))
        have x2 : wr.cell? ⟨b, off + k * 4 + 2, none⟩ = some (.int .i64 ws[k].num) := below_cell hbw (hcx k hlt 2 (by omega))
        have x3 : wr.cell? ⟨b, off + k * 4 + 3, none⟩ = some (.int .i64 ws[k].pos) := below_cell hbw (hcx k hlt 3 (by omega))
        have HP := hid_ (show Lx.part ws[k] = _ from rfl)
        have hkf : ((Lx.parts (ws.take k)).length + 1) * 16 ≤ 140737488355328 := by omega
        have HM := hid_ (show (Lx.parts (ws.take k)).length + 1 ≤ maxLen by unfold maxLen; omega)
        clear hbw
        by_cases p7 : ws[k].kind = 7
        · have HN := hid_ (HP.out.trans (if_pos p7))
          go_wp2_with fail
          go_roundg (gk - 1)
          case rel => exact ⟨k + 1, _, rfl, by go_num, by omega, by omega, HJ.out.skip hlt HN.out ((Below.refl _ _).alloc (Nat.le_refl _) _)⟩
          case measure => omega
        · have HN := hid_ (HP.out.trans (if_neg p7))
          by_cases p4 : ws[k].kind = 4
          · have HN2 := hid_ (HN.out.trans (if_pos p4))
            have q9 := quote_st ws[k].text
            have q8 : ¬ (9223372036854775807 < 1 + (st ws[k].text).size) := by rw [st_size]; omega
            obtain ⟨W, hW⟩ : ∃ W, W = (wr.alloc (.cells #[.int .i64 4, .string (st ws[k].text), .int .i64 ws[k].num, .int .i64 ws[k].pos] 88)).alloc (.cells #[.string (st (39 :: ws[k].text))] 9) := ⟨_, rfl⟩
            have hW2 : Below wr.heap.size wr W := by rw [hW]; exact ((Below.refl _ _).alloc (Nat.le_refl _) _).alloc (by simp) _
            have HWW := hid_ (HJ.out.below hW2)
            have HSz := hid_ HWW.out.bel.size
            have HNw := hid_ (show ∀ ad, some (⟨wr.heap.size + 1, 0, none⟩ : Addr) = some ad → ∀ (j : Nat) u, [Value.string (st (39 :: ws[k].text))][j]? = some u → W.cell? (ad.add j) = some u from fun ad had => by
              injection had with had
              subst had
              rw [hW]
              have := World.news_of_block (heap_alloc_new (wr.alloc (.cells #[.int .i64 4, .string (st ws[k].text), .int .i64 ws[k].num, .int .i64 ws[k].pos] 88)) (.cells #[.string (st (39 :: ws[k].text))] 9))
              simpa using this)
            rw [hW] at HNw HWW HSz
            clear hW hW2
            go_wp2_with (first | (at_builtin; go_loud (refine wpList_append_any rfl (.tmp 20) (.tmp 24) 26 rfl w.heap.size 9 i0 _ 1 16 Tryz.underlying26 hi0 hz0 hz1 hz2 rfl (by omega) (.slice B (Lx.parts (ws.take k)).length d) (Lx.parts (ws.take k)).length _ rfl HWW.out.own (some ⟨wr.heap.size + 1, 0, none⟩) 1 1 [.string (st (39 :: ws[k].text))] rfl rfl (fun h => by cases h) HNw.out (by simp [Value.oneCell']) HM.out (by omega) HSz.out ?_); intro A1 c1 w1 hown hgrow hat; clear hat) | fail)
            have HNx := hid_ (HWW.out.add hlt HN2.out hgrow hown)
            go_roundg (gk - 1)
            case rel => exact ⟨k + 1, _, rfl, by go_num, by omega, by omega, HNx.out⟩
            case measure => omega
          · have HN2 := hid_ (HN.out.trans (if_neg p4))
            by_cases pt : ws[k].text = []
            · have HN3 := hid_ (HN2.out.trans (if_pos pt))
              have q0 := str_none pt
              clear pt
              go_wp2_with fail
              go_roundg (gk - 1)
              case rel => exact ⟨k + 1, _, rfl, by go_num, by omega, by omega, HJ.out.skip hlt HN3.out ((Below.refl _ _).alloc (Nat.le_refl _) _)⟩
              case measure => omega
            · have HN3 := hid_ (HN2.out.trans (if_neg pt))
              have q0 := str_some pt
              clear pt
              obtain ⟨W, hW⟩ : ∃ W, W = (wr.alloc (.cells #[.int .i64 ws[k].kind, .string (st ws[k].text), .int .i64 ws[k].num, .int .i64 ws[k].pos] 88)).alloc (.cells #[.string (st (ws[k].text))] 9) := ⟨_, rfl⟩
              have hW2 : Below wr.heap.size wr W := by rw [hW]; exact ((Below.refl _ _).alloc (Nat.le_refl _) _).alloc (by simp) _
              have HWW := hid_ (HJ.out.below hW2)
              have HSz := hid_ HWW.out.bel.size
              have HNw := hid_ (show ∀ ad, some (⟨wr.heap.size + 1, 0, none⟩ : Addr) = some ad → ∀ (j : Nat) u, [Value.string (st (ws[k].text))][j]? = some u → W.cell? (ad.add j) = some u from fun ad had => by
                injection had with had
                subst had
                rw [hW]
                have := World.news_of_block (heap_alloc_new (wr.alloc (.cells #[.int .i64 ws[k].kind, .string (st ws[k].text), .int .i64 ws[k].num, .int .i64 ws[k].pos] 88)) (.cells #[.string (st (ws[k].text))] 9))
                simpa using this)
              rw [hW] at HNw HWW HSz
              clear hW hW2
              go_wp2_with (first | (at_builtin; go_loud (refine wpList_append_any rfl (.tmp 30) (.tmp 33) 26 rfl w.heap.size 9 i0 _ 1 16 Tryz.underlying26 hi0 hz0 hz1 hz2 rfl (by omega) (.slice B (Lx.parts (ws.take k)).length d) (Lx.parts (ws.take k)).length _ rfl HWW.out.own (some ⟨wr.heap.size + 1, 0, none⟩) 1 1 [.string (st (ws[k].text))] rfl rfl (fun h => by cases h) HNw.out (by simp [Value.oneCell']) HM.out (by omega) HSz.out ?_); intro A1 c1 w1 hown hgrow hat; clear hat) | fail)
              have HNx := hid_ (HWW.out.add hlt HN3.out hgrow hown)
              go_roundg (gk - 1)
              case rel => exact ⟨k + 1, _, rfl, by go_num, by omega, by omega, HNx.out⟩
              case measure => omega
    · have b1 : ¬ (k : Int) < (ws.length : Int) := by omega
      have hkl : k = ws.length := by omega
      subst hkl
      have hjo := HJ.out.own
      rw [List.take_of_length_le (Nat.le_refl _)] at hjo hpl
      have HO := hid_ hjo
      have HBl := hid_ HJ.out.bel
      have HJn := hid_ (join_strsW hjo (by omega) (fun t htm => by
        obtain ⟨x, hx, hp⟩ := List.mem_filterMap.1 htm
        have := part_le hp
        have := ht x hx
        omega))
      rw [List.take_of_length_le (Nat.le_refl _)]
      clear hjo
      go_wp2_with fail
      refine HJn.out.mono ?_
      rintro e w2 ⟨rfl, hb2⟩
      have HB2 := hid_ hb2
      clear hb2
      go_wp2_with fail
      go_ret
      exact ⟨rfl, HBl.out.trans (HB2.out.mono HBl.out.size)⟩
end Go.Proofs.YtmgjmagniefhoaaGreatDoor

/- TreeBlanks, walked. Conditions: those that each theorem names. -/
namespace Go.Proofs.YtmgjmagniefhoaaGreatDoor
open Go.RowKit Go.Maps
section
variable {w w' : World}
theorem words_small {s : ByteArray} (h : (wordsR s).2.2 = 0) : (wordsR s).1.length ≤ s.size + 2 ∧ ∀ x ∈ (wordsR s).1, x.text.length ≤ 1000 := by
  obtain ⟨_, ws, hc, hw, hf, _⟩ := wordsR_ok h
  obtain ⟨hg, _⟩ := Lx.cutF_strip _ _ _ _ hc
  rw [hw]
  refine ⟨by show (ws ++ [endW s]).length ≤ _; rw [List.length_append]; show ws.length + 1 ≤ _; omega, fun x hx => ?_⟩
  rcases List.mem_append.1 hx with hx | hx
  · have : x.text.length ≤ 20 := (hg x hx).few
    omega
  · rw [List.mem_singleton.1 hx]; exact Nat.zero_le _
theorem join_small {s : ByteArray} (h : (wordsR s).2.2 = 0) : (Lx.joinL (wordsR s).1).length ≤ 2 * s.size := by
  obtain ⟨_, ws, hc, hw, _, _⟩ := wordsR_ok h
  obtain ⟨hg, hsum⟩ := Lx.cutF_strip _ _ _ _ hc
  rw [bl_len] at hsum
  have hl := Lx.blank_len (e := endW s) hg rfl
  unfold Lx.blankT at hl
  rw [hw]
  show (Lx.joinL (ws ++ [endW s])).length ≤ _
  simp only [List.length_append, List.length_cons, List.length_nil] at hl
  omega
set_option maxHeartbeats 8000000 in
set_option maxRecDepth 100000 in
theorem blanks_c (hv : Env w) {sv : Value} {N : List Int} (hr : RowAt w sv N.length (ints N)) (hcp : ∀ A n c, sv = .slice A n c → n ≤ c ∧ c ≤ 100000000000000) (hlow : ∀ b off q n c, sv = .slice (some ⟨b, off, q⟩) n c → b < w.heap.size) (t : ByteArray) (ht : t.size ≤ 200000000000000) :
    Calls Tryz.prog 8 #[.agg #[sv], .string t] w fun e w' => e = .returned (.bool true) ∧ Below w.heap.size w w' := by
  obtain ⟨A, c, rfl⟩ := hr.form
  have HV := hid_ hv
  have HR := hid_ hr
  have HCp := hid_ hcp
  have HLow := hid_ hlow
  have HB0 := hid_ (below_alloc w (.cells #[.slice A N.length c] 24))
  have HBk := hid_ (Blk.new w 24 #[.slice A N.length c])
  have c0 : (w.alloc (.cells #[.slice A N.length c] 24)).cell? ⟨w.heap.size, 0, none⟩ = some (.slice A N.length c) := HBk.out.cell 0
  clear hv hr hcp hlow
  go_enter Tryz.func8, Tryz.ntmps8
  go_upto_region 1 with fail
  generalize w.alloc (.cells #[.slice A N.length c] 24) = W0 at *
  have hmin : (min (t.size : Int) 3000).toNat = min t.size 3000 := by omega
  have HMin := hid_ hmin
  have hmm : 0 ≤ min (t.size : Int) 3000 ∧ min (t.size : Int) 3000 ≤ (t.size : Int) := by omega
  have HMd := hid_ (fun (W1 : World) (h1 : Below W0.heap.size W0 W1) => made_c (w := W1) ((HR.out.below HB0.out).below h1) HCp.out (fun b off q n c h => Nat.lt_of_lt_of_le (HLow.out b off q n c h) (Nat.le_trans HB0.out.size h1.size)) 0 (by omega))
  clear hmin HBk
  go_cut [5] (fun s5 wx => ∃ (q : Nat) (t' : ByteArray), s5 = .slice (some ⟨q, 0, none⟩) 2 2 ∧ wx.cell? ⟨q, 0, none⟩ = some (.string (st (madeT 0 N))) ∧ wx.cell? ⟨q, 1, none⟩ = some (.string t') ∧ t'.size ≤ 3000 ∧ Below w.heap.size w wx)
  case first =>
    go_region_law (first
      | (go_simp; go_at_call 11; refine (HMd.out _ (by first | exact (Below.refl _ _).drew | exact Below.refl _ _)).mono ?_; intro e w2 hE; obtain ⟨rfl, hb⟩ := hE; have HB2 := hid_ (HB0.out.trans ((show Below W0.heap.size W0 w2 from (Below.drew (Below.refl _ _)).trans hb).mono HB0.out.size)); clear hb)
      | fail)
    all_goals
      have hbk := Blk.new w2 9 #[.string (st (madeT 0 N)), .string (t.extract 0 (min (t.size : Int) 3000).toNat)]
      have hbb := HB2.out.trans ((below_alloc w2 (.cells #[.string (st (madeT 0 N)), .string (t.extract 0 (min (t.size : Int) 3000).toNat)] 9)).mono HB2.out.size)
      have HFin := hid_ (And.intro hbk hbb)
      clear hbk hbb
      go_wp2_with fail
      go_meet
      exact ⟨_, _, rfl, HFin.out.1.cell 0, HFin.out.1.cell 1, by rw [ByteArray.size_extract]; omega, HFin.out.2⟩
  case rest =>
    obtain ⟨q, t', rfl, hq0, hq1, ht', hbw⟩ := hcut
    have HQ := hid_ (show ∃ X0 X1 : ByteArray, X0.size ≤ 30000 ∧ X1.size ≤ 30000 ∧ wc.cell? ⟨q, 0, none⟩ = some (.string X0) ∧ wc.cell? ⟨q, 1, none⟩ = some (.string X1) from ⟨_, _, by rw [st_size]; have := madeT_few 0 (by omega) N; omega, by omega, hq0, hq1⟩)
    have HBw := hid_ hbw
    obtain ⟨X0, X1, hX0, hX1, hq0, hq1⟩ := HQ.out
    have HX0 := hid_ hX0
    have HX1 := hid_ hX1
    have HQ0 := hid_ hq0
    have HQ1 := hid_ hq1
    have HVc := hid_ (HV.out.below hbw)
    clear hbw ht' c0 hmm HMin HMd HCp HLow HR HB0 HQ hX0 hX1 hq0 hq1
    go_wp2_with fail
    go_loopg [6, 7, 8, 9, 10, 11, 12, 13, 14, 15] (2 + 1) (fun g v6 _ _ _ _ _ _ _ _ _ wr => ∃ i : Nat, v6 = .int .i64 i ∧ i ≤ 2 ∧ Below wc.heap.size wc wr ∧ 2 - i + 1 ≤ g)
    case atStart => exact ⟨0, rfl, by omega, Below.refl _ _, by omega⟩
    case round =>
      obtain ⟨i, rfl, hi, hb, hg⟩ := hrel
      have HBl := hid_ hb
      clear hb
      by_cases hlt : i < 2
      · have b0 : (0 : Int) ≤ (i : Int) := by omega
        have b1 : (i : Int) < 2 := by omega
        have hx : ∃ X : ByteArray, X.size ≤ 30000 ∧ wr.cell? ⟨q, i, none⟩ = some (.string X) := by
          rcases (show i = 0 ∨ i = 1 by omega) with rfl | rfl
          · exact ⟨X0, HX0.out, below_cell HBl.out HQ0.out⟩
          · exact ⟨X1, HX1.out, below_cell HBl.out HQ1.out⟩
        obtain ⟨X, hX, x0⟩ := hx
        have HVr := hid_ (HVc.out.below HBl.out)
        go_wp2_with fail
        refine (lex_WordsU HVr.out X (by omega)).mono ?_
        rintro e w3 ⟨v, hws, rfl, hb3⟩
        have HB3 := hid_ (HBl.out.trans (hb3.mono HBl.out.size))
        have HWs := hid_ hws
        have x3 := below_cell hb3 x0
        have HV3 := hid_ (HVr.out.below hb3)
        clear hb3 hws
        by_cases h0 : (wordsR X).2.2 = 0
        · have q0 : ((wordsR X).2.2 != 0) = false := by simp [h0]
          have H0 := hid_ h0
          clear h0
          go_wp2_with fail
          refine (parse_c HV3.out X (by omega)).mono ?_
          rintro e w4 ⟨va, hma, rfl, hb4⟩
          have HMa := hid_ hma
          obtain ⟨Ai, ci, At, ct, Af, cf, An, cn, hva, _⟩ := hma.open2
          subst hva
          have HB4 := hid_ (HB3.out.trans (hb4.mono HB3.out.size))
          have HV4 := hid_ (HV3.out.below hb4)
          have HWs4 := hid_ (HWs.out.below hb4)
          have HBa4 := hid_ (Blk.new w4 31 #[.string (st (parseR X).1.name), .slice Ai (parseR X).1.imports.length ci, .slice At (parseR X).1.types.length ct, .slice Af (parseR X).1.fns.length cf, .slice An (parseR X).1.nodes.length cn])
          have HA4 := hid_ (below_alloc w4 (.cells #[.string (st (parseR X).1.name), .slice Ai (parseR X).1.imports.length ci, .slice At (parseR X).1.types.length ct, .slice Af (parseR X).1.fns.length cf, .slice An (parseR X).1.nodes.length cn] 31))
          clear hma hb4 x0 x3
          go_wp2_with fail
          refine (lex_JoinW (HWs4.out.below HA4.out) (by have := (words_small H0.out).1; omega) (words_small H0.out).2).mono ?_
          rintro e w5 ⟨rfl, hb5⟩
          have HB5 := hid_ (HB4.out.trans ((HA4.out.trans (hb5.mono HA4.out.size)).mono HB4.out.size))
          have HV5 := hid_ ((HV4.out.below HA4.out).below hb5)
          have HMa5 := hid_ ((HMa.out.below HA4.out).below hb5)
          have HBa5 := hid_ (HBa4.out.kp (Kp.of_below hb5 fun _ => False) id)
          have zj : (st (Lx.joinL (wordsR X).1)).size ≤ 60000 := by rw [st_size]; have := join_small H0.out; omega
          have HEq := hid_ (show (⟨#[35, 32, 40, 10]⟩ : ByteArray) ++ st (Lx.joinL (wordsR X).1) ++ ⟨#[32, 35, 41]⟩ = st (Lx.blankT (wordsR X).1) from by apply bl_inj; simp only [bl_app, bl_st]; rfl)
          have HPb := hid_ (parse_blank H0.out hX)
          clear hb5
          go_wp2_with fail
          refine (parse_c HV5.out _ (by rw [ByteArray.size_append, ByteArray.size_append]; show 4 + _ + 3 ≤ _; omega)).mono ?_
          rintro e w6 ⟨vb, hmb, he, hb6⟩
          rw [HEq.out, HPb.out.1] at hmb
          rw [HEq.out, HPb.out.2] at he
          subst he
          have HMb := hid_ hmb
          obtain ⟨Bi, di, Bt, dt, Bf, df, Bn, dn, hvb, _⟩ := hmb.open2
          subst hvb
          have HB6 := hid_ (HB5.out.trans (hb6.mono HB5.out.size))
          have HMa6 := hid_ (HMa5.out.below hb6)
          have HBa6 := hid_ (HBa5.out.kp (Kp.of_below hb6 fun _ => False) id)
          have HBb := hid_ (Blk.new w6 31 #[.string (st (parseR X).1.name), .slice Bi (parseR X).1.imports.length di, .slice Bt (parseR X).1.types.length dt, .slice Bf (parseR X).1.fns.length df, .slice Bn (parseR X).1.nodes.length dn])
          have HA6 := hid_ (below_alloc w6 (.cells #[.string (st (parseR X).1.name), .slice Bi (parseR X).1.imports.length di, .slice Bt (parseR X).1.types.length dt, .slice Bf (parseR X).1.fns.length df, .slice Bn (parseR X).1.nodes.length dn] 31))
          have HBa := hid_ (HBa6.out.alloc (.cells #[.string (st (parseR X).1.name), .slice Bi (parseR X).1.imports.length di, .slice Bt (parseR X).1.types.length dt, .slice Bf (parseR X).1.fns.length df, .slice Bn (parseR X).1.nodes.length dn] 31))
          have HSame := hid_ (same_c (HMa6.out.below HA6.out) (HMb.out.below HA6.out))
          clear hmb hb6 zj
          go_upto_region 9 with fail
          generalize w6.alloc (.cells #[.string (st (parseR X).1.name), .slice Bi (parseR X).1.imports.length di, .slice Bt (parseR X).1.types.length dt, .slice Bf (parseR X).1.fns.length df, .slice Bn (parseR X).1.nodes.length dn] 31) = W7 at *
          have a0 : W7.cell? ⟨w4.heap.size, 0, none⟩ = some (.string (st (parseR X).1.name)) := HBa.out.cell 0
          have m0 : W7.cell? ⟨w6.heap.size, 0, none⟩ = some (.string (st (parseR X).1.name)) := HBb.out.cell 0
          have a1 : W7.cell? ⟨w4.heap.size, 1, none⟩ = some (.slice Ai (parseR X).1.imports.length ci) := HBa.out.cell 1
          have m1 : W7.cell? ⟨w6.heap.size, 1, none⟩ = some (.slice Bi (parseR X).1.imports.length di) := HBb.out.cell 1
          have a2 : W7.cell? ⟨w4.heap.size, 2, none⟩ = some (.slice At (parseR X).1.types.length ct) := HBa.out.cell 2
          have m2 : W7.cell? ⟨w6.heap.size, 2, none⟩ = some (.slice Bt (parseR X).1.types.length dt) := HBb.out.cell 2
          have a3 : W7.cell? ⟨w4.heap.size, 3, none⟩ = some (.slice Af (parseR X).1.fns.length cf) := HBa.out.cell 3
          have m3 : W7.cell? ⟨w6.heap.size, 3, none⟩ = some (.slice Bf (parseR X).1.fns.length df) := HBb.out.cell 3
          have a4 : W7.cell? ⟨w4.heap.size, 4, none⟩ = some (.slice An (parseR X).1.nodes.length cn) := HBa.out.cell 4
          have m4 : W7.cell? ⟨w6.heap.size, 4, none⟩ = some (.slice Bn (parseR X).1.nodes.length dn) := HBb.out.cell 4
          go_wp2_with fail
          refine HSame.out.mono ?_
          rintro e w8 ⟨he, hb8⟩
          have he : e = .returned (.bool true) := he.trans (by simp)
          subst he
          have HB8 := hid_ (HB6.out.trans ((HA6.out.trans (hb8.mono HA6.out.size)).mono HB6.out.size))
          clear hb8 a0 a1 a2 a3 a4 m0 m1 m2 m3 m4
          go_wp2_with fail
          go_roundg (gk - 1)
          case rel => exact ⟨i + 1, by go_num, by omega, HB8.out, by omega⟩
          case measure => omega
        · have q0 : ((wordsR X).2.2 != 0) = true := by simp [h0]
          clear h0
          go_wp2_with fail
          go_roundg (gk - 1)
          case rel => exact ⟨i + 1, by go_num, by omega, HB3.out, by omega⟩
          case measure => omega
      · have b1 : ¬ (i : Int) < 2 := by omega
        have HV5 := hid_ (HVc.out.below HBl.out)
        go_wp2_with fail
        refine (works_c HV5.out).mono ?_
        rintro e w5 ⟨rfl, hb5⟩
        have HB5 := hid_ (HBw.out.trans ((HBl.out.trans (hb5.mono HBl.out.size)).mono HBw.out.size))
        clear hb5
        go_wp2_with fail
        go_ret
        exact ⟨rfl, HB5.out⟩
end
end Go.Proofs.YtmgjmagniefhoaaGreatDoor

/- From a walk to a law's row where package-level variables are laid: the variables' contents (Env), a world that meets the condition. Conditions: those that each theorem names. -/
namespace Go.Proofs.YtmgjmagniefhoaaGreatDoor
open Go.ChangeShapes Go.WideShapes Go.ChangeAt Go.RowKit Go.Deep

theorem own_ : ownKnob Tryz.prog.godebug = none := by kernel_rfl
theorem laid_ : laidOutB Tryz.prog = true := by kernel_rfl

theorem below_trodAll {H : Type} {enc : TypeId × Value → H} {P : Program} (hl : laidOutB P = true) {W W' : World} (hb : Below W.heap.size W W') :
    ∀ {ts : List TypeId} {vs : List Value} {ds : List (DataW H)} {ps : List MemPlace}, (∀ t ∈ ts, P.readableRec t = true ∧ t < P.types.size) → DataW.TrodAll enc P W 0 (fun _ => true) true ts vs ds ps → (∀ x ∈ ps, x.block < W.heap.size) →
      DataW.TrodAll enc P W' 0 (fun b => decide (b < W.heap.size)) true ts vs ds ps
  | [], _, _, _, _, h, _ => by
    obtain ⟨rfl, rfl, rfl⟩ := trodAll_nil h
    exact trodAll_mk0
  | t :: ts, _, _, _, ht, h, hlt => by
    obtain ⟨v, vs, d, ds, p, q, rfl, rfl, rfl, h1, h2⟩ := trodAll_cons h
    exact trodAll_cons_mk (Below.trod hl (ht t (by simp)).1 (ht t (by simp)).2 h1 hb (fun x hx => hlt x (by simp [hx])))
      (below_trodAll hl hb (fun u hu => ht u (by simp [hu])) h2 (fun x hx => hlt x (by simp [hx])))
theorem trodAll_ds {H : Type} {enc : TypeId × Value → H} {P : Program} {W : World} : ∀ {ts : List TypeId} {vs : List Value} {ds : List (DataW H)} {ps : List MemPlace}, DataW.TrodAll enc P W 0 (fun _ => true) true ts vs ds ps → ds.length = ts.length
  | [], _, _, _, h => by
    obtain ⟨rfl, rfl, rfl⟩ := trodAll_nil h
    rfl
  | t :: ts, _, _, _, h => by
    obtain ⟨v, vs, d, ds, p, q, rfl, rfl, rfl, _, h2⟩ := trodAll_cons h
    simp [trodAll_ds h2]

/-- An array of texts that reads as the table holds its texts. -/
theorem strs_of_tab {H : Type} {enc : TypeId × Value → H} {P : Program} {w : World} {base : Nat} {sp : Nat → Bool} {held : Bool} {fuel : Nat} {t e : TypeId} {n : Nat} {cs : List Value} {l : List (List UInt8)} {p : List MemPlace}
    (ht : P.underlying t = some (.array n e)) (he : P.underlying e = some .string) (hce : P.cellsOf e = 1) (hct : P.cellsOf t = n)
    (h : DataW.trod enc P w base sp held fuel t cs = some (.agg (l.map fun k => .lit (.string k)), p)) : cs = l.map fun k => Value.string (st k) := by
  cases fuel with
  | zero => simp [DataW.trod] at h
  | succ fuel =>
    simp only [DataW.trod, ht, hce, hct, Nat.mul_one] at h
    split at h
    · rename_i hl
      obtain ⟨xs, hm, hx⟩ := Option.map_eq_some_iff.1 h
      have hxs : xs.map (·.1) = l.map fun k => (DataW.lit (.string k) : DataW H) := by
        have := congrArg Prod.fst hx
        simpa using this
      have hxl : xs.length = n := by simpa using Lib.mapM_length hm
      have hzl : l.length = n := by
        have := congrArg List.length hxs
        simp at this
        omega
      apply List.ext_getElem?
      intro i
      by_cases hi : i < n
      · obtain ⟨b, hb, hf⟩ := Lib.mapM_at hm i i (by simp [hi])
        obtain ⟨z, hc, rfl, _⟩ := DataW.trod_string he hf
        have h1 : cs[i]? = some (.string z) := by
          have := congrArg (·[0]?) hc
          simpa [List.getElem?_take, List.getElem?_drop] using this
        have h2 : (xs.map (·.1))[i]? = some (DataW.lit (.string z.data.toList) : DataW H) := by simp [hb]
        rw [hxs] at h2
        simp only [List.getElem?_map, Option.map_eq_some_iff, DataW.lit.injEq, Lit.string.injEq] at h2
        obtain ⟨z', hz', e⟩ := h2
        subst e
        rw [h1, List.getElem?_map, hz']
        rfl
      · rw [List.getElem?_eq_none (by omega), List.getElem?_eq_none (by simp; omega)]
    · cases h

def laidL : List (String × DataW Unit) := Rows.treeBlanksRow.laid
/-- What the row's list gives. -/
theorem env_of {W : World} (h0 : laidMetH Tryz.prog laidL W) : Env W := by
  have h : laidMet Tryz.prog laidL W := h0
  have hm : ∀ i (n : String) (d : DataW Unit), laidL[i]? = some (n, d) → Lib.VarReads Tryz.prog W n d := fun i n d hi => Lib.laidMet.reads h (List.mem_of_getElem? hi)
  obtain ⟨g1, t1, c1, f1, p1, e1, y1, v1, r1⟩ := hm 2 "internal/strconv.uint64pow10" Rows.laid_internal_strconv_uint64pow10 rfl
  obtain ⟨g2, t2, c2, f2, p2, e2, y2, v2, r2⟩ := hm 3 "strconv.ErrRange" Rows.laid_strconv_ErrRange rfl
  obtain ⟨g3, t3, c3, f3, p3, e3, y3, v3, r3⟩ := hm 4 "strconv.ErrSyntax" Rows.laid_strconv_ErrSyntax rfl
  obtain ⟨g4, t4, c4, f4, p4, e4, y4, v4, r4⟩ := hm 5 "armillary/lex.keys" Rows.laid_armillary_lex_keys rfl
  obtain ⟨g5, t5, c5, f5, p5, e5, y5, v5, r5⟩ := hm 6 "armillary/lex.signs" Rows.laid_armillary_lex_signs rfl
  obtain rfl := Option.some.inj ((show Tryz.prog.globalNamed "internal/strconv.uint64pow10" = some 5 by kernel_rfl).symm.trans e1)
  obtain rfl := Option.some.inj ((show Tryz.prog.globalNamed "strconv.ErrRange" = some 4 by kernel_rfl).symm.trans e2)
  obtain rfl := Option.some.inj ((show Tryz.prog.globalNamed "strconv.ErrSyntax" = some 3 by kernel_rfl).symm.trans e3)
  obtain rfl := Option.some.inj ((show Tryz.prog.globalNamed "armillary/lex.keys" = some 1 by kernel_rfl).symm.trans e4)
  obtain rfl := Option.some.inj ((show Tryz.prog.globalNamed "armillary/lex.signs" = some 0 by kernel_rfl).symm.trans e5)
  obtain rfl := Option.some.inj ((show (Tryz.prog.globals[5]?).map (·.type) = some 168 by kernel_rfl).symm.trans y1)
  obtain rfl := Option.some.inj ((show (Tryz.prog.globals[4]?).map (·.type) = some 112 by kernel_rfl).symm.trans y2)
  obtain rfl := Option.some.inj ((show (Tryz.prog.globals[3]?).map (·.type) = some 112 by kernel_rfl).symm.trans y3)
  obtain rfl := Option.some.inj ((show (Tryz.prog.globals[1]?).map (·.type) = some 123 by kernel_rfl).symm.trans y4)
  obtain rfl := Option.some.inj ((show (Tryz.prog.globals[0]?).map (·.type) = some 101 by kernel_rfl).symm.trans y5)
  have q1 := Lib.cells_of_tab (zs := Lib.pow10Tab) Tryz.underlying168 Tryz.underlying149 (by kernel_rfl) (by kernel_rfl) r1
  obtain ⟨_, u2, x2, q2, _, _⟩ := iface_of_trod Tryz.underlying112 r2
  obtain ⟨_, u3, x3, q3, _, _⟩ := iface_of_trod Tryz.underlying112 r3
  have q4 := strs_of_tab (l := Lx.keysL) Tryz.underlying123 Tryz.underlying9 (by kernel_rfl) (by kernel_rfl) r4
  have q5 := strs_of_tab (l := Lx.signsL) Tryz.underlying101 Tryz.underlying9 (by kernel_rfl) (by kernel_rfl) r5
  have arr : ∀ (c : Array Value) (l : List Value), c.toList = l → c = l.toArray := fun c l e => by rw [← e]
  rw [arr _ _ q1] at v1
  rw [arr _ _ q2] at v2
  rw [arr _ _ q3] at v3
  rw [arr _ _ q4] at v4
  rw [arr _ _ q5] at v5
  exact ⟨v4, v5, v1, ⟨u3, x3, v3⟩, ⟨u2, x2, v2⟩⟩

noncomputable def low : Nat := (World.holding Tryz.prog default ⟨#[], #[], []⟩).heap.size
def tabV (d : DataW Unit) : Array Value := match d with
  | .agg l => (l.map fun x => match x with
    | .lit (.int k z) => Value.int k z
    | .lit (.string k) => .string (st k)
    | _ => .bool false).toArray
  | .iface _ (.ptr (.agg [.lit (.string k)])) => #[.string (st k)]
  | _ => #[]
/-- A world that meets the condition. -/
noncomputable def laidWorld (os : Os) : World :=
  let w0 := World.holding Tryz.prog os ⟨#[.cells (tabV Rows.laid_strconv_ErrRange) 166, .cells (tabV Rows.laid_strconv_ErrSyntax) 166], #[], []⟩
  let put (h : Array Obj) (g : Nat) (cs : Array Value) : Array Obj := h.modify g fun
    | .cells _ t frozen => .cells cs t frozen
    | o => o
  let h1 := put w0.heap 6 (tabV Rows.laid_math_bits_deBruijn32tab)
  let h2 := put h1 7 (tabV Rows.laid_math_bits_deBruijn64tab)
  let h3 := put h2 5 (tabV Rows.laid_internal_strconv_uint64pow10)
  let h4 := put h3 4 #[.iface 164 (.pointer (some ⟨low, 0, none⟩))]
  let h5 := put h4 3 #[.iface 164 (.pointer (some ⟨low + 1, 0, none⟩))]
  let h6 := put h5 1 (tabV Rows.laid_armillary_lex_keys)
  let h7 := put h6 0 (tabV Rows.laid_armillary_lex_signs)
  { w0 with heap := h7 }
set_option maxRecDepth 100000 in
theorem laid_met (os : Os) (args : Array Value) : laidMetH Tryz.prog laidL ((laidWorld os).forCall (fun _ _ => 0) ⟨#[], args, []⟩).memory :=
  (laidMet_of_run3 8 (by kernel_rfl) (by kernel_rfl) (by kernel_rfl) : laidMet Tryz.prog laidL _)

set_option maxRecDepth 100000 in
theorem law_row {os : Os} (started : os.Started) {H : Type} {enc : TypeId × Value → H} {F : Stop.Interp} {n : Nat} {f : Func} {s : ChangeSpec} {ts : List TypeId} {b : TypeId}
    (hni : Tryz.prog.inits.idxOf? n = none) (hfn : Tryz.prog.funcs[n]? = some f) (hts : f.params.toList = ts) (hrt : f.resultTypes = #[b]) (hub : Tryz.prog.underlying b = some .bool)
    (hread : ∀ t ∈ ts, Tryz.prog.readableRec t = true ∧ t < Tryz.prog.types.size) (hv : s.vars = [])
    (hs : ∀ ds : List (DataW H), ds.length = ts.length → s.fn H ds = { results := [.lit (.bool true)], args := ds })
    (hwit : ∃ (w : World) (tape : Tape) (i : Input), w.os = os ∧ (w.forCall tape i).Shaped Tryz.checked.prog ∧ i.vars = [] ∧ Input.okWide Tryz.checked.prog (w.forCall tape i) .any w.heap.size n i ∧
      (OpenSpec.ofChange s).preRow enc Tryz.checked.prog f [] false laidL (w.forCall tape i).memory i.args ∧ ({} : Assume).holds Tryz.checked.prog (lone (Frame.enter Tryz.checked.prog n i.args .normal) [] (w.forCall tape i)))
    (walk : ∀ (W : World) (base : Nat) (args : Array Value) (ds : List (DataW H)) (p : List MemPlace), Env W → (∀ (j : Nat) t v, ts[j]? = some t → args[j]? = some v → Value.okWide Tryz.prog W .any base t v) →
      DataW.TrodAll enc Tryz.prog W 0 (fun _ => true) true ts args.toList ds p → (DataW.weightsEach Tryz.prog ts ds).all (· ≤ reachBytes) = true →
      Calls Tryz.prog n args W fun e w' => e = .returned (.bool true) ∧ Below W.heap.size W w') :
    ReturnsInHanded {} Tryz.checked os n .any ((OpenSpec.ofChange s).preRow enc Tryz.prog f [] false laidL) (((OpenSpec.ofChange s).at F).post enc Tryz.prog f false true false false) := by
  refine returnsInHanded_of_row (C := Tryz.checked) (s := OpenSpec.ofChange s) own_ started hni hfn hwit ?_
  intro W base args ds gs before hval hW _ _ hsz hL _ _
  have hW' := hW
  obtain ⟨p, q, hA, hV, rfl, _, _⟩ := hW
  have hA2 : DataW.TrodAll enc Tryz.prog W 0 (fun _ => true) true f.params.toList args.toList ds p := hA
  have hV2 : DataW.TrodVars enc Tryz.prog W (fun _ => true) s.vars gs q := hV
  rw [hv] at hV2
  obtain ⟨rfl, rfl⟩ := trodVars_none hV2
  rw [hts] at hA2
  have hsz2 : (DataW.weightsEach Tryz.prog ts ds).all (· ≤ reachBytes) = true := by
    have hsz3 : (DataW.weightsEach Tryz.prog (f.params.toList ++ s.plain.varTypes Tryz.prog) (ds ++ [])).all (· ≤ reachBytes) = true := hsz
    have hpv : s.plain.varTypes Tryz.prog = [] := by
      show s.vars.filterMap _ = []
      rw [hv]; rfl
    rw [hpv, hts, List.append_nil, List.append_nil] at hsz3
    exact hsz3
  have hval1 : ∀ (j : Nat) t v, f.params[j]? = some t → args[j]? = some v → Value.okWide Tryz.prog W .any base t v := hval
  have hval2 : ∀ (j : Nat) t v, ts[j]? = some t → args[j]? = some v → Value.okWide Tryz.prog W .any base t v := by
    intro j t v h1 h2
    have h3 : f.params[j]? = some t := by
      rw [← Array.getElem?_toList, hts]
      exact h1
    exact hval1 j t v h3 h2
  have hlen := trodAll_ds hA2
  refine (walk W base args ds p (env_of hL) hval2 hA2 hsz2).mono fun e W' ⟨he, hb⟩ => ?_
  subst he
  have hlt : ∀ x ∈ p, x.block < W.heap.size := fun x hx => hW'.lt x (by simp [hx])
  have hargs := below_trodAll laid_ hb hread hA2 hlt
  refine ⟨_, rfl, ds, [], p ++ [], [], p ++ [], [], hW', ?_, ?_, ?_, hb.frame _, fun h => by cases h⟩
  · show DataW.TrodAll enc Tryz.prog W' _ _ _ f.resultTypes.toList _ (s.fn H (ds ++ [])).results []
    rw [List.append_nil, hs ds hlen, hrt]
    exact trodAll_mk1 (shut_bool hub _)
  · show DataW.TrodAll enc Tryz.prog W' 0 _ true f.params.toList args.toList (s.fn H (ds ++ [])).args (p ++ [])
    rw [List.append_nil, hs ds hlen, hts, List.append_nil]
    exact hargs
  · show DataW.TrodVars enc Tryz.prog W' _ s.vars (s.fn H (ds ++ [])).vars []
    rw [hv, List.append_nil, hs ds hlen]; rfl
end Go.Proofs.YtmgjmagniefhoaaGreatDoor
