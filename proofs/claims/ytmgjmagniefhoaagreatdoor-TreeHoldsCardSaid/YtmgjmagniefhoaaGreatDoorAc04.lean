/- What stands in these texts of the proof: Hf Hg. Conditions: those that each theorem names. -/
import Derived.Test.YtmgjmagniefhoaaGreatDoorAc01
import Derived.Test.YtmgjmagniefhoaaGreatDoorAc02
import Derived.Test.YtmgjmagniefhoaaGreatDoorAb07
/- short, texts: a text's beginning; a list's. Conditions: those that each theorem names. -/
namespace Go.Proofs.YtmgjmagniefhoaaGreatDoor
open Go.RowKit Go.Maps
section
variable {w w' : World}
theorem short_st (x : List UInt8) : (st x).extract 0 (min ((st x).size : Int) 20).toNat = st (x.take 20) := by
  rw [extract_st, bl_st, st_size]
  congr 1
  rw [List.drop_zero, Nat.sub_zero, List.take_eq_take_iff]
  omega
set_option maxHeartbeats 1000000 in
set_option maxRecDepth 100000 in
theorem short_c {x : List UInt8} : Calls Tryz.prog 42 #[.string (st x)] w fun e w' => e = .returned (.string (st (x.take 20))) ∧ w' = w := by
  have HX := hid_ (short_st x)
  generalize st x = t at *
  have hmm : 0 ≤ min (t.size : Int) 20 ∧ min (t.size : Int) 20 ≤ (t.size : Int) := by omega
  go_enter Tryz.func42, Tryz.ntmps42
  go_wp2_with fail
  go_ret
  exact ⟨by rw [← HX.out]; rfl, rfl⟩
set_option maxHeartbeats 2000000 in
set_option maxRecDepth 100000 in
theorem texts_c {v : Value} {l : List (List UInt8)} (h : RowZ w v l.length (strs l)) (hn : l.length ≤ 9223372036854775807) : Calls Tryz.prog 43 #[v] w fun e w' => ∃ v', e = .returned v' ∧ w'.ownsRow w.heap.size 9 1 v' ((l.take 20).map (·.take 20)).length (strs ((l.take 20).map (·.take 20))) ∧ Below w.heap.size w w' := by
  obtain ⟨i0, hi0, hz0, hz1, hz2⟩ := info_parts Tryz.infoS
  obtain ⟨A, c, rfl⟩ := h.1.form
  have HR := hid_ h
  clear h
  go_enter Tryz.func43, Tryz.ntmps43
  go_wp2_with fail
  go_loopg [3, 4] (l.length + 1) (fun g v3 v4 wr => ∃ (i : Nat) (B : Option Addr) (d : Nat), v3 = .slice B i d ∧ v4 = .int .i64 i ∧ i ≤ l.length ∧ i ≤ 20 ∧ wr.ownsRow w.heap.size 9 1 (.slice B i d) i (strs ((l.take i).map (·.take 20))) ∧ Below w.heap.size w wr ∧ l.length - i + 1 ≤ g)
  case atStart => exact ⟨0, none, 0, rfl, rfl, by omega, by omega, World.ownsRow_nil _ _ _ _, Below.refl _ _, by omega⟩
  case round =>
    obtain ⟨i, B, d, rfl, rfl, hi, hi2, hown, hb, hg⟩ := hrel
    have HO := hid_ hown
    have HB := hid_ hb
    clear hown hb
    by_cases hlt : i < l.length
    · by_cases h20 : i < 20
      · obtain ⟨b, off, c', hA, hcf⟩ := HR.out.1.get (by omega)
        injection hA with hA hll hcc
        clear hll
        subst hcc
        subst hA
        have b0 : (0 : Int) ≤ (i : Int) := by omega
        have b1 : (i : Int) < (l.length : Int) := by omega
        have b2 : (i : Int) < 20 := by omega
        have t0 : wr.cell? ⟨b, off + i, none⟩ = some (.string (st l[i])) := below_cell HB.out (hcf i _ (strs_at hlt))
        have HTk := hid_ (show (l.take (i + 1)).map (·.take 20) = (l.take i).map (·.take 20) ++ [l[i].take 20] by rw [List.take_succ_eq_append_getElem hlt, List.map_append]; rfl)
        clear hcf
        generalize l[i] = x at *
        go_wp2_with fail
        refine short_c.mono ?_
        rintro e w1 ⟨rfl, rfl⟩
        obtain ⟨y, hy⟩ : ∃ y, y = x.take 20 := ⟨_, rfl⟩
        rw [← hy] at HTk ⊢
        have HS := hid_ (show (w1.alloc (.cells #[.string (st y)] 9)).ownsRow w.heap.size 9 1 (.slice B i d) i (strs ((l.take i).map (·.take 20))) from own_kp HO.out (Kp.of_below (below_alloc _ _) fun _ => False) (fun _ _ e => e))
        clear hy t0
        go_wp2_with (first | (at_builtin; go_loud (refine wpList_append_any rfl (.tmp 15) (.tmp 21) 26 rfl w.heap.size 9 i0 _ 1 16 Tryz.underlying26 hi0 hz0 hz1 hz2 rfl (by omega) (.slice B i d) i _ rfl HS.out (some ⟨w1.heap.size, 0, none⟩) 1 1 [.string (st y)] rfl rfl (fun h => by cases h) (by intro ad had j u hu; injection had with had; subst had; exact World.news_of_block (heap_alloc_new _ _) j u hu) (by simp [Value.oneCell']) (by unfold maxLen; omega) (by omega) (Nat.le_trans HB.out.size (below_alloc _ _).size) ?_); intro A1 c1 w6 hown hgrow hat))
        have HO6 := hid_ (show w6.ownsRow w.heap.size 9 1 (.slice A1 (i + 1) c1) (i + 1) (strs ((l.take (i + 1)).map (·.take 20))) from by rw [HTk.out, ← strs_snoc]; exact hown)
        have HB6 := hid_ ((HB.out.trans ((below_alloc w1 (.cells #[.string (st y)] 9)).mono HB.out.size)).grown hgrow (Nat.le_trans HB.out.size (below_alloc _ _).size) (fun q hq => own_base HS.out hq))
        clear hown hgrow hat
        go_roundg (gk - 1)
        case rel => exact ⟨i + 1, A1, c1, rfl, by go_num, by omega, by omega, HO6.out, HB6.out, by omega⟩
        case measure => omega
      · have b1 : (i : Int) < (l.length : Int) := by omega
        obtain rfl : i = 20 := by omega
        clear hg hi2 h20
        go_wp2_with fail
        go_ret
        have e : ((l.take 20).map (·.take 20)).length = 20 := by rw [List.length_map, List.length_take]; omega
        exact ⟨_, rfl, by rw [e]; exact HO.out, HB.out⟩
    · obtain rfl : i = l.length := by omega
      clear hg hlt hi
      go_wp2_with fail
      go_ret
      have e : l.take l.length = l.take 20 := by rw [List.take_eq_take_iff]; omega
      have e2 : ((l.take 20).map (·.take 20)).length = l.length := by rw [List.length_map, List.length_take]; omega
      exact ⟨_, rfl, by rw [e2, ← e]; exact HO.out, HB.out⟩
end
end Go.Proofs.YtmgjmagniefhoaaGreatDoor

/- Count, the program's and the document's. Conditions: those that each theorem names. -/
namespace Go.Proofs.YtmgjmagniefhoaaGreatDoor
open Go.RowKit Go.Maps
/-- One kind more. -/
def cstep (H : List Int) (k : Int) : List Int := if 0 ≤ k ∧ k < 25 then H.set k.toNat (wrap64 (H.getD k.toNat 0 + 1)) else H
/-- How many nodes of each kind there are. -/
def cnts (ns : List Tr.Nd) : List Int := ns.foldl (fun H n => cstep H n.kind) (List.replicate 25 0)
theorem cnts_take (ns : List Tr.Nd) {i : Nat} (h : i < ns.length) : cnts (ns.take (i + 1)) = cstep (cnts (ns.take i)) ns[i].kind := by
  rw [List.take_succ_eq_append_getElem h]
  unfold cnts
  rw [List.foldl_append]
  rfl
theorem cstep_len (H : List Int) (k : Int) : (cstep H k).length = H.length := by
  unfold cstep
  split
  · rw [List.length_set]
  · rfl
theorem cnts_len (ns : List Tr.Nd) : (cnts ns).length = 25 := by
  unfold cnts
  have : ∀ (ns : List Tr.Nd) (H : List Int), (ns.foldl (fun H n => cstep H n.kind) H).length = H.length := by
    intro ns
    induction ns with
    | nil => intro H; rfl
    | cons a ns ih => intro H; rw [List.foldl_cons, ih, cstep_len]
  rw [this]
  rfl
theorem made_ints25 : (madeCells (Value.int .i64 0).cells (25 * 1)).toList = ints (List.replicate 25 0) := by kernel_rfl
section
variable {w w0 W W1 W' : World}
/-- The box, and the row of numbers. -/
structure CnS (w0 W : World) (bx hb : Nat) (cs : Array Value) (H : List Int) : Prop where
  bel : Below w0.heap.size w0 W
  box : Blk W bx 31 cs
  had : W.ownsRow w0.heap.size 3 1 (.slice (some ⟨hb, 0, none⟩) 25 25) 25 (ints H)
  hlen : H.length = 25
variable {bx hb : Nat} {cs : Array Value} {H : List Int}
theorem CnS.init {bx : Nat} {cs : Array Value} (hbel : Below w0.heap.size w0 W) (hb : Blk W bx 31 cs) (hbase : w0.heap.size ≤ W.heap.size)
    (hown : W1.ownsRow w0.heap.size 3 1 (.slice (some ⟨W.heap.size, 0, none⟩) 25 25) 25 (madeCells (Value.int .i64 0).cells (25 * 1)).toList) (hg : W.grownBy W1 none) :
    CnS w0 W1 bx W.heap.size cs (cnts []) := by
  have hk : Kp (fun _ => False) W W1 := (Kp.of_below (Below.refl W.heap.size W) _).grown hg (fun q hq => by cases hq)
  rw [made_ints25] at hown
  exact ⟨hbel.trans (hk.toBelow hbase (fun _ _ e => e)), hb.kp hk (fun e => e), hown, rfl⟩
theorem CnS.below (h : CnS w0 W bx hb cs H) (hW : Below W.heap.size W W') : CnS w0 W' bx hb cs H :=
  have hk := Kp.of_below hW (fun _ => False)
  ⟨h.bel.trans (hW.mono h.bel.size), h.box.kp hk id, own_kp h.had hk (fun _ _ => id), h.hlen⟩
theorem CnS.cell (h : CnS w0 W bx hb cs H) {k : Nat} (hk : k < 25) : W.cell? ⟨hb, k, none⟩ = some (.int .i64 (H.getD k 0)) := by
  refine own_cell h.had k _ ?_
  have hk' : k < H.length := by rw [h.hlen]; exact hk
  unfold ints
  rw [List.getElem?_map, List.getElem?_eq_getElem hk', List.getD_eq_getElem?_getD, List.getElem?_eq_getElem hk']
  rfl
theorem CnS.set (h : CnS w0 W bx hb cs H) {k : Nat} (hk : k < 25) {v : Int} (hv : v = wrap64 (H.getD k 0 + 1)) : CnS w0 (W.setCell ⟨hb, k, none⟩ (.int .i64 v)) bx hb cs (cstep H k) := by
  subst hv
  have e : cstep H k = H.set k (wrap64 (H.getD k 0 + 1)) := by
    unfold cstep
    rw [if_pos ⟨by omega, by omega⟩]
    rfl
  have hg : w0.heap.size ≤ hb := own_base h.had (k := hb) rfl
  have hne : bx ≠ hb := fun e => own_blk_ne h.had h.box (by decide) (by rw [e]; rfl)
  refine ⟨h.bel.setCell (p := ⟨hb, k, none⟩) hg _, h.box.far (p := ⟨hb, k, none⟩) hne _, ?_, by rw [cstep_len]; exact h.hlen⟩
  rw [e, show ints (H.set k (wrap64 (H.getD k 0 + 1))) = (ints H).set k (.int .i64 (wrap64 (H.getD k 0 + 1))) by unfold ints; rw [List.map_set]]
  exact own_set h.had k _
theorem cstep_no {k : Int} (h : ¬ (0 ≤ k ∧ k < 25)) : cstep H k = H := by unfold cstep; rw [if_neg h]
end
set_option maxHeartbeats 4000000 in
set_option maxRecDepth 100000 in
theorem rcount_c {w : World} {iv tv fv nv : Value} {m : Tr.Md} {fx : List Fx} {nx : List Nx} (h : MZ w iv tv fv nv m fx nx) :
    Calls Tryz.prog 19 #[.agg #[.string (st m.name), iv, tv, fv, nv]] w fun e w' => ∃ v', e = .returned v' ∧ w'.ownsRow w.heap.size 3 1 v' 25 (ints (cnts m.nodes)) ∧ Below w.heap.size w w' := by
  obtain ⟨Ai, ci, rfl⟩ := h.i.1.form
  obtain ⟨At, ct, rfl⟩ := h.t.1.form
  obtain ⟨Af, cf, rfl⟩ := h.f.1.form
  obtain ⟨An, cn, rfl⟩ := h.n.1.form
  obtain ⟨i0, hi0, hz0, hz1, hz2⟩ := info_parts Tryz.infoI
  have HM := hid_ h
  have hz4 := h.sz.nd
  have HBx := hid_ (Blk.new w 31 #[.string (st m.name), .slice Ai m.imports.length ci, .slice At m.types.length ct, .slice Af m.fns.length cf, .slice An m.nodes.length cn])
  have HB0 := hid_ (below_alloc w (.cells #[.string (st m.name), .slice Ai m.imports.length ci, .slice At m.types.length ct, .slice Af m.fns.length cf, .slice An m.nodes.length cn] 31))
  clear h
  go_enter Tryz.func19, Tryz.ntmps19
  go_upto_region 1 with fail
  generalize w.alloc (.cells #[.string (st m.name), .slice Ai m.imports.length ci, .slice At m.types.length ct, .slice Af m.fns.length cf, .slice An m.nodes.length cn] 31) = W0 at *
  go_wp2_with (first | (at_make; go_loud (refine wpList_make_full _ rfl _ _ 22 rfl w.heap.size 3 i0 (.int .i64 0) 1 Tryz.underlying22 hi0 hz0 hz1 .i64 .i64 25 25 25 rfl rfl rfl rfl (by rw [hz2]; omega) (by unfold maxLen; omega) HB0.out.size ?_); intro w1 hown hgrow))
  have HS := hid_ (CnS.init HB0.out HBx.out HB0.out.size hown hgrow)
  clear hown hgrow
  generalize W0.heap.size = hb at *
  clear HB0 HBx
  go_loopg [4, 5] (m.nodes.length + 1) (fun g v4 _ wr => ∃ i : Nat, v4 = .int .i64 i ∧ i ≤ m.nodes.length ∧ CnS w wr w.heap.size hb #[.string (st m.name), .slice Ai m.imports.length ci, .slice At m.types.length ct, .slice Af m.fns.length cf, .slice An m.nodes.length cn] (cnts (m.nodes.take i)) ∧ m.nodes.length - i + 1 ≤ g)
  case atStart => exact ⟨0, rfl, by omega, HS.out, by omega⟩
  case round =>
    clear HS
    obtain ⟨i, rfl, hi, hs, hg⟩ := hrel
    have HS1 := hid_ hs
    clear hs
    have c4 : wr.cell? ⟨w.heap.size, 4, none⟩ = some (.slice An m.nodes.length cn) := HS1.out.box.cell 4
    by_cases hlt : i < m.nodes.length
    · have b0 : (0 : Int) ≤ (i : Int) := by omega
      have b1 : (i : Int) < (m.nodes.length : Int) := by omega
      obtain ⟨b, off, c, hAn, hcf⟩ := HM.out.n.1.get (by omega)
      injection hAn with hAn hll hcc
      clear hll
      subst hcc
      obtain ⟨hix, hxe⟩ := map_at HM.out.ne i hlt
      have t0 : wr.cell? ⟨b, off + i * 6, none⟩ = some (.int .i64 m.nodes[i].kind) := by
        rw [hxe]
        exact below_cell HS1.out.bel (hcf (i * 6) _ (flatN_getA nx i hix 0 (by omega)))
      have HT := hid_ (cnts_take m.nodes hlt)
      subst hAn
      clear hcf hxe hix
      generalize m.nodes[i].kind = kd at *
      by_cases hk0 : 0 ≤ kd
      · by_cases hk1 : kd < 25
        · obtain ⟨k, rfl⟩ := Int.eq_ofNat_of_zero_le hk0
          have hkn : k < 25 := by omega
          have h1 := HS1.out.cell hkn
          have f1 := own_frozen HS1.out.had k
          have HS2 := hid_ (fun v hv => HS1.out.set hkn (v := v) hv)
          generalize (cnts (m.nodes.take i)).getD k 0 = hv at *
          go_wp2_with fail
          go_roundg (gk - 1)
          case rel => exact ⟨i + 1, by go_num, by omega, by rw [HT.out]; exact HS2.out _ rfl, by omega⟩
          case measure => omega
        · go_wp2_with fail
          go_roundg (gk - 1)
          case rel => exact ⟨i + 1, by go_num, by omega, by rw [HT.out, cstep_no (by omega)]; exact HS1.out, by omega⟩
          case measure => omega
      · go_wp2_with fail
        go_roundg (gk - 1)
        case rel => exact ⟨i + 1, by go_num, by omega, by rw [HT.out, cstep_no (by omega)]; exact HS1.out, by omega⟩
        case measure => omega
    · obtain rfl : i = m.nodes.length := by omega
      clear hi hg hlt
      go_wp2_with fail
      go_ret
      exact ⟨_, rfl, by rw [← List.take_length (l := m.nodes)]; exact HS1.out.had, HS1.out.bel⟩
set_option maxHeartbeats 4000000 in
set_option maxRecDepth 100000 in
theorem tcount_c {w : World} {iv tv fv nv : Value} {m : Tr.Md} {fx : List Fx} {nx : List Nx} (h : MZ w iv tv fv nv m fx nx) :
    Calls Tryz.prog 18 #[.agg #[.string (st m.name), iv, tv, fv, nv]] w fun e w' => ∃ v', e = .returned v' ∧ w'.ownsRow w.heap.size 3 1 v' 25 (ints (cnts m.nodes)) ∧ Below w.heap.size w w' := by
  obtain ⟨Ai, ci, rfl⟩ := h.i.1.form
  obtain ⟨At, ct, rfl⟩ := h.t.1.form
  obtain ⟨Af, cf, rfl⟩ := h.f.1.form
  obtain ⟨An, cn, rfl⟩ := h.n.1.form
  obtain ⟨i0, hi0, hz0, hz1, hz2⟩ := info_parts Tryz.infoI
  have HM := hid_ h
  have hz4 := h.sz.nd
  have HBx := hid_ (Blk.new w 31 #[.string (st m.name), .slice Ai m.imports.length ci, .slice At m.types.length ct, .slice Af m.fns.length cf, .slice An m.nodes.length cn])
  have HB0 := hid_ (below_alloc w (.cells #[.string (st m.name), .slice Ai m.imports.length ci, .slice At m.types.length ct, .slice Af m.fns.length cf, .slice An m.nodes.length cn] 31))
  clear h
  go_enter Tryz.func18, Tryz.ntmps18
  go_upto_region 1 with fail
  generalize w.alloc (.cells #[.string (st m.name), .slice Ai m.imports.length ci, .slice At m.types.length ct, .slice Af m.fns.length cf, .slice An m.nodes.length cn] 31) = W0 at *
  go_wp2_with (first | (at_make; go_loud (refine wpList_make_full _ rfl _ _ 22 rfl w.heap.size 3 i0 (.int .i64 0) 1 Tryz.underlying22 hi0 hz0 hz1 .i64 .i64 25 25 25 rfl rfl rfl rfl (by rw [hz2]; omega) (by unfold maxLen; omega) HB0.out.size ?_); intro w1 hown hgrow; have HS := hid_ (CnS.init HB0.out HBx.out HB0.out.size hown hgrow); have c4 : w1.cell? ⟨w.heap.size, 4, none⟩ = some (.slice An m.nodes.length cn) := HS.out.box.cell 4))
  clear hown hgrow
  generalize W0.heap.size = hb at *
  clear HB0 HBx
  clear c4
  go_loopg [5, 10] (m.nodes.length + 1) (fun g _ v4 wr => ∃ i : Nat, v4 = .int .i64 i ∧ i ≤ m.nodes.length ∧ CnS w wr w.heap.size hb #[.string (st m.name), .slice Ai m.imports.length ci, .slice At m.types.length ct, .slice Af m.fns.length cf, .slice An m.nodes.length cn] (cnts (m.nodes.take i)) ∧ m.nodes.length - i + 1 ≤ g)
  case atStart => exact ⟨0, rfl, by omega, HS.out, by omega⟩
  case round =>
    clear HS
    obtain ⟨i, rfl, hi, hs, hg⟩ := hrel
    have HS1 := hid_ hs
    clear hs
    by_cases hlt : i < m.nodes.length
    · have b0 : (0 : Int) ≤ (i : Int) := by omega
      have b1 : (i : Int) < (m.nodes.length : Int) := by omega
      obtain ⟨b, off, c, hAn, hcf⟩ := HM.out.n.1.get (by omega)
      injection hAn with hAn hll hcc
      clear hll
      subst hcc
      obtain ⟨hix, hxe⟩ := map_at HM.out.ne i hlt
      have hno := HM.out.no _ (List.getElem_mem hix)
      have hfa := fun j hj => flatN_getA nx i hix j hj
      have hT := cnts_take m.nodes hlt
      rw [hxe] at hT
      have HT := hid_ hT
      generalize nx[i] = x at *
      obtain ⟨nd, kv, lv⟩ := x
      have hk1 : RowZ w kv nd.keys.length (strs nd.keys) := hno.1
      have hl1 : RowZ w lv nd.l.length (ints nd.l) := hno.2
      obtain ⟨Ak, ck, rfl⟩ := hk1.1.form
      obtain ⟨Al, cl, rfl⟩ := hl1.1.form
      have t0 : wr.cell? ⟨b, off + i * 6, none⟩ = some (.int .i64 nd.kind) := below_cell HS1.out.bel (hcf (i * 6) _ (hfa 0 (by omega)))
      have t1 : wr.cell? ⟨b, off + i * 6 + 1, none⟩ = some (.int .i64 nd.num) := by rw [Nat.add_assoc]; exact below_cell HS1.out.bel (hcf (i * 6 + 1) _ (hfa 1 (by omega)))
      have t2 : wr.cell? ⟨b, off + i * 6 + 2, none⟩ = some (.string (st nd.mod)) := by rw [Nat.add_assoc]; exact below_cell HS1.out.bel (hcf (i * 6 + 2) _ (hfa 2 (by omega)))
      have t3 : wr.cell? ⟨b, off + i * 6 + 3, none⟩ = some (.string (st nd.name)) := by rw [Nat.add_assoc]; exact below_cell HS1.out.bel (hcf (i * 6 + 3) _ (hfa 3 (by omega)))
      have t4 : wr.cell? ⟨b, off + i * 6 + 4, none⟩ = some (.slice Ak nd.keys.length ck) := by rw [Nat.add_assoc]; exact below_cell HS1.out.bel (hcf (i * 6 + 4) _ (hfa 4 (by omega)))
      have t5 : wr.cell? ⟨b, off + i * 6 + 5, none⟩ = some (.slice Al nd.l.length cl) := by rw [Nat.add_assoc]; exact below_cell HS1.out.bel (hcf (i * 6 + 5) _ (hfa 5 (by omega)))
      subst hAn
      clear hcf hxe hix hfa hno hk1 hl1 hT
      have HT := hid_ (show cnts (m.nodes.take (i + 1)) = cstep (cnts (m.nodes.take i)) nd.kind from HT.out)
      go_upto_region 5 with fail
      have HNb := hid_ (Blk.new wr 57 #[.int .i64 nd.kind, .int .i64 nd.num, .string (st nd.mod), .string (st nd.name), .slice Ak nd.keys.length ck, .slice Al nd.l.length cl])
      have HS1 := hid_ (HS1.out.below (below_alloc wr (.cells #[.int .i64 nd.kind, .int .i64 nd.num, .string (st nd.mod), .string (st nd.name), .slice Ak nd.keys.length ck, .slice Al nd.l.length cl] 57)))
      generalize wr.alloc (.cells #[.int .i64 nd.kind, .int .i64 nd.num, .string (st nd.mod), .string (st nd.name), .slice Ak nd.keys.length ck, .slice Al nd.l.length cl] 57) = W4 at *
      generalize wr.heap.size = nb at *
      generalize nd.kind = kd at *
      have k4 : W4.cell? ⟨nb, 0, none⟩ = some (.int .i64 kd) := HNb.out.cell 0
      clear t0 t1 t2 t3 t4 t5
      by_cases hk0 : 0 ≤ kd
      · by_cases hk1 : kd < 25
        · obtain ⟨k, rfl⟩ := Int.eq_ofNat_of_zero_le hk0
          have hkn : k < 25 := by omega
          have h1 := HS1.out.cell hkn
          have f1 := own_frozen HS1.out.had k
          have HS2 := hid_ (fun v hv => HS1.out.set hkn (v := v) hv)
          generalize (cnts (m.nodes.take i)).getD k 0 = hv at *
          go_wp2_with fail
          go_roundg (gk - 1)
          case rel => exact ⟨i + 1, by go_num, by omega, by rw [HT.out]; exact HS2.out _ rfl, by omega⟩
          case measure => omega
        · go_wp2_with fail
          go_roundg (gk - 1)
          case rel => exact ⟨i + 1, by go_num, by omega, by rw [HT.out, cstep_no (by omega)]; exact HS1.out, by omega⟩
          case measure => omega
      · go_wp2_with fail
        go_roundg (gk - 1)
        case rel => exact ⟨i + 1, by go_num, by omega, by rw [HT.out, cstep_no (by omega)]; exact HS1.out, by omega⟩
        case measure => omega
    · obtain rfl : i = m.nodes.length := by omega
      clear hi hg hlt
      go_wp2_with fail
      go_ret
      exact ⟨_, rfl, by rw [← List.take_length (l := m.nodes)]; exact HS1.out.had, HS1.out.bel⟩
end Go.Proofs.YtmgjmagniefhoaaGreatDoor
