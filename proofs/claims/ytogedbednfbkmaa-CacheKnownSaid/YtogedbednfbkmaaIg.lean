/- CachePlays: its helper step. Conditions: those that each theorem names. -/
import Derived.Test.YtogedbednfbkmaaIf
import Derived.Deep.DeepCutAuto
import Derived.Deep.CutBlock
namespace Go.Proofs.Ytogedbednfbkmaa
open Go.RowKit Go.Maps

theorem run_min (P : Program) (a b : Int) (ats : Array TypeId) (ty : TypeId) (W : World) : (Builtin.min_ ats ty #[.int .i64 a, .int .i64 b]).run P W = .ok (.int .i64 (if b < a then b else a)) W := by
  simp [Builtin.min_, Builtin.min2]
theorem RdB.cut {w : World} {A : Option Addr} {n cc m : Nat} {xs : List Int} (h : RdB w A n cc xs) (hm : m ≤ n) : RdB w A m cc (xs.take m) :=
  ⟨by rw [List.length_take, h.len]; omega, fun e => by have := h.nil e; omega, fun h0 => by
    obtain ⟨b, off, e, hc⟩ := h.cells (by omega)
    refine ⟨b, off, e, fun j hj => ?_⟩
    rw [hc j (by omega)]
    simp [List.getD, hj]⟩

theorem put_few (c : Cs) (k : ByteArray) (v : List Int) (cost : Int) : (putC c k v cost).2.uses ≤ c.uses + 1 ∧ (putC c k v cost).2.missed ≤ c.missed + 1 := by
  unfold putC
  split
  · exact ⟨by show c.uses ≤ _; omega, by show c.missed ≤ _; omega⟩
  · split
    · exact ⟨by show c.uses ≤ _; omega, by show c.missed ≤ _; omega⟩
    · exact ⟨Int.le_refl _, by show c.missed ≤ _; omega⟩
theorem get_few (c : Cs) (k : ByteArray) : (getC c k).2.uses ≤ c.uses + 1 ∧ (getC c k).2.missed ≤ c.missed + 1 := by
  unfold getC
  split
  · exact ⟨by show c.uses ≤ _; omega, Int.le_refl _⟩
  · exact ⟨Int.le_refl _, by show c.missed ≤ _; omega⟩
theorem RdB.none_ (w : World) : RdB w none 0 0 [] := ⟨rfl, fun _ => ⟨rfl, rfl⟩, fun h => by omega⟩
theorem has_empty {c : Cs} (ho : Ok c) {k : ByteArray} (h : k.size = 0) : hasE k c.S = false := hasE_not.2 fun hm => by
  obtain ⟨e, he, rfl⟩ := List.mem_map.1 hm
  have := (ho.gd.ok e he).1
  omega
theorem any_keys (c : Cs) (k : ByteArray) : ((keysC c).any fun x => decide (x = k)) = hasE k c.S := by
  unfold keysC hasE
  rw [List.any_map]
  rfl

set_option maxHeartbeats 8000000 in
set_option maxRecDepth 100000 in
theorem step_c {Z : Nat → Prop} {w : World} {cb mb : Nat} {c : Cs} (h : Pair Z w cb mb c c) (hu : c.uses ≤ 800) (hm : c.missed ≤ 800) (kind cost : Int) {key : ByteArray} {A : Option Addr} {n cc : Nat} {xs : List Int} (hk : key.size ≤ 9223372036854775807) (hrd : RdB w A n cc xs) (hn : n ≤ 9223372036854775807) (hc : n ≤ cc) :
    Calls Try.prog 24 #[.pointer (some ⟨cb, 0, none⟩), .pointer (some ⟨mb, 0, none⟩), .agg #[.int .i64 kind, .int .i64 cost, .string key, .slice A n cc]] w fun e w' => e = .returned (.bool true) ∧ ∃ c', PairL Z w cb mb c' c' w' ∧ c'.uses ≤ c.uses + 1 ∧ c'.missed ≤ c.missed + 1 := by
  have HP := hid_ h
  have HR := hid_ hrd
  clear h hrd
  have b1 : (0 : Int) ≤ (n : Int) := by omega
  have b2 : (0 : Int) ≤ (key.size : Int) := by omega
  obtain ⟨m, hm1, hm2, hm3⟩ : ∃ m : Nat, m ≤ n ∧ m ≤ 100 ∧ (if (100 : Int) < (n : Int) then (100 : Int) else (n : Int)) = m := by
    by_cases h : n ≤ 100
    · exact ⟨n, Nat.le_refl _, h, by rw [if_neg (by omega)]⟩
    · exact ⟨100, by omega, Nat.le_refl _, by rw [if_pos (by omega)]; rfl⟩
  obtain ⟨kl, hk1, hk2, hk3⟩ : ∃ m : Nat, m ≤ key.size ∧ m ≤ 210 ∧ (if (210 : Int) < (key.size : Int) then (210 : Int) else (key.size : Int)) = m := by
    by_cases h : key.size ≤ 210
    · exact ⟨key.size, Nat.le_refl _, h, by rw [if_neg (by omega)]⟩
    · exact ⟨210, by omega, Nat.le_refl _, by rw [if_pos (by omega)]; rfl⟩
  have r1 : ∀ W, (Builtin.min_ #[3, 3] 3 #[.int .i64 (n : Int), .int .i64 100]).run Try.prog W = .ok (.int .i64 (m : Int)) W := fun W => by rw [← hm3]; exact run_min _ _ _ _ _ _
  have r2 : ∀ W, (Builtin.min_ #[3, 3] 3 #[.int .i64 (key.size : Int), .int .i64 210]).run Try.prog W = .ok (.int .i64 (kl : Int)) W := fun W => by rw [← hk3]; exact run_min _ _ _ _ _ _
  clear hm3 hk3
  have b3 : (0 : Int) ≤ (m : Int) := by omega
  have b4 : (m : Int) ≤ (cc : Int) := by omega
  have b5 : (0 : Int) ≤ (kl : Int) := by omega
  have b6 : (kl : Int) ≤ (key.size : Int) := by omega
  have HCp := hid_ (fun W (hb : Below w.heap.size w W) => copyb_c ((HR.out.below hb).cut hm1) (by omega))
  go_enter Try.func24, Try.ntmps24
  go_upto_region 2 with (fail)
  go_cut [5, 7, 8] (fun s5 s7 s8 wx => ∃ (db : Nat) (key' : ByteArray) (A1 : Option Addr) (c1 : Nat), s5 = .pointer (some ⟨db, 0, none⟩) ∧ s7 = .string key' ∧ key'.size ≤ 210 ∧ s8 = .slice A1 m c1 ∧ Below w.heap.size w wx ∧ wx.ownsRow (db + 1) 5 1 (.slice A1 m c1) m ((xs.take m).map (.int .u8)) ∧ w.heap.size ≤ db ∧ wx.cell? ⟨db, 0, none⟩ = some (.int .i64 kind) ∧ wx.cell? ⟨db, 1, none⟩ = some (.int .i64 cost))
  case first =>
    go_wp2
    go_region_held3 (fun W => W.cell? ⟨w.heap.size, 2, none⟩ = some (.string key) ∧ W.cell? ⟨w.heap.size, 3, none⟩ = some (.slice A n cc)) (first | (refine And.intro ?_ ?_ <;> (go_simp; done)) | (refine And.intro ?_ ?_ <;> exact below_cell HO.out.2 (by go_simp))) ((go_at_call 44; go_loud (refine (HCp.out _ ((((Below.refl w.heap.size w).alloc (Nat.le_refl _) _)).drew)).mono ?_); rintro e w1 ⟨A1, c1, rfl, hown, hb1⟩; have HO := hid_ (And.intro hown hb1)))
    all_goals
      go_wp2
      go_meet
      refine ⟨w.heap.size, _, A1, c1, rfl, rfl, ?_, rfl, ?_, ?_, Nat.le_refl _, ?_, ?_⟩
      · rw [ByteArray.size_extract]; omega
      · exact ((Below.refl w.heap.size w).alloc (Nat.le_refl _) _).drew.trans (HO.out.2.mono (by simp))
      · have := HO.out.1
        simpa using this
      · exact below_cell HO.out.2 (by go_simp)
      · exact below_cell HO.out.2 (by go_simp)
  case rest =>
    obtain ⟨db, key', A1, c1, rfl, rfl, hk', rfl, hb, hown, hdb, x0, x1⟩ := hcut
    have HB := hid_ hb
    have HOw := hid_ hown
    have HX := hid_ (And.intro x0 x1)
    have hPx := (HP.out.mono (Y := fun q => Z q ∧ q < w.heap.size) (fun q hq hl => ⟨hq, hl⟩)).below hb
    have HPx := hid_ hPx
    have hvlt : ∀ q, (Value.slice A1 m c1).ownBlock = some q → db < q ∧ q < wc.heap.size := fun q hq => ⟨own_base hown hq, own_lt hown hq⟩
    have HVl := hid_ hvlt
    have hvl : (xs.take m).length = m := by rw [List.length_take, HR.out.len]; omega
    have HRv := hid_ (rd_own hown hvl.symm)
    have hsm : Small c := ⟨by omega, by omega⟩
    have HSm := hid_ hsm
    have HOk := hid_ HP.out.ok
    have HLen := hid_ hvl
    have hSl : c.S.length ≤ 800 := by have := HOk.out.thr; omega
    have hMi := HOk.out.mis
    clear hb hown hPx hvlt hvl hsm x1 HCp r1 r2
    generalize List.take m xs = v at *
    generalize hZ' : (fun q => Z q ∧ q < w.heap.size) = Z' at *
    have HZ' := hid_ (show ∀ q, Z' q → Z q ∧ q < w.heap.size from fun q hq => by rw [← hZ'] at hq; exact hq)
    clear hZ'
    have z0 : 0 ≤ kind % 8 := Int.emod_nonneg _ (by omega)
    have z1 : kind % 8 < 8 := Int.emod_lt_of_pos _ (by omega)
    go_wp2_with fail
    refine (bring_c kind 8 wc (by omega) (by omega)).mono ?_
    rintro e wx ⟨rfl, rfl⟩
    generalize kind % 8 = z at *
    have hz : z = 0 ∨ z = 1 ∨ z = 2 ∨ z = 3 ∨ z = 4 ∨ z = 5 ∨ z = 6 ∨ z = 7 := by omega
    clear z0 z1 x0
    have HDb := hid_ (show ¬ Z' db from fun x => by have := HZ'.out _ x; omega)
    have HFin := hid_ (show ∀ c' w', Pair (fun q => Z' q ∨ wc.heap.size ≤ q) w' cb mb c' c' → Kp (fun q => Z' q ∨ w.heap.size ≤ q) wc w' → PairL Z w cb mb c' c' w' from fun c' w' h hk => ⟨h.mono (fun q hq _ => hq.elim (fun x => .inl (HZ'.out q x).1) (fun x => .inr (Nat.le_trans HB.out.size x))), (Kp.of_below HB.out Z).trans hk (fun q hq => hq.imp (fun x => (HZ'.out q x).1) id)⟩)
    rcases hz with rfl | rfl | rfl | rfl | rfl | rfl | rfl | rfl
    iterate 4
      · have HCp := hid_ (copyb_c HRv.out.2 (by omega))
        go_wp2_with fail
        refine HCp.out.mono ?_
        rintro e w2 ⟨A2, c2, rfl, hown2, hb2⟩
        have HV2 := hid_ (show RdB w2 A2 m c2 v ∧ ∀ p, A2 = some p → wc.heap.size ≤ p.block ∧ p.block < w2.heap.size from ⟨(rd_own hown2 HLen.out.symm).2, fun p hp => by
          subst hp
          exact ⟨own_base hown2 rfl, own_lt hown2 rfl⟩⟩)
        have HP2 := hid_ (HPx.out.below hb2)
        have HR2 := hid_ (HRv.out.2.below hb2)
        have HB2 := hid_ hb2
        have x2 := below_cell hb2 HX.out.2
        have HN2 := hid_ (show ∀ p, A2 = some p → ¬ Z' p.block from fun p hp x => by
          have := HZ'.out _ x
          have := HV2.out.2 p hp
          have := HB.out.size
          omega)
        have HN2b := hid_ (show ∀ p, A2 = some p → ¬ (Z' p.block ∨ w2.heap.size ≤ p.block) from fun p hp x => by
          rcases x with x | x
          · exact HN2.out p hp x
          · have := HV2.out.2 p hp
            omega)
        clear hown2 hb2 HCp
        go_wp2_with fail
        go_region_held3 (fun W => W.cell? ⟨db, 1, none⟩ = some (.int .i64 cost)) (first | exact x2 | exact HL4.out.kp.cell x2 HDb.out | exact HL4.out.kp.cell (show w2.drew.cell? ⟨db, 1, none⟩ = some (.int .i64 cost) from x2) HDb.out | exact HL3.out.kp.cell x2 HDb.out | exact HL3.out.kp.cell (show w2.drew.cell? ⟨db, 1, none⟩ = some (.int .i64 cost) from x2) HDb.out)
          (first
            | (go_at_call 14; (first | refine (HP2.out.put (by omega) HSm.out HR2.out HRv.out.1 (by omega) cost).mono ?_ | refine ((HP2.out.below (Below.refl _ w2).drew).put (by omega) HSm.out (HR2.out.below (Below.refl _ w2).drew) HRv.out.1 (by omega) cost).mono ?_); rintro e w3 ⟨rfl, hl3⟩; have HL3 := hid_ hl3)
            | (go_at_call 45; go_loud (refine (HL3.out.pair.rput HOk.out (by omega) (by first | exact HV2.out.1.kp HL3.out.kp HN2.out | exact (HV2.out.1.below (Below.refl _ w2).drew).kp HL3.out.kp HN2.out) (fun p hp x => HN2b.out p hp x) (by omega) (by omega) cost).mono ?_); rintro e w4 ⟨rfl, hl4⟩; have HL4 := hid_ (HL3.out.then_ hl4)))
        all_goals
          have HF4 := hid_ (put_few c key' v cost)
          have HO4 := hid_ (show w4.ownsRow (db + 1) 5 1 (.slice A1 m c1) m (v.map (.int .u8)) from own_kp (own_kp HOw.out (Kp.of_below HB2.out fun _ => False) (fun _ _ h => h)) (by first | exact HL4.out.kp | exact (Kp.refl Z' w2).drew.trans HL4.out.kp (fun _ => .inl)) (fun q hq x => by
            have := HZ'.out _ x
            have := HVl.out q hq
            omega))
          have HL5 := hid_ (show PairL Z' w2 cb mb (putC c key' v cost).2 (putC c key' v cost).2 w4 from ⟨HL4.out.pair, by first | exact HL4.out.kp | exact (Kp.refl Z' w2).drew.trans HL4.out.kp (fun _ => .inl)⟩)
          clear HL3 HL4 x2
          generalize (putC c key' v cost).2 = c' at *
          go_wp2_with fail
          go_loopw [11] (fun v11 wr => ∃ (k : Nat) (ys : List Int), v11 = .int .i64 k ∧ k ≤ m ∧ ys.length = m ∧ wr.ownsRow (db + 1) 5 1 (.slice A1 m c1) m (ys.map (.int .u8)) ∧ Kp (fun q => (Value.slice A1 m c1).ownBlock = some q) w4 wr) (fun v _ => m - (intOf v).toNat)
          case atStart => exact ⟨0, v, rfl, by omega, HLen.out, HO4.out, Kp.refl _ _⟩
          case round =>
            obtain ⟨k, ys, rfl, hkm, hyl, hown, hkp⟩ := hrel
            by_cases hlt : k < m
            · obtain ⟨g, cap', hv, _, hglt⟩ := hown.form (by omega)
              injection hv with hv1 hv2 hv3
              subst hv1 hv3
              have y0 : wr.cell? ⟨g, k, none⟩ = some (.int .u8 (ys.getD k 0)) := own_cell hown k _ (map_at _ ys k 0 (by omega))
              have f0 := own_frozen hown k
              have HOr := hid_ (fun z : Int => show (wr.setCell ⟨g, k, none⟩ (.int .u8 z)).ownsRow (db + 1) 5 1 (.slice (some ⟨g, 0, none⟩) m c1) m ((ys.set k z).map (.int .u8)) from by
                rw [List.map_set]
                exact own_set hown k (by rw [List.length_map]; omega) _)
              have HKr := hid_ (fun z : Int => hkp.setCell (p := ⟨g, k, none⟩) (.inl rfl) (.int .u8 z))
              have HYl := hid_ hyl
              have b7 : (0 : Int) ≤ (k : Int) := by omega
              have b8 : (k : Int) < (m : Int) := by omega
              clear hown hkp hyl
              generalize ys.getD k 0 = y at *
              go_wp2
              go_roundw
              case rel => exact ⟨k + 1, _, by go_num, by omega, by rw [List.length_set]; exact HYl.out, HOr.out _, HKr.out _⟩
              case measure => simp [intOf]; omega
            · have b8 : ¬ (k : Int) < (m : Int) := by omega
              have HKp := hid_ hkp
              clear hown hkp hyl
              go_wp2
              go_ret
              refine ⟨rfl, c', HFin.out _ _ ((HL5.out.pair.kp HKp.out (fun q hq x => ?_)).mono (fun q hq _ => hq.imp id (fun x => Nat.le_trans HB2.out.size x))) ?_, HF4.out.1, HF4.out.2⟩
              · have h1 := HVl.out q x
                have h2 := HB2.out.size
                rcases hq with hq | hq
                · have := HZ'.out _ hq; omega
                · omega
              · refine ((Kp.of_below HB2.out (fun q => Z' q ∨ w.heap.size ≤ q)).trans HL5.out.kp (fun q hq => .inl (.inl hq))).trans HKp.out (fun q hq => ?_)
                have h1 := HVl.out q hq
                exact .inl (.inr (by omega))
    iterate 2
      · cases hg : getE key' c.S with
        | none =>
          have HG := hid_ (HPx.out.get_no (k := key') (by unfold maxLen; omega) HSm.out hg)
          have HG0 := hid_ hg
          go_wp2_with fail
          refine HG.out.mono ?_
          rintro e w3 ⟨rfl, hl3⟩
          have HL3 := hid_ hl3
          have HG2 := hid_ (hl3.pair.rget_no key' (by omega) (by omega) HG0.out)
          clear hl3 HG hg
          go_wp2_with fail
          refine HG2.out.mono ?_
          rintro e w4 ⟨rfl, hl4⟩
          have HL4 := hid_ (HL3.out.then_ hl4)
          have HEq := hid_ (eqbytes_c (cc := 0) (cc' := 0) (RdB.none_ w4) (RdB.none_ w4))
          have HF4 := hid_ (get_few c key')
          clear hl4 HL3 HG2
          generalize (getC c key').2 = c' at *
          go_wp2_with fail
          refine HEq.out.mono ?_
          rintro e w5 ⟨rfl, rfl⟩
          go_wp2_with fail
          go_loopw [17] (fun v17 wr => v17 = .int .i64 0 ∧ wr = w4) (fun _ _ => 0)
          case atStart => exact ⟨rfl, rfl⟩
          case round =>
            obtain ⟨rfl, rfl⟩ := hrel
            go_wp2
            go_ret
            exact ⟨rfl, c', HFin.out _ _ HL4.out.pair (HL4.out.kp.mono fun _ => .inl), HF4.out.1, HF4.out.2⟩
        | some x =>
          have HG := hid_ (HPx.out.get_yes (k := key') (by unfold maxLen; omega) HSm.out hg)
          have HG0 := hid_ hg
          have hxl : x.val.length ≤ 2000000000 := by
            have h1 := szE_le (getE_some hg).1
            have h2 := HOk.out.sz
            have h3 := HOk.out.room
            unfold szE at h1
            omega
          go_wp2_with fail
          refine HG.out.mono ?_
          rintro e w3 ⟨A3, c3, B, rfl, hown3, hB3, hP3, hk3⟩
          have hge : ∀ q, (Value.slice A3 x.val.length c3).ownBlock = some q → B ≤ q ∧ q < w3.heap.size := fun q hq => ⟨own_base hown3 hq, own_lt hown3 hq⟩
          have HGe := hid_ (And.intro hB3 hge)
          have HK3 := hid_ hk3
          have HO3 := hid_ hown3
          have HG2 := hid_ (hP3.rget_yes HOk.out key' (by omega) (by omega) hxl HG0.out)
          clear hown3 hB3 hP3 hk3 HG hg hge
          go_wp2_with fail
          refine HG2.out.mono ?_
          rintro e w4 ⟨A4, c4, rfl, hrd4, hl4⟩
          have hO4 := own_kp HO3.out hl4.kp (fun q hq x => by have := HGe.out.2 q hq; have := x.2; omega)
          have HO4 := hid_ hO4
          have HEq := hid_ (eqbytes_c (cc := c3) (cc' := c4) (rd_own hO4 rfl).2 hrd4)
          have HF4 := hid_ (get_few c key')
          have HEnd := hid_ (show ∀ wr, Kp (fun q => (Value.slice A3 x.val.length c3).ownBlock = some q) w4 wr → PairL Z w cb mb (getC c key').2 (getC c key').2 wr from fun wr hk => by
            have h1 := hl4.pair.kp hk (fun q hq x => by
              have h1 := HGe.out.2 q x
              rcases hq with hq | hq
              · have := hq.2; omega
              · omega)
            have h2 := HGe.out.1
            have h3 := HK3.out.size
            refine HFin.out _ _ (h1.mono (fun q hq _ => ?_)) (((HK3.out.trans hl4.kp (fun q hq => hq.1)).mono (fun q hq => .inl hq)).trans hk (fun q hq => .inr (by have := HGe.out.2 q hq; omega)))
            rcases hq with hq | hq
            · exact hq.1
            · exact .inr (by omega))
          clear hO4 hrd4 hl4 HG2 HO3
          generalize (getC c key').2 = c' at *
          go_wp2_with fail
          refine HEq.out.mono ?_
          rintro e w5 ⟨rfl, rfl⟩
          go_wp2_with fail
          go_loopw [17] (fun v17 wr => ∃ (k : Nat) (ys : List Int), v17 = .int .i64 k ∧ k ≤ x.val.length ∧ ys.length = x.val.length ∧ wr.ownsRow B 5 1 (.slice A3 x.val.length c3) x.val.length (ys.map (.int .u8)) ∧ Kp (fun q => (Value.slice A3 x.val.length c3).ownBlock = some q) w4 wr) (fun v _ => x.val.length - (intOf v).toNat)
          case atStart => exact ⟨0, x.val, rfl, by omega, rfl, HO4.out, Kp.refl _ _⟩
          case round =>
            obtain ⟨k, ys, rfl, hkm, hyl, hown, hkp⟩ := hrel
            by_cases hlt : k < x.val.length
            · obtain ⟨g, cap', hv, _, hglt⟩ := hown.form (by omega)
              injection hv with hv1 hv2 hv3
              subst hv1 hv3
              have y0 : wr.cell? ⟨g, k, none⟩ = some (.int .u8 (ys.getD k 0)) := own_cell hown k _ (map_at _ ys k 0 (by omega))
              have f0 := own_frozen hown k
              have HOr := hid_ (fun z : Int => show (wr.setCell ⟨g, k, none⟩ (.int .u8 z)).ownsRow B 5 1 (.slice (some ⟨g, 0, none⟩) x.val.length c3) x.val.length ((ys.set k z).map (.int .u8)) from by
                rw [List.map_set]
                exact own_set hown k (by rw [List.length_map]; omega) _)
              have HKr := hid_ (fun z : Int => hkp.setCell (p := ⟨g, k, none⟩) (.inl rfl) (.int .u8 z))
              have HYl := hid_ hyl
              have b7 : (0 : Int) ≤ (k : Int) := by omega
              have b8 : (k : Int) < (x.val.length : Int) := by omega
              clear hown hkp hyl
              generalize ys.getD k 0 = y at *
              go_wp2
              go_roundw
              case rel => exact ⟨k + 1, _, by go_num, by omega, by rw [List.length_set]; exact HYl.out, HOr.out _, HKr.out _⟩
              case measure => simp [intOf]; omega
            · have b8 : ¬ (k : Int) < (x.val.length : Int) := by omega
              have HKp := hid_ hkp
              clear hown hkp hyl
              go_wp2
              go_ret
              exact ⟨rfl, c', HEnd.out _ HKp.out, HF4.out.1, HF4.out.2⟩
    · have HD := hid_ (HPx.out.drop key' (by unfold maxLen; omega))
      have e1 : (dropC c key').1 = hasE key' c.S := rfl
      go_wp2_with fail
      refine HD.out.mono ?_
      rintro e w3 ⟨rfl, hl3⟩
      have HL3 := hid_ hl3
      have HD2 := hid_ (hl3.pair.rdrop HOk.out (by omega) key')
      clear hl3 HD e1
      generalize hb : (dropC c key').1 = b at *
      have HF4 := hid_ (show (dropC c key').2.uses = c.uses ∧ (dropC c key').2.missed = c.missed from ⟨rfl, rfl⟩)
      clear hb
      go_wp2_with fail
      refine HD2.out.mono ?_
      rintro e w4 ⟨rfl, hl4⟩
      have HL4 := hid_ (HL3.out.then_ hl4)
      have q1 : (b == b) = true := by simp
      clear hl4 HL3 HD2
      go_wp2
      go_ret
      exact ⟨rfl, _, HFin.out _ _ HL4.out.pair (HL4.out.kp.mono fun _ => .inl), by rw [HF4.out.1]; omega, by rw [HF4.out.2]; omega⟩
    · have HH := hid_ (HPx.out.has key' (by unfold maxLen; omega))
      have HLs := hid_ (PairL.start HPx.out (Below.refl _ wc))
      by_cases h0 : key'.size = 0
      · have he : key'.toList.isEmpty = true := by rw [emp]; exact decide_eq_true h0
        have hhe := has_empty HOk.out h0
        rw [hhe] at HH
        clear hhe
        go_wp2_with fail
        refine HH.out.mono ?_
        rintro e w3 ⟨rfl, rfl⟩
        go_wp2
        go_ret
        exact ⟨rfl, c, HFin.out _ _ HLs.out.pair (HLs.out.kp.mono fun _ => .inl), by omega, by omega⟩
      · have he : key'.toList.isEmpty = false := by rw [emp]; exact decide_eq_false h0
        have HKs := hid_ (HPx.out.rkeys (by omega))
        have hlen : c.S.length ≤ 100000 := by have := HOk.out.thr; omega
        have HAny := hid_ (any_keys c key')
        generalize hb : hasE key' c.S = b at *
        clear hb
        go_wp2_with fail
        refine HH.out.mono ?_
        rintro e w3 ⟨rfl, rfl⟩
        go_wp2_with fail
        refine HKs.out.mono ?_
        rintro e w4 ⟨A4, c4, rfl, hown4, hb4⟩
        have HT := hid_ (hast_c (cc := c4) (RdT.of_own hown4 hlen) key')
        rw [HAny.out] at HT
        have HB4 := hid_ hb4
        clear hown4 hb4 HKs
        have q1 : (b == b) = true := by simp
        go_wp2_with fail
        refine HT.out.mono ?_
        rintro e w5 ⟨rfl, rfl⟩
        go_wp2
        go_ret
        exact ⟨rfl, c, HFin.out _ _ (HLs.out.below HB4.out).pair ((HLs.out.below HB4.out).kp.mono fun _ => .inl), by omega, by omega⟩
end Go.Proofs.Ytogedbednfbkmaa
