/- CachePlays: the walk. Conditions: what its argument reads as. -/
import Derived.Test.YtogedbednfbkmaaIg
import Derived.Test.YtogedbednfbkmaaCb
import Derived.Deep.RegionWith
namespace Go.Proofs.Ytogedbednfbkmaa
open Go.RowKit Go.Maps

/-- A call, as numbers and texts, in memory. -/
structure Dv where
  kind : Int
  cost : Int
  key : ByteArray
  A : Option Addr
  n : Nat
  c : Nat
  xs : List Int
/-- A slice of calls. -/
structure RdW (w : World) (A : Option Addr) (n : Nat) (f : Nat → Dv) : Prop where
  low : n ≤ 100000000000000
  each : ∀ j, j < n → RdB w (f j).A (f j).n (f j).c (f j).xs ∧ (f j).n ≤ (f j).c ∧ (f j).n ≤ 9223372036854775807 ∧ (f j).key.size ≤ 9223372036854775807
  cells : 0 < n → ∃ b off, A = some ⟨b, off, none⟩ ∧ ∀ j, j < n → w.cell? ⟨b, off + j * 4, none⟩ = some (.int .i64 (f j).kind) ∧ w.cell? ⟨b, off + j * 4 + 1, none⟩ = some (.int .i64 (f j).cost) ∧ w.cell? ⟨b, off + j * 4 + 2, none⟩ = some (.string (f j).key) ∧ w.cell? ⟨b, off + j * 4 + 3, none⟩ = some (.slice (f j).A (f j).n (f j).c)
theorem RdW.below {w w' : World} {A : Option Addr} {n : Nat} {f : Nat → Dv} (h : RdW w A n f) (hb : Below w.heap.size w w') : RdW w' A n f :=
  ⟨h.low, fun j hj => ⟨(h.each j hj).1.below hb, (h.each j hj).2⟩, fun h0 => by
    obtain ⟨b, off, e, hc⟩ := h.cells h0
    exact ⟨b, off, e, fun j hj => ⟨below_cell hb (hc j hj).1, below_cell hb (hc j hj).2.1, below_cell hb (hc j hj).2.2.1, below_cell hb (hc j hj).2.2.2⟩⟩⟩

set_option maxHeartbeats 8000000 in
set_option maxRecDepth 100000 in
theorem plays_try {w : World} {A : Option Addr} {n cc : Nat} {f : Nat → Dv} (room : Int) (h : RdW w A n f) :
    Calls Try.prog 7 #[.int .i64 room, .slice A n cc] w fun e w' => e = .returned (.bool true) ∧ Below w.heap.size w w' := by
  have HX := hid_ h
  have hlow := h.low
  clear h
  by_cases hr : 1 ≤ room ∧ room ≤ 1073741824
  · have HN := hid_ (new_ok room w hr)
    go_enter Try.func7, Try.ntmps7
    go_wp2_with fail
    refine HN.out.mono ?_
    rintro e w1 ⟨cb, rfl, hC, hb1⟩
    have HM := hid_ (rnew_ok room w1 hr)
    have HC := hid_ (And.intro hC hb1)
    clear hC hb1 HN
    go_wp2_with fail
    refine HM.out.mono ?_
    rintro e w2 ⟨mb, rfl, hM, hb2⟩
    have HP := hid_ (show Pair (fun q => w.heap.size ≤ q) w2 cb mb ⟨room, 0, 0, 0, 0, 0, []⟩ ⟨room, 0, 0, 0, 0, 0, []⟩ from
      ⟨_, _, (HC.out.1.blocks).below hb2, hM.blocks, fun q hq => ⟨hq.1, Nat.lt_of_lt_of_le hq.2 hb2.size, fun x => by have := hq.2; have := x.1; omega⟩, fun q hq => ⟨Nat.le_trans HC.out.2.size hq.1, hq.2⟩⟩)
    have HB := hid_ (HC.out.2.trans (hb2.mono HC.out.2.size))
    clear hM hb2 HC HM
    go_wp2_with fail
    go_loopw [9] (fun v9 wr => ∃ (i : Nat) (c : Cs), v9 = .int .i64 i ∧ i ≤ n ∧ i ≤ 100 ∧ Pair (fun q => w.heap.size ≤ q) wr cb mb c c ∧ Below w.heap.size w wr ∧ c.uses ≤ i ∧ c.missed ≤ i) (fun v _ => n - (intOf v).toNat)
    case atStart => exact ⟨0, _, rfl, by omega, by omega, HP.out, HB.out, Int.le_refl _, Int.le_refl _⟩
    case round =>
      obtain ⟨i, c, rfl, hin, hi100, hP, hB, hu, hm⟩ := hrel
      have HP2 := hid_ hP
      have HB2 := hid_ hB
      clear hP hB HP HB
      by_cases hlt : i < n ∧ i < 100
      · obtain ⟨hlt1, hlt2⟩ := hlt
        obtain ⟨b, off, hA, hcx⟩ := (HX.out.below HB2.out).cells (by omega)
        obtain ⟨x0, x1, x2, x3⟩ := hcx i hlt1
        obtain ⟨e1, e2, e3, e4⟩ := (HX.out.below HB2.out).each i hlt1
        subst hA
        have b0 : (0 : Int) ≤ (i : Int) := by omega
        have b1 : (i : Int) < (n : Int) := by omega
        have b2 : (i : Int) < 100 := by omega
        have HSt := hid_ (fun W (hb : Below wr.heap.size wr W) => step_c (HP2.out.below hb) (by omega) (by omega) (f i).kind (f i).cost e4 (e1.below hb) e3 e2)
        clear hcx e1 e2 e3 e4
        generalize f i = d at *
        obtain ⟨kd, co, ky, DA, dn, dc, xs⟩ := d
        simp only at x0 x1 x2 x3 HSt
        go_upto_region 10 with (fail)
        go_cut [88] (fun s88 wx => ∃ c', s88 = .bool false ∧ Pair (fun q => w.heap.size ≤ q) wx cb mb c' c' ∧ Below w.heap.size w wx ∧ c'.uses ≤ c.uses + 1 ∧ c'.missed ≤ c.missed + 1)
        case first =>
          go_wp2_with fail
          go_region_with (first
            | (go_at_call 24; refine (HSt.out _ (by first | exact Below.refl _ _ | exact (Below.refl _ _).drew)).mono ?_; rintro e w3 ⟨rfl, c', hl, hu', hm'⟩; have HL := hid_ (And.intro hl (And.intro hu' hm')); have HSl := hid_ (show c'.S.length ≤ 900 from by have := hl.pair.ok.thr; omega); clear hl hu' hm')
            | (go_at_call 19; refine (HL.out.1.pair.keys).mono ?_; rintro e w4 ⟨A4, c4, rfl, hown4, hb4⟩; have H4 := hid_ (And.intro (RdT.of_own hown4 (by have := HSl.out; omega)) hb4); clear hown4 hb4)
            | (go_at_call 26; refine ((HL.out.1.pair.below H4.out.2).rkeys HSl.out).mono ?_; rintro e w5 ⟨A5, c5, rfl, hown5, hb5⟩; have H5 := hid_ (And.intro (RdT.of_own hown5 (by have := HSl.out; omega)) hb5); clear hown5 hb5)
            | (go_at_call 25; refine (eqtexts_c (c := c4) (c' := c5) (H4.out.1.below H5.out.2) H5.out.1).mono ?_; rintro e w6 ⟨rfl, hb6⟩; have H6 := hid_ (((HL.out.1.below H4.out.2).below H5.out.2).below hb6); clear hb6; obtain ⟨A6, c6, hB6⟩ := H6.out.pair.rhead; have d1 : w6.cell? ⟨mb, 1, none⟩ = some (.int .i64 c'.level) := hB6.cell 1; have d6 : w6.cell? ⟨mb, 6, none⟩ = some (.slice A6 c'.S.length c6) := hB6.cell 6; clear hB6)
            | (go_at_call 17; refine (H6.out.pair.len).mono ?_; rintro e w7 ⟨rfl, rfl⟩)
            | (go_at_call 20; refine (H6.out.pair.size).mono ?_; rintro e w7 ⟨rfl, rfl⟩)
            | (go_at_call 27; refine (H6.out.pair.rsize (by have := HSl.out; omega) (by have := H6.out.pair.ok.sz; have := H6.out.pair.ok.room; omega)).mono ?_; rintro e w7 ⟨⟨nd, rfl⟩, rfl⟩; have H7 := hid_ (H6.out.below ⟨rfl, rfl, rfl, Nat.le_refl _, fun _ _ => rfl⟩ : PairL _ _ cb mb c' c' (w6.drewN nd)))
            | (go_at_call 28; refine (H7.out.pair.level).mono ?_; rintro e w8 ⟨rfl, rfl⟩))
          all_goals
            go_wp2_with fail
            go_meet
            refine ⟨c', rfl, H7.out.pair.mono (fun q hq _ => hq.elim id (fun x => Nat.le_trans HB2.out.size x)), ?_, HL.out.2.1, HL.out.2.2⟩
            first
              | exact HB2.out.trans (H7.out.kp.toBelow HB2.out.size (fun q hq x => by omega))
              | exact HB2.out.drew.trans (H7.out.kp.toBelow HB2.out.size (fun q hq x => by omega))
        case rest =>
          obtain ⟨c', rfl, hP, hB, hu', hm'⟩ := hcut
          have HP3 := hid_ hP
          have HB3 := hid_ hB
          have HCo := hid_ hP.counts
          clear hP hB HSt
          go_wp2_with fail
          refine HCo.out.mono ?_
          rintro e w9 ⟨rfl, hb9⟩
          have hP4 := HP3.out.below hb9
          obtain ⟨A6, c6, hB6⟩ := hP4.rhead
          have d3 : w9.cell? ⟨mb, 3, none⟩ = some (.int .i64 c'.found) := hB6.cell 3
          have d4 : w9.cell? ⟨mb, 4, none⟩ = some (.int .i64 c'.missed) := hB6.cell 4
          have d5 : w9.cell? ⟨mb, 5, none⟩ = some (.int .i64 c'.thrown) := hB6.cell 5
          have HP4 := hid_ hP4
          have HB4 := hid_ (HB3.out.trans (hb9.mono HB3.out.size))
          clear hP4 hb9 hB6 HCo
          go_wp2
          go_roundw
          case rel => exact ⟨i + 1, c', by go_num, by omega, by omega, HP4.out, HB4.out, by push_cast; omega, by push_cast; omega⟩
          case measure => simp [intOf]; omega
      · have hcond : (¬ (i : Int) < (n : Int)) ∨ ((i : Int) < (n : Int) ∧ ¬ (i : Int) < 100) := by omega
        clear hlt
        have HW := hid_ (works_c wr)
        rcases hcond with b1 | ⟨b1, b2⟩
        all_goals
          go_wp2_with fail
          refine HW.out.mono ?_
          rintro e wb ⟨rfl, hb3⟩
          have HK := hid_ (HB2.out.trans (hb3.mono HB2.out.size))
          clear hb3
          go_wp2
          go_ret
          exact ⟨rfl, HK.out⟩
  · have hr' : room < 1 ∨ 1073741824 < room := by omega
    have HN := hid_ (new_bad room w hr')
    have HM := hid_ (rnew_bad room w hr')
    have HW := hid_ (works_c w)
    clear hr hr'
    go_enter Try.func7, Try.ntmps7
    go_wp2_with fail
    refine HN.out.mono ?_
    rintro e w1 ⟨rfl, rfl⟩
    go_wp2_with fail
    refine HM.out.mono ?_
    rintro e w1 ⟨rfl, rfl⟩
    go_wp2_with fail
    go_loopw [9] (fun v9 wr => v9 = .int .i64 0 ∧ wr = w) (fun _ _ => 0)
    case atStart => exact ⟨rfl, rfl⟩
    case round =>
      obtain ⟨rfl, rfl⟩ := hrel
      have hcond : (¬ (0 : Int) < (n : Int)) ∨ ((0 : Int) < (n : Int)) := by omega
      rcases hcond with b1 | b1
      all_goals
        go_wp2_with fail
        refine HW.out.mono ?_
        rintro e wb ⟨rfl, hb3⟩
        have HK := hid_ hb3
        clear hb3
        go_wp2
        go_ret
        exact ⟨rfl, HK.out⟩
end Go.Proofs.Ytogedbednfbkmaa
