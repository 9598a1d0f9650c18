/- CacheCounts: the walk. Conditions: what its argument reads as. -/
import Derived.Test.YtogedbednfbkmaaEa
import Derived.Deep.DeepCutAuto
import Derived.Deep.CutBlock
namespace Go.Proofs.Ytogedbednfbkmaa
open Go.RowKit Go.Maps

/-- What holds at the head of a round, i calls done. -/
structure CntR (w0 w : World) (cb : Nat) (c : Cs) (room : Int) (i : Nat) (gets came went : Int) : Prop where
  own : Own w0.heap.size w0 w cb c
  room : c.room = room
  uses : c.uses ≤ i
  mis : c.missed ≤ i
  gets : gets = c.found + c.missed
  net : came - went = c.thrown + c.S.length
  b1 : 0 ≤ came ∧ came ≤ i
  b2 : 0 ≤ went ∧ went ≤ i

set_option maxHeartbeats 8000000 in
set_option maxRecDepth 100000 in
theorem counts_try {w : World} {A : Option Addr} {n cc : Nat} {f : Nat → Nat → Int} (room0 : Int) (h : RdS w A n 4 f) :
    Calls Try.prog 6 #[.int .i64 room0, .slice A n cc] w fun e w' => e = .returned (.bool true) ∧ Below w.heap.size w w' := by
  have HX := hid_ h
  have hlow := h.low
  have r1 : 0 ≤ room0 % 91 ∧ room0 % 91 < 91 := ⟨Int.emod_nonneg _ (by omega), Int.emod_lt_of_pos _ (by omega)⟩
  clear h
  go_enter Try.func6, Try.ntmps6
  go_wp2_with fail
  refine (bring_c room0 91 _ (by omega) (by omega)).mono ?_
  rintro e w1 ⟨rfl, rfl⟩
  generalize room0 % 91 = rm at *
  have q0 : IntKind.i64.wrap (10 + rm) = 10 + rm := IntWalk.i64_in _ (by omega)
  go_wp2_with fail
  refine (new_ok (10 + rm) w (by omega)).mono ?_
  rintro e w1 ⟨cb, rfl, hN, hb1⟩
  have O0 := hid_ (Own.start hN hb1)
  clear hN hb1
  go_wp2
  go_loopw [7, 8, 9, 10, 11] (fun v7 v8 v9 v10 v11 wr => ∃ (i : Nat) (c : Cs) (gets came went : Int), v7 = .int .i64 gets ∧ v8 = .int .i64 c.found ∧ v9 = .int .i64 came ∧ v10 = .int .i64 went ∧ v11 = .int .i64 i ∧ i ≤ n ∧ i ≤ 80 ∧ CntR w wr cb c (10 + rm) i gets came went) (fun _ _ _ _ v _ => n - (intOf v).toNat)
  case atStart => exact ⟨0, _, 0, 0, 0, rfl, rfl, rfl, rfl, rfl, by omega, by omega, O0.out, rfl, Int.le_refl _, Int.le_refl _, rfl, rfl, ⟨Int.le_refl _, Int.le_refl _⟩, ⟨Int.le_refl _, Int.le_refl _⟩⟩
  case round =>
    obtain ⟨i, c, gets, came, went, rfl, rfl, rfl, rfl, rfl, hin, hi80, hR⟩ := hrel
    have HR := hid_ hR
    have hu := hR.uses
    have hm := hR.mis
    have hc1 := hR.b1
    have hc2 := hR.b2
    have hok := hid_ hR.own.isC.ok
    have hfn := hok.out.fnd
    have hmn := hok.out.mis
    clear hR O0
    by_cases hlt : i < n ∧ i < 80
    · obtain ⟨hlt1, hlt2⟩ := hlt
      obtain ⟨b, off, hA, hcx⟩ := (HX.out.below HR.out.own.below).cells (by omega)
      have x0 : wr.cell? ⟨b, off + i * 4, none⟩ = some (.int .i64 (f i 0)) := by simpa using hcx i hlt1 0 (by omega)
      have x1 := hcx i hlt1 1 (by omega)
      have x2 := hcx i hlt1 2 (by omega)
      have x3 := hcx i hlt1 3 (by omega)
      subst hA
      have hcells : ∀ W, Below w.heap.size w W → ∀ l, l < 4 → W.cell? ⟨b, off + i * 4 + l, none⟩ = some (.int .i64 (f i l)) := fun W hb l hl => by
        obtain ⟨b2, off2, hA2, hc2⟩ := (HX.out.below hb).cells (by omega)
        injection hA2 with hA2
        injection hA2 with e1 e2
        subst e1 e2
        exact hc2 i hlt1 l hl
      clear hcx
      have hcells := hid_ (And.intro (fun W hb => hcells W hb 2 (by omega)) (fun W hb => hcells W hb 3 (by omega)))
      generalize f i 0 = kd at *
      generalize f i 1 = ky at *
      generalize f i 2 = sz at *
      generalize f i 3 = co at *
      have b0 : (0 : Int) ≤ (i : Int) := by omega
      have b1 : (i : Int) < (n : Int) := by omega
      have b2 : (i : Int) < 80 := by omega
      go_wp2_with fail
      refine (key_c ky wr).mono ?_
      rintro e w2 ⟨rfl, rfl⟩
      generalize (ky % 12).toNat = j
      have HH := hid_ (has_c HR.out.own.isC (keyB j) (by show 2 ≤ maxLen; unfold maxLen; omega))
      go_wp2_with fail
      refine HH.out.mono ?_
      rintro e w2 ⟨rfl, rfl⟩
      generalize hhad : hasE (keyB j) c.S = had at *
      have HHad := hid_ hhad
      clear hhad
      go_wp2_with fail
      refine (bring_c kd 4 wr (by omega) (by omega)).mono ?_
      rintro e w2 ⟨rfl, rfl⟩
      have z0 : 0 ≤ kd % 4 ∧ kd % 4 < 4 := ⟨Int.emod_nonneg _ (by omega), Int.emod_lt_of_pos _ (by omega)⟩
      generalize kd % 4 = z at *
      go_upto_block 2 with fail
      go_cut [7, 8, 9, 10] (fun s7 s8 s9 s10 wx => ∃ (c : Cs) (gets came went : Int), s7 = .int .i64 gets ∧ s8 = .int .i64 c.found ∧ s9 = .int .i64 came ∧ s10 = .int .i64 went ∧ CntR w wx cb c (10 + rm) (i + 1) gets came went)
      case first =>
        have hz : z = 0 ∨ z = 1 ∨ z = 2 ∨ z = 3 := by omega
        clear z0
        have s0 : 0 ≤ sz % 8 ∧ sz % 8 < 8 := ⟨Int.emod_nonneg _ (by omega), Int.emod_lt_of_pos _ (by omega)⟩
        have s1 : 0 ≤ co % 20 ∧ co % 20 < 20 := ⟨Int.emod_nonneg _ (by omega), Int.emod_lt_of_pos _ (by omega)⟩
        have s2 : ((sz % 8).toNat : Int) = sz % 8 := Int.toNat_of_nonneg s0.1
        have hsm : Small c := ⟨by omega, by omega⟩
        have HSm := hid_ hsm
        have HPc := hid_ (put_counts (k := keyB j) (v := valB (sz % 8).toNat i) (cost := co % 20) hok.out (decide_eq_false (by show ¬ ((2 : Nat) = 0 ∨ 200 < 2 ∨ co % 20 < 0 ∨ 1000000 < co % 20); omega)) (by rw [HR.out.room, valB_len]; show ¬ (((2 : Nat) : Int) + (((sz % 8).toNat : Nat) : Int) > 10 + rm); omega))
        have HDK := hid_ (show ∀ W, Below w.heap.size w W → W.cell? ⟨b, off + i * 4 + 2, none⟩ = some (.int .i64 sz) ∧ W.cell? ⟨b, off + i * 4 + 3, none⟩ = some (.int .i64 co) from fun W hb => ⟨hcells.out.1 W hb, hcells.out.2 W hb⟩)
        clear hsm x0 x1
        rcases hz with rfl | rfl | rfl | rfl
        iterate 2
          · go_wp2_with fail
            go_region_held3 (fun W => W.cell? ⟨b, off + i * 4 + 2, none⟩ = some (.int .i64 sz) ∧ W.cell? ⟨b, off + i * 4 + 3, none⟩ = some (.int .i64 co))
              (first | exact HDK.out _ HO7.out.below | exact ⟨below_cell HV.out.2.2 x2, below_cell HV.out.2.2 x3⟩ | exact ⟨x2, x3⟩ | (refine And.intro ?_ ?_ <;> assumption))
              (first
                | (go_at_call 11; refine (bring_c _ _ _ (by omega) (by omega)).mono ?_; rintro e w3 ⟨rfl, rfl⟩)
                | (go_at_call 15; refine (value_c _ _ _ (by omega) (by omega) (by omega)).mono ?_; rintro e w3 ⟨A3, c3, rfl, hown, hb3⟩; have HV := hid_ (And.intro (rd_own hown (by rw [valB_len])).1 (And.intro (rd_own hown (by rw [valB_len])).2 hb3)))
                | (go_at_call 14; refine (((HR.out.own.after (Below.refl _ wr).drew).after HV.out.2.2).put (k := keyB j) (by show 2 ≤ 1000000; omega) HSm.out HV.out.2.1 HV.out.1 (by omega) _).mono ?_; rintro e w3 ⟨rfl, hO7⟩; rw [HPc.out.1]; have HO7 := hid_ hO7))
            all_goals
              have hpc := HPc.out
              rw [HHad.out] at hpc
              generalize (putC c (keyB j) (valB (sz % 8).toNat i) (co % 20)).2 = c' at *
              have HN := hid_ hpc
              clear hpc HPc HV x2 x3
              cases had with
              | false =>
                have HFin := hid_ (show CntR w w3 cb c' (10 + rm) (i + 1) gets (came + 1) went from by
                  obtain ⟨_, p1, p2, p3, p4, p5⟩ := HN.out
                  simp at p5
                  have R := HR.out
                  exact ⟨HO7.out, p4.trans R.room, by rw [p3]; push_cast; omega, by rw [p2]; push_cast; omega, by rw [p1, p2]; exact R.gets, by have := R.net; omega, by push_cast; omega, by push_cast; omega⟩)
                have hfe := HN.out.2.1
                rw [← hfe]
                go_wp2
                go_meet
                exact ⟨c', gets, came + 1, went, rfl, by rw [hfe], rfl, rfl, HFin.out⟩
              | true =>
                have HFin := hid_ (show CntR w w3 cb c' (10 + rm) (i + 1) gets (came + 1) (went + 1) from by
                  obtain ⟨_, p1, p2, p3, p4, p5⟩ := HN.out
                  simp at p5
                  have R := HR.out
                  exact ⟨HO7.out, p4.trans R.room, by rw [p3]; push_cast; omega, by rw [p2]; push_cast; omega, by rw [p1, p2]; exact R.gets, by have := R.net; omega, by push_cast; omega, by push_cast; omega⟩)
                have hfe := HN.out.2.1
                go_wp2
                go_meet
                exact ⟨c', gets, came + 1, went + 1, rfl, by rw [hfe], rfl, rfl, HFin.out⟩
        · have qg : IntKind.i64.wrap (gets + 1) = gets + 1 := IntWalk.i64_in _ (by have := HR.out.gets; omega)
          cases hg : getE (keyB j) c.S with
          | none =>
            have HGt := hid_ (HR.out.own.get_no (k := keyB j) (by show 2 ≤ maxLen; unfold maxLen; omega) HSm.out hg)
            have e1 := get_counts_none hg
            rw [e1] at HGt
            go_wp2_with fail
            refine HGt.out.mono ?_
            rintro e w3 ⟨rfl, hO7⟩
            have HFin := hid_ (show CntR w w3 cb { c with missed := c.missed + 1 } (10 + rm) (i + 1) (gets + 1) came went from by
              have R := HR.out
              exact ⟨hO7, R.room, by show c.uses ≤ _; push_cast; omega, by show c.missed + 1 ≤ _; push_cast; omega, by have := R.gets; show gets + 1 = c.found + (c.missed + 1); omega, R.net, by push_cast; omega, by push_cast; omega⟩)
            clear hO7 hg e1
            go_wp2
            go_meet
            exact ⟨{ c with missed := c.missed + 1 }, gets + 1, came, went, rfl, rfl, rfl, rfl, HFin.out⟩
          | some x =>
            have HGt := hid_ (HR.out.own.get_yes (k := keyB j) (by show 2 ≤ maxLen; unfold maxLen; omega) HSm.out hg)
            obtain ⟨p1, p2, p3, p4, p5, p6⟩ := get_counts_some hok.out hg
            generalize (getC c (keyB j)).2 = c' at *
            go_wp2_with fail
            refine HGt.out.mono ?_
            rintro e w3 ⟨A4, c4, rfl, _, hO7⟩
            have HFin := hid_ (show CntR w w3 cb c' (10 + rm) (i + 1) (gets + 1) came went from by
              have R := HR.out
              exact ⟨hO7, p4.trans R.room, by rw [p3]; push_cast; omega, by rw [p2]; push_cast; omega, by have := R.gets; rw [p1, p2]; omega, by rw [p5, p6]; exact R.net, by push_cast; omega, by push_cast; omega⟩)
            have HP1 := hid_ p1
            clear hO7 hg p1 p2 p3 p4 p5 p6
            go_wp2
            go_meet
            exact ⟨c', gets + 1, came, went, rfl, by rw [HP1.out], rfl, rfl, HFin.out⟩
        · have HDr := hid_ (HR.out.own.drop (keyB j) (by show 2 ≤ maxLen; unfold maxLen; omega))
          have hd := drop_counts (k := keyB j) hok.out
          have e1 : (dropC c (keyB j)).1 = had := HHad.out
          have e2 : (dropC c (keyB j)).2.found = c.found ∧ (dropC c (keyB j)).2.missed = c.missed ∧ (dropC c (keyB j)).2.uses = c.uses ∧ (dropC c (keyB j)).2.room = c.room ∧ (dropC c (keyB j)).2.thrown = c.thrown := ⟨rfl, rfl, rfl, rfl, rfl⟩
          rw [e1] at hd HDr
          have HD := hid_ (And.intro hd e2)
          clear hd e1 e2
          generalize (dropC c (keyB j)).2 = c' at *
          cases had with
          | false =>
            go_wp2_with fail
            refine HDr.out.mono ?_
            rintro e w3 ⟨rfl, hO7⟩
            have HFin := hid_ (show CntR w w3 cb c' (10 + rm) (i + 1) gets came went from by
              obtain ⟨hd, p1, p2, p3, p4, p5⟩ := HD.out
              simp at hd
              have R := HR.out
              exact ⟨hO7, p4.trans R.room, by rw [p3]; push_cast; omega, by rw [p2]; push_cast; omega, by rw [p1, p2]; exact R.gets, by rw [p5, hd]; exact R.net, by push_cast; omega, by push_cast; omega⟩)
            clear hO7
            go_wp2
            go_meet
            exact ⟨c', gets, came, went, rfl, by rw [HD.out.2.1], rfl, rfl, HFin.out⟩
          | true =>
            go_wp2_with fail
            refine HDr.out.mono ?_
            rintro e w3 ⟨rfl, hO7⟩
            have HFin := hid_ (show CntR w w3 cb c' (10 + rm) (i + 1) gets came (went + 1) from by
              obtain ⟨hd, p1, p2, p3, p4, p5⟩ := HD.out
              simp at hd
              have R := HR.out
              exact ⟨hO7, p4.trans R.room, by rw [p3]; push_cast; omega, by rw [p2]; push_cast; omega, by rw [p1, p2]; exact R.gets, by have := R.net; rw [p5]; omega, by push_cast; omega, by push_cast; omega⟩)
            clear hO7
            go_wp2
            go_meet
            exact ⟨c', gets, came, went + 1, rfl, by rw [HD.out.2.1], rfl, rfl, HFin.out⟩
      case rest =>
        clear HH HHad x0 x1 x2 x3 hcells hok hfn hmn hu hm hc1 hc2 HR
        obtain ⟨c', gets', came', went', rfl, rfl, rfl, rfl, hR'⟩ := hcut
        have HR' := hid_ hR'
        have hok := hR'.own.isC.ok
        have hfn := hok.fnd
        have hmn := hok.mis
        have hth := hok.thr
        have hu := hR'.uses
        have hm := hR'.mis
        have hc1 := hR'.b1
        have hc2 := hR'.b2
        have hgt := hR'.gets
        have hnt := hR'.net
        have HCt := hid_ (countsw hR'.own rfl rfl rfl)
        have hu2 : c'.uses ≤ 81 := by omega
        have q1 : (c'.found != c'.found) = false := by simp
        have q2 : IntKind.i64.wrap (gets' - c'.found) = gets' - c'.found := IntWalk.i64_in _ (by omega)
        have q3 : (c'.missed != gets' - c'.found) = false := by rw [bne_eq_false_iff_eq]; omega
        have q4 : IntKind.i64.wrap (came' - went') = came' - went' := IntWalk.i64_in _ (by omega)
        have q5 : IntKind.i64.wrap (came' - went' - (c'.S.length : Int)) = came' - went' - (c'.S.length : Int) := IntWalk.i64_in _ (by omega)
        have q6 : (c'.thrown != came' - went' - (c'.S.length : Int)) = false := by rw [bne_eq_false_iff_eq]; omega
        clear hR' hok hfn hmn hth hu hm hc1 hc2 hgt hnt
        go_wp2_with fail
        refine HCt.out.mono ?_
        rintro e w3 ⟨rfl, hO⟩
        have HO := hid_ hO
        have HLn := hid_ (len_is hO.isC)
        clear hO
        go_wp2_with fail
        refine HLn.out.mono ?_
        rintro e w4 ⟨rfl, rfl⟩
        go_wp2
        go_roundw
        case rel =>
          have R := HR'.out
          exact ⟨i + 1, c', gets', came', went', rfl, rfl, rfl, rfl, by go_num, by omega, by omega, HO.out, R.room, R.uses, R.mis, R.gets, R.net, R.b1, R.b2⟩
        case measure => simp [intOf]; omega
    · have hcond : (¬ (i : Int) < (n : Int)) ∨ ((i : Int) < (n : Int) ∧ ¬ (i : Int) < 80) := by omega
      clear hlt
      rcases hcond with b1 | ⟨b1, b2⟩
      all_goals
        go_wp2_with fail
        refine (works_c wr).mono ?_
        rintro e w6 ⟨rfl, hb6⟩
        have HB := hid_ ((HR.out.own.after hb6).below)
        clear hb6
        go_wp2
        go_ret
        exact ⟨rfl, HB.out⟩
end Go.Proofs.Ytogedbednfbkmaa
