/- HeapPlays: the walk. Conditions: what its argument reads as. -/
import Derived.Test.YtkoacfkglfgalaaRh
import Derived.Test.YtkoacfkglfgalaaRi
namespace Go.Proofs.Ytkoacfkglfgalaa
open Go.RowKit Go.Maps

set_option maxHeartbeats 8000000 in
set_option maxRecDepth 100000 in
theorem plays_try {w : World} {A : Option Addr} {n c : Nat} {f : Nat → Nat → Int} (h : RdD w A n f) :
    Calls Try.prog 7 #[.slice A n c] w fun e w' => e = .returned (.bool true) ∧ Below w.heap.size w w' := by
  have HX := hid_ h
  have hlow := h.low
  clear h
  go_enter Try.func7, Try.ntmps7
  go_wp2_with fail
  refine (hnew_c w).mono ?_
  rintro e w1 ⟨hb, rfl, hN, hB1⟩
  have HN := hid_ hN
  have HB1 := hid_ hB1
  clear hN hB1
  go_wp2_with fail
  refine (rnew_c w1).mono ?_
  rintro e w2 ⟨mb, rfl, hM, hB2⟩
  have P0 := hid_ (Pq.start HN.out HB1.out hM hB2)
  clear hM hB2
  go_wp2
  go_loopw [3, 5] (fun v3 v5 wr => ∃ (hb i : Nat) (S : List Item), v3 = .pointer (some ⟨hb, 0, none⟩) ∧ v5 = .int .i64 i ∧ i ≤ n ∧ i ≤ 120 ∧ S.length ≤ i ∧ Pq (fun q => w.heap.size ≤ q) w wr hb mb S S) (fun _ v _ => n - (intOf v).toNat)
  case atStart => exact ⟨hb, 0, [], rfl, rfl, by omega, by omega, by simp, P0.out⟩
  case round =>
    clear P0 HN HB1
    obtain ⟨hb, i, S, rfl, rfl, hin, hi120, hSi, hP⟩ := hrel
    have HP := hid_ hP
    have HBl := hid_ (hP.kp.toBelow (Nat.le_refl _) (fun q hq x => by omega))
    clear hP
    by_cases hlt : i < n ∧ i < 120
    · obtain ⟨hlt1, hlt2⟩ := hlt
      obtain ⟨b, off, hA, hcx⟩ := (HX.out.below HBl.out).cells (by omega)
      have x0 : wr.cell? ⟨b, off + i * 3, none⟩ = some (.int .i64 (f i 0)) := by simpa using hcx i hlt1 0 (by omega)
      have x1 := hcx i hlt1 1 (by omega)
      have x2 := hcx i hlt1 2 (by omega)
      have HW := hid_ (HX.out.wf i 1 hlt1 (by omega))
      subst hA
      clear hcx
      generalize f i 0 = kd at *
      generalize f i 1 = id at *
      generalize f i 2 = rk at *
      have b0 : (0 : Int) ≤ (i : Int) := by omega
      have b1 : (i : Int) < (n : Int) := by omega
      have b2 : (i : Int) < 120 := by omega
      go_wp2_with fail
      have D1 := hid_ (Fn.new wr 53 #[.int .i64 kd, .int .i64 id, .int .i64 rk] (fun j => if j = 0 then .int .i64 kd else if j = 1 then .int .i64 id else .int .i64 rk) (by
        intro j hj
        match j, hj with
        | 0, _ => rfl
        | 1, _ => rfl
        | 2, _ => rfl))
      have hbd : Below wr.heap.size wr (wr.alloc (.cells #[.int .i64 kd, .int .i64 id, .int .i64 rk] 53)) := (Below.refl _ _).alloc (Nat.le_refl _) _
      have R1 := hid_ (HP.out.rebase (Nat.le_refl _) hbd)
      have HBD := hid_ hbd
      clear hbd x0 x1 x2
      have hsz : (wr.alloc (.cells #[.int .i64 kd, .int .i64 id, .int .i64 rk] 53)).heap.size = wr.heap.size + 1 := by simp
      generalize hwd : wr.alloc (.cells #[.int .i64 kd, .int .i64 id, .int .i64 rk] 53) = wd at *
      generalize hdd : wr.heap.size = dd at *
      refine (bring_c kd 8 wd (by omega) (by omega)).mono ?_
      rintro e wx ⟨rfl, rfl⟩
      have z0 : 0 ≤ kd % 8 := Int.emod_nonneg _ (by omega)
      have z1 : kd % 8 < 8 := Int.emod_lt_of_pos _ (by omega)
      generalize kd % 8 = z at *
      have DK := hid_ (show ∀ wx, Kp (fun q => w.heap.size ≤ q ∧ q < dd) wd wx → wx.cell? ⟨dd, 1, none⟩ = some (.int .i64 id) ∧ wx.cell? ⟨dd, 2, none⟩ = some (.int .i64 rk) from fun wx hk => by
        have h := D1.out.kp hk (fun x => Nat.lt_irrefl _ x.2)
        exact ⟨h.cell 1 (by show 1 < 3; decide), h.cell 2 (by show 2 < 3; decide)⟩)
      clear D1
      go_upto_block 2 with fail
      go_cut [3] (fun s3 wx => ∃ (hb : Nat) (S' : List Item), s3 = .pointer (some ⟨hb, 0, none⟩) ∧ S'.length ≤ i + 1 ∧ Pq (fun q => w.heap.size ≤ q ∧ q < dd) wd wx hb mb S' S')
      case first =>
        have hz : z = 0 ∨ z = 1 ∨ z = 2 ∨ z = 3 ∨ z = 4 ∨ z = 5 ∨ z = 6 ∨ z = 7 := by omega
        clear z0 z1
        have q0 : (putE id rk != putE id rk) = false := by simp
        have q1 : (popI S != popI S) = false := by simp
        have q2 : (popK S != popK S) = false := by simp
        have q3 : (popE S != popE S) = false := by simp
        have q4 : (remE id S != remE id S) = false := by simp
        rcases hz with rfl | rfl | rfl | rfl | rfl | rfl | rfl | rfl
        iterate 4
          · go_wp2_with fail
            go_region_held3 (fun W => W.cell? ⟨dd, 1, none⟩ = some (.int .i64 id) ∧ W.cell? ⟨dd, 2, none⟩ = some (.int .i64 rk))
              (first | exact DK.out _ RZ.out.kp | exact DK.out _ (Kp.refl _ _).drew)
              (first
                | (go_at_call 12; (first | refine (RZ.out.put id rk).mono ?_ | refine (R1.out.drew.put id rk).mono ?_); rintro e wa ⟨rfl, hl⟩; have RZ := hid_ hl)
                | (go_at_call 22; (first | refine (RZ.out.rput R1.out.srt R1.out.good id rk (by omega)).mono ?_ | refine (R1.out.drew.rput R1.out.srt R1.out.good id rk (by omega)).mono ?_); rintro e wa ⟨rfl, hl⟩; have RZ := hid_ hl))
            all_goals
              go_wp2
              go_meet
              exact ⟨hb, putR id rk S, rfl, by have := putR_len id rk S; omega, RZ.out⟩
        iterate 2
          · go_wp2_with fail
            refine R1.out.pop.mono ?_
            rintro e wa ⟨rfl, hl⟩
            have RZ := hid_ hl
            clear hl
            go_wp2_with fail
            refine (RZ.out.rpop (by omega)).mono ?_
            rintro e wb ⟨rfl, hl⟩
            have RY := hid_ hl
            clear hl RZ
            go_wp2
            go_meet
            exact ⟨hb, S.tail, rfl, by rw [List.length_tail]; omega, RY.out⟩
        · go_wp2_with fail
          go_region_held3 (fun W => W.cell? ⟨dd, 1, none⟩ = some (.int .i64 id) ∧ W.cell? ⟨dd, 2, none⟩ = some (.int .i64 rk))
            (first | exact DK.out _ RZ.out.kp | exact DK.out _ (Kp.refl _ _).drew)
            (first
              | (go_at_call 19; (first | refine (RZ.out.remove id HW.out).mono ?_ | refine (R1.out.drew.remove id HW.out).mono ?_); rintro e wa ⟨rfl, hl⟩; have RZ := hid_ hl)
              | (go_at_call 24; (first | refine (RZ.out.rremove R1.out.srt R1.out.good id (by omega)).mono ?_ | refine (R1.out.drew.rremove R1.out.srt R1.out.good id (by omega)).mono ?_); rintro e wa ⟨rfl, hl⟩; have RZ := hid_ hl))
          all_goals
            go_wp2
            go_meet
            exact ⟨hb, outS id S, rfl, by have := outS_len id S; omega, RZ.out⟩
        · go_wp2_with fail
          refine (R1.out.rcopy (by omega)).mono ?_
          rintro e wa ⟨mb1, rfl, hr, hba⟩
          have HR := hid_ hr
          have HA := hid_ hba
          have RZ := hid_ (R1.out.after hba)
          clear hr hba
          go_wp2_with fail
          refine RZ.out.copy.mono ?_
          rintro e wb ⟨hb1, rfl, hi, hbb⟩
          obtain ⟨V, hV, hK⟩ := R1.out.copied HR.out HA.out hi hbb
          have HV := hid_ hV
          have HK := hid_ hK
          clear hi hbb hV hK
          go_wp2_with fail
          refine (popped_c HV.out (by omega)).mono ?_
          rintro e wc ⟨rfl, hk⟩
          have HZ := hid_ (HK.out _ hk)
          clear hk
          go_wp2
          go_meet
          exact ⟨hb1, S, rfl, by omega, HZ.out⟩
      case rest =>
        obtain ⟨hb, S', rfl, hS', hP⟩ := hcut
        have R2 := hid_ hP
        obtain ⟨d1, d2⟩ := DK.out _ hP.kp
        clear hP
        go_wp2_with fail
        refine (same_c R2.out id HW.out (by omega)).mono ?_
        rintro e wb ⟨rfl, hl⟩
        have R3 := hid_ (HP.out.unbase (wd := wd) (w' := wb) (hb' := hb) (mb' := mb) (S' := S') (T' := S') (Nat.le_refl _) (by rw [hdd]; exact HBD.out) (by rw [hdd]; exact hl))
        clear hl
        go_wp2
        go_roundw
        case rel => exact ⟨hb, i + 1, S', rfl, by go_num, by omega, by omega, hS', R3.out⟩
        case measure => simp [intOf]; omega
    · have hcond : (¬ (i : Int) < (n : Int)) ∨ ((i : Int) < (n : Int) ∧ ¬ (i : Int) < 120) := by omega
      clear hlt
      rcases hcond with b1 | ⟨b1, b2⟩
      all_goals
        go_wp2_with fail
        refine (popped_c HP.out (by omega)).mono ?_
        rintro e wa ⟨rfl, hk⟩
        have HK := hid_ (hk.toBelow (Nat.le_refl _) (fun q hq x => by omega))
        clear hk
        go_wp2_with fail
        refine (works_c wa).mono ?_
        rintro e wb ⟨rfl, hb3⟩
        have HK2 := hid_ (HK.out.trans (hb3.mono HK.out.size))
        clear hb3
        go_wp2
        go_ret
        exact ⟨rfl, HK2.out⟩
end Go.Proofs.Ytkoacfkglfgalaa
