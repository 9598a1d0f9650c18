/- HeapRemoves: the walk. Conditions: what its arguments read as. -/
import Derived.Test.YtkoacfkglfgalaaY
import Derived.Test.YtkoacfkglfgalaaHt
namespace Go.Proofs.Ytkoacfkglfgalaa
open Go.RowKit Go.Maps

/-- Row after row: the second heap has those of the first one that are not to be away. -/
def GoA (g : Nat → Bool) (i : Nat) (S T : List Item) : Prop := (∀ p, p ∈ T ↔ p ∈ S ∧ g p.1.toNat = false) ∧ (∀ p ∈ S, p.1 < 60) ∧ S.length ≤ i
theorem GoA.both {g : Nat → Bool} {i k : Nat} {r : Int} {S T : List Item} (h : GoA g i S T) (hg : Good S) (hk : k < 60) (hr : 0 ≤ r ∧ r ≤ 12) (ha : g k = false) : GoA g (i + 1) (putR k r S) (putR k r T) := by
  rw [putR_ok (by omega), putR_ok (by omega)]
  refine ⟨fun p => ?_, fun p hp => ?_, Nat.le_trans (len_put_le hg) (Nat.succ_le_succ h.2.2)⟩
  · rw [mem_putS, mem_putS, h.1 p]
    constructor
    · rintro (rfl | ⟨⟨h1, h2⟩, h3⟩)
      · exact ⟨.inl rfl, by simpa using ha⟩
      · exact ⟨.inr ⟨h1, h3⟩, h2⟩
    · rintro ⟨rfl | ⟨h1, h3⟩, h2⟩
      · exact .inl rfl
      · exact .inr ⟨⟨h1, h2⟩, h3⟩
  · rcases mem_putS.1 hp with rfl | ⟨h1, _⟩
    · show (k : Int) < 60; omega
    · exact h.2.1 p h1
theorem GoA.one {g : Nat → Bool} {i k : Nat} {r : Int} {S T : List Item} (h : GoA g i S T) (hg : Good S) (hk : k < 60) (hr : 0 ≤ r ∧ r ≤ 12) (ha : g k = true) : GoA g (i + 1) (putR k r S) T := by
  rw [putR_ok (by omega)]
  refine ⟨fun p => ?_, fun p hp => ?_, Nat.le_trans (len_put_le hg) (Nat.succ_le_succ h.2.2)⟩
  · rw [mem_putS, h.1 p]
    constructor
    · rintro ⟨h1, h2⟩
      refine ⟨.inr ⟨h1, fun e => ?_⟩, h2⟩
      rw [e] at h2
      have : ((k : Int)).toNat = k := by omega
      rw [this, ha] at h2
      cases h2
    · rintro ⟨rfl | ⟨h1, h3⟩, h2⟩
      · have : ((k : Int)).toNat = k := by omega
        rw [this, ha] at h2
        cases h2
      · exact ⟨h1, h2⟩
  · rcases mem_putS.1 hp with rfl | ⟨h1, _⟩
    · show (k : Int) < 60; omega
    · exact h.2.1 p h1
/-- Id after id: what is to be away goes. -/
def GoB (g : Nat → Bool) (i : Nat) (S T : List Item) : Prop := (∀ p, p ∈ T ↔ p ∈ S ∧ g p.1.toNat = false) ∧ (∀ p ∈ S, p.1 < 60 ∧ (g p.1.toNat = true → (i : Int) ≤ p.1)) ∧ T.length ≤ 60
theorem GoA.toB {g : Nat → Bool} {i : Nat} {S T : List Item} (h : GoA g i S T) (hi : i ≤ 60) (hpos : ∀ p ∈ S, 0 ≤ p.1) (hT : Good T) : GoB g 0 S T := by
  refine ⟨h.1, fun p hp => ⟨h.2.1 p hp, fun _ => by have := hpos p hp; omega⟩, ?_⟩
  have := nodup_le hT.once (m := S.map (·.1)) (fun x hx => by
    obtain ⟨p, hp, rfl⟩ := List.mem_map.1 hx
    exact List.mem_map.2 ⟨p, ((h.1 p).1 hp).1, rfl⟩)
  simp at this
  have := h.2.2
  omega
theorem GoB.skip {g : Nat → Bool} {i : Nat} {S T : List Item} (h : GoB g i S T) (ha : g i = false) : GoB g (i + 1) S T := by
  refine ⟨h.1, fun p hp => ⟨(h.2.1 p hp).1, fun hg => ?_⟩, h.2.2⟩
  have h1 := (h.2.1 p hp).2 hg
  have : p.1 ≠ (i : Int) := fun e => by
    rw [e] at hg
    have : ((i : Int)).toNat = i := by omega
    rw [this, ha] at hg
    cases hg
  omega
theorem GoB.drop {g : Nat → Bool} {i : Nat} {S T : List Item} (h : GoB g i S T) (ha : g i = true) : GoB g (i + 1) (outS i S) T := by
  refine ⟨fun p => ?_, fun p hp => ?_, h.2.2⟩
  · rw [mem_outS, h.1 p]
    constructor
    · rintro ⟨h1, h2⟩
      refine ⟨⟨h1, fun e => ?_⟩, h2⟩
      rw [e] at h2
      have : ((i : Int)).toNat = i := by omega
      rw [this, ha] at h2
      cases h2
    · rintro ⟨⟨h1, _⟩, h2⟩
      exact ⟨h1, h2⟩
  · obtain ⟨h1, h2⟩ := mem_outS.1 hp
    refine ⟨(h.2.1 p h1).1, fun hg => ?_⟩
    have := (h.2.1 p h1).2 hg
    omega
theorem GoB.done {g : Nat → Bool} {S T : List Item} (h : GoB g 60 S T) (hS : Srt S) (hT : Srt T) : S = T := by
  refine srt_ext hS hT (fun p => ?_)
  rw [h.1 p]
  constructor
  · intro hp
    refine ⟨hp, ?_⟩
    cases hg : g p.1.toNat with
    | false => rfl
    | true => have := h.2.1 p hp; have := this.2 hg; omega
  · exact fun hp => hp.1

theorem nat_wf_ (n : Nat) (h : n ≤ 9223372036854775807) : Wf (n : Int) := by
  have h1 : IntKind.i64.min = -9223372036854775808 := rfl
  have h2 : IntKind.i64.max = 9223372036854775807 := rfl
  simp only [Wf, Lit.wf, Bool.and_eq_true, decide_eq_true_eq]
  omega
def YY (tb : Nat) (q : Nat) : Prop := q = tb

set_option maxHeartbeats 8000000 in
set_option maxRecDepth 100000 in
theorem removes_try {w : World} {A A2 : Option Addr} {n c n2 c2 : Nat} {xs : List (Int × Int)} {f : Nat → Int} (h : RdP w A n xs) (h2 : RdO w A2 n2 f) (hcap : n2 ≤ c2) (hnil : A2 = none → c2 = 0) :
    Calls Try.prog 6 #[.slice A n c, .slice A2 n2 c2] w fun e w' => e = .returned (.bool true) ∧ Below w.heap.size w w' := by
  have HX := hid_ h
  have HY := hid_ h2
  have hlow := h.low
  have hlow2 := h2.low
  clear h h2
  obtain ⟨m, hm⟩ : ∃ m : Nat, m = min n2 20 := ⟨_, rfl⟩
  have hm1 : m ≤ n2 := by omega
  have hm2 : m ≤ 20 := by omega
  have hm3 : m ≤ c2 := by omega
  have hmin : min (n2 : Int) 20 = (m : Int) := by omega
  clear hm
  go_enter Try.func6, Try.ntmps6
  go_wp2_with fail
  refine (hnew_c w).mono ?_
  rintro e w1 ⟨ha, rfl, hN1, hB1⟩
  go_wp2_with fail
  refine (hnew_c w1).mono ?_
  rintro e w2 ⟨hb, rfl, hN2, hB2⟩
  have P0 := hid_ ((Tp.start (Nat.le_refl _) (Below.refl _ _) hN1 hB1 hN2 hB2).alloc (Y := YY w2.heap.size) (.cells (Array.replicate 60 (.bool false)) 27) (fun q hq => .inr hq))
  have T0 := hid_ (Fn.zero w2 27 60 (.bool false))
  have hsz : w.heap.size ≤ w2.heap.size := Nat.le_trans hB1.size hB2.size
  clear hN1 hB1 hN2 hB2
  have hm4 : (m : Int) ≤ (c2 : Int) := by omega
  have hm5 : (0 : Int) ≤ (m : Int) := by omega
  go_wp2
  go_loopw [8] (fun v wr => ∃ (i : Nat) (g : Nat → Bool), v = .int .i64 i ∧ i ≤ m ∧ Tp (YY w2.heap.size) w.heap.size w wr ha hb [] [] ∧ Fn wr w2.heap.size 27 60 (fun j => .bool (g j))) (fun v _ => m - (intOf v).toNat)
  case atStart => exact ⟨0, fun _ => false, rfl, by omega, P0.out, T0.out⟩
  case round =>
    obtain ⟨i, g, rfl, him, hP, hT⟩ := hrel
    have HP := hid_ hP
    have HT := hid_ hT
    clear hP hT
    by_cases hlt : i < m
    · obtain ⟨b, off, hA, hc⟩ := (HY.out.below HP.out.below).cells (by omega)
      have c0 := hc i (by omega)
      subst hA
      clear hc
      have b0 : (0 : Int) ≤ (i : Int) := by omega
      have b1 : (i : Int) < (m : Int) := by omega
      have hi0 : 0 ≤ f i % 60 := Int.emod_nonneg _ (by omega)
      have hi1 : f i % 60 < 60 := Int.emod_lt_of_pos _ (by omega)
      have CB := hid_ (fun w => bring_c (f i) 60 w (by omega) (by omega))
      generalize f i % 60 = y at *
      obtain ⟨q, rfl⟩ := Int.eq_ofNat_of_zero_le hi0
      have ct := HT.out.cell q (by omega)
      have ft := HT.out.frozen q
      go_wp2_with fail
      refine (CB.out _).mono ?_
      rintro e wa ⟨rfl, rfl⟩
      clear CB
      go_wp2
      go_roundw
      case rel => exact ⟨i + 1, fun j => if j = q then true else g j, by go_num, by omega, HP.out.set_ (p := ⟨w2.heap.size, q, none⟩) rfl hsz _, (HT.out.set_ q _).congr (fun j _ => by
        show (if j = q then Value.bool true else .bool (g j)) = .bool (if j = q then true else g j)
        split <;> rfl)⟩
      case measure => simp [intOf]; omega
    · have b1 : ¬ (i : Int) < (m : Int) := by omega
      go_wp2
      go_loopw [9] (fun v wr => ∃ (i : Nat) (S T : List Item), v = .int .i64 i ∧ i ≤ n ∧ i ≤ 60 ∧ Tp (YY w2.heap.size) w.heap.size w wr ha hb S T ∧ Fn wr w2.heap.size 27 60 (fun j => .bool (g j)) ∧ GoA g i S T) (fun v _ => n - (intOf v).toNat)
      case atStart => exact ⟨0, [], [], rfl, by omega, by omega, HP.out, HT.out, fun p => by simp, by simp, by simp⟩
      case round =>
        obtain ⟨i2, S, T, rfl, hin, hi60, hP2, hT2, hG⟩ := hrel
        have KP := hid_ hP2
        have KT := hid_ hT2
        have KG := hid_ hG
        clear hP2 hT2 hG
        by_cases hlt2 : i2 < n ∧ i2 < 60
        · obtain ⟨l1, l2⟩ := hlt2
          obtain ⟨b, off, hA, hcx⟩ := (HX.out.below KP.out.below).cells (by omega)
          obtain ⟨x0, x1⟩ := hcx i2 l1
          subst hA
          generalize xs.getD i2 (0, 0) = x at *
          obtain ⟨xa, xb⟩ := x
          clear hcx
          have d0 : (0 : Int) ≤ (i2 : Int) := by omega
          have d1 : (i2 : Int) < (n : Int) := by omega
          have d2 : (i2 : Int) < 60 := by omega
          have hi0 : 0 ≤ xa % 60 := Int.emod_nonneg _ (by omega)
          have hi1 : xa % 60 < 60 := Int.emod_lt_of_pos _ (by omega)
          have hr0 : 0 ≤ xb % 12 := Int.emod_nonneg _ (by omega)
          have hr1 : xb % 12 < 12 := Int.emod_lt_of_pos _ (by omega)
          go_wp2_with fail
          refine (row_c xa xb _).mono ?_
          rintro e wa ⟨rfl, hba⟩
          generalize xa % 60 = y at *
          generalize xb % 12 = r at *
          obtain ⟨q, rfl⟩ := Int.eq_ofNat_of_zero_le hi0
          have KP2 := hid_ (KP.out.after hba)
          have KT2 := hid_ (KT.out.below hba)
          clear hba x0 x1
          go_wp2_with fail
          refine (KP2.out.put q r).mono ?_
          rintro e wb ⟨rfl, hl⟩
          have KP3 := hid_ hl.tp
          have KT3 := hid_ (KT2.out.kp hl.kp (fun x => x.2 rfl))
          have ct := KT3.out.cell q (by omega)
          clear hl
          cases hg : g q with
          | false =>
            rw [hg] at ct
            have HGQ := hid_ hg
            clear hg
            go_wp2_with fail
            refine (KP3.out.swap.put q r).mono ?_
            rintro e wc ⟨rfl, hl⟩
            have KP4 := hid_ hl.swap.tp
            have KT4 := hid_ (KT3.out.kp hl.kp (fun x => x.2 rfl))
            clear hl
            go_wp2
            go_roundw
            case rel => exact ⟨i2 + 1, _, _, by go_num, by omega, by omega, KP4.out, KT4.out, KG.out.both KP.out.good (by omega) (by omega) HGQ.out⟩
            case measure => simp [intOf]; omega
          | true =>
            rw [hg] at ct
            have HGQ := hid_ hg
            clear hg
            go_wp2
            go_roundw
            case rel => exact ⟨i2 + 1, _, _, by go_num, by omega, by omega, KP3.out, KT3.out, KG.out.one KP.out.good (by omega) (by omega) HGQ.out⟩
            case measure => simp [intOf]; omega
        · have hcond : (¬ (i2 : Int) < (n : Int)) ∨ ((i2 : Int) < (n : Int) ∧ ¬ (i2 : Int) < 60) := by omega
          have HB := hid_ (KG.out.toB hi60 (fun p hp => (KP.out.good.low p hp).1) KP.out.swap.good)
          rcases hcond with d1 | ⟨d1, d2⟩
          all_goals
            go_wp2
            go_loopw [12] (fun v wr => ∃ (i : Nat) (S : List Item), v = .int .i64 i ∧ i ≤ 60 ∧ Tp (YY w2.heap.size) w.heap.size w wr ha hb S T ∧ Fn wr w2.heap.size 27 60 (fun j => .bool (g j)) ∧ GoB g i S T) (fun v _ => 60 - (intOf v).toNat)
            case atStart => exact ⟨0, S, rfl, by omega, KP.out, KT.out, HB.out⟩
            case round =>
              obtain ⟨q, S3, rfl, hq60, hP3, hT3, hG3⟩ := hrel
              have LP := hid_ hP3
              have LT := hid_ hT3
              have LG := hid_ hG3
              clear hP3 hT3 hG3
              by_cases hq : q < 60
              · have e0 : (q : Int) < 60 := by omega
                have e1 : (0 : Int) ≤ (q : Int) := by omega
                have ct := LT.out.cell q (by omega)
                cases hg : g q with
                | false =>
                  rw [hg] at ct
                  have HGQ := hid_ hg
                  clear hg
                  go_wp2
                  go_roundw
                  case rel => exact ⟨q + 1, _, by go_num, by omega, LP.out, LT.out, LG.out.skip HGQ.out⟩
                  case measure => simp [intOf]; omega
                | true =>
                  rw [hg] at ct
                  have HGQ := hid_ hg
                  clear hg
                  have hwq : Wf (q : Int) := nat_wf_ q (by omega)
                  have CR := hid_ (LP.out.rank q hwq)
                  go_wp2_with fail
                  refine CR.out.mono ?_
                  rintro e wc ⟨rfl, rfl⟩
                  have CM := hid_ (LP.out.remove q hwq)
                  clear CR
                  go_wp2_with fail
                  refine CM.out.mono ?_
                  rintro e wc ⟨rfl, hl⟩
                  have LP4 := hid_ hl.tp
                  have LT4 := hid_ (LT.out.kp hl.kp (fun x => x.2 rfl))
                  clear hl CM
                  cases hs : hasS q S3 with
                  | false =>
                    rw [show remE q S3 = 50 by unfold remE; rw [hs]; rfl]
                    have HHS := hid_ hs
                    clear hs
                    go_wp2
                    go_roundw
                    case rel => exact ⟨q + 1, _, by go_num, by omega, LP4.out, LT4.out, LG.out.drop HGQ.out⟩
                    case measure => simp [intOf]; omega
                  | true =>
                    rw [show remE q S3 = 0 by unfold remE; rw [hs]; rfl]
                    have HHS := hid_ hs
                    clear hs
                    go_wp2
                    go_roundw
                    case rel => exact ⟨q + 1, _, by go_num, by omega, LP4.out, LT4.out, LG.out.drop HGQ.out⟩
                    case measure => simp [intOf]; omega
              · have e0 : ¬ (q : Int) < 60 := by omega
                have hq2 : q = 60 := by omega
                subst hq2
                have hST := LG.out.done LP.out.srt LP.out.swap.srt
                subst hST
                have hl60 := LG.out.2.2
                have t0 : ¬ (60 : Int) < (S3.length : Int) := by omega
                have t1 : ((S3.length : Int) != (S3.length : Int)) = false := by simp
                have CI := hid_ LP.out.ids
                go_wp2_with fail
                refine CI.out.mono ?_
                rintro e wc ⟨A3, c3, rfl, hown, hl⟩
                have R1 := hid_ (RdI.of_own hown (by omega))
                have LP1 := hid_ (LP.out.after hl)
                clear hown hl CI
                have CI := hid_ LP1.out.swap.ids
                go_wp2_with fail
                refine CI.out.mono ?_
                rintro e wd ⟨A4, c4, rfl, hown, hl⟩
                have R2 := hid_ (RdI.of_own hown (by omega))
                have R1' := hid_ (R1.out.below hl)
                have LP2 := hid_ (LP1.out.after hl)
                clear hown hl CI
                have CE := hid_ (eqints_c (c := c3) (d := c4) R1'.out R2.out)
                go_wp2_with fail
                refine CE.out.mono ?_
                rintro e we ⟨rfl, hl⟩
                have LP3 := hid_ (LP2.out.after hl)
                clear hl CE
                rw [decide_true]
                go_wp2_with fail
                refine LP3.out.len.mono ?_
                rintro e wf ⟨rfl, rfl⟩
                go_wp2_with fail
                refine LP3.out.swap.len.mono ?_
                rintro e wf ⟨rfl, rfl⟩
                go_wp2_with fail
                refine LP3.out.swap.len.mono ?_
                rintro e wf ⟨rfl, rfl⟩
                go_wp2_with fail
                refine LP3.out.swap.len.mono ?_
                rintro e wf ⟨rfl, rfl⟩
                go_wp2
                go_loopw [16] (fun v wr => ∃ (z : Int) (S' : List Item), v = .int .i64 z ∧ -1 ≤ z ∧ z ≤ 60 ∧ Tp (YY w2.heap.size) w.heap.size w wr ha hb S' S') (fun v _ => (intOf v + 1).toNat)
                case atStart => exact ⟨_, S3, rfl, by omega, by omega, LP3.out⟩
                case round =>
                  obtain ⟨z, S', rfl, hz1, hz2, hP4⟩ := hrel
                  have MP := hid_ hP4
                  clear hP4
                  by_cases hz0 : 0 ≤ z
                  · have q1 : (popI S' != popI S') = false := by simp
                    have q2 : (popK S' != popK S') = false := by simp
                    have q3 : (popE S' != popE S') = false := by simp
                    go_wp2_with fail
                    refine MP.out.pop.mono ?_
                    rintro e wg ⟨rfl, hl⟩
                    have ML := hid_ hl.tp
                    clear hl
                    go_wp2_with fail
                    refine ML.out.swap.pop.mono ?_
                    rintro e wh ⟨rfl, hl⟩
                    have ML2 := hid_ hl.swap.tp
                    clear hl
                    go_wp2
                    go_roundw
                    case rel => exact ⟨z - 1, _, by go_num, by omega, by omega, ML2.out⟩
                    case measure => simp [intOf]; omega
                  · have hz3 : z < 0 := by omega
                    go_wp2_with fail
                    refine (works_c _).mono ?_
                    rintro e wg ⟨rfl, hb⟩
                    have HBB := hid_ (MP.out.below.trans (hb.mono MP.out.le))
                    clear hb
                    go_wp2
                    go_ret
                    exact ⟨rfl, HBB.out⟩
end Go.Proofs.Ytkoacfkglfgalaa
