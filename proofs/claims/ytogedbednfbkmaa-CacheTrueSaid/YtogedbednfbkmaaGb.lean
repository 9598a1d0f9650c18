/- CacheTrue: the walk. Conditions: what its argument reads as. -/
import Derived.Test.YtogedbednfbkmaaGa
import Derived.Test.YtogedbednfbkmaaCb
import Derived.Deep.DeepCutAuto
import Derived.Deep.CutBlock
namespace Go.Proofs.Ytogedbednfbkmaa
open Go.RowKit Go.Maps

/-- What holds at the head of a round, i calls done. -/
structure CT (w0 w : World) (tb cb : Nat) (c : Cs) (vals : Nat → List Int) (room : Int) (i : Nat) : Prop where
  body : ∃ X, Hc X w0.heap.size w0 w cb c ∧ Lasts X w tb vals ∧ X tb ∧ ∀ q, X q → q < w.heap.size
  low : w0.heap.size ≤ tb
  tr : Tr c vals
  room : c.room = room
  uses : c.uses ≤ i
  mis : c.missed ≤ i
theorem CT.ok {w0 w : World} {tb cb : Nat} {c : Cs} {vals : Nat → List Int} {room : Int} {i : Nat} (h : CT w0 w tb cb c vals room i) : Ok c := by
  obtain ⟨X, h1, _⟩ := h.body
  exact h1.ok
theorem CT.below {w0 w : World} {tb cb : Nat} {c : Cs} {vals : Nat → List Int} {room : Int} {i : Nat} (h : CT w0 w tb cb c vals room i) : Below w0.heap.size w0 w := by
  obtain ⟨X, h1, _⟩ := h.body
  exact h1.below

set_option maxHeartbeats 8000000 in
set_option maxRecDepth 100000 in
theorem true_try {w : World} {A : Option Addr} {n cc : Nat} {f : Nat → Nat → Int} (room0 : Int) (h : RdS w A n 4 f) :
    Calls Try.prog 8 #[.int .i64 room0, .slice A n cc] w fun e w' => e = .returned (.bool true) ∧ Below w.heap.size w w' := by
  have HX := hid_ h
  have hlow := h.low
  have r1 : 0 ≤ room0 % 100 ∧ room0 % 100 < 100 := ⟨Int.emod_nonneg _ (by omega), Int.emod_lt_of_pos _ (by omega)⟩
  clear h
  go_enter Try.func8, Try.ntmps8
  go_wp2_with fail
  refine (works_c w).mono ?_
  rintro e w1 ⟨rfl, hbw⟩
  have HBw := hid_ hbw
  clear hbw
  go_wp2_with fail
  refine (bring_c room0 100 _ (by omega) (by omega)).mono ?_
  rintro e w2 ⟨rfl, rfl⟩
  generalize room0 % 100 = rm at *
  have q0 : IntKind.i64.wrap (1 + rm) = 1 + rm := IntWalk.i64_in _ (by omega)
  go_wp2_with fail
  refine (new_ok (1 + rm) w1 (by omega)).mono ?_
  rintro e w2 ⟨cb, rfl, hN, hb1⟩
  go_wp2_with fail
  have hRel0 : CT w (w2.alloc (.cells (Array.replicate 12 (.slice none 0 0)) 59)) w2.heap.size cb ⟨1 + rm, 0, 0, 0, 0, 0, []⟩ (fun _ => []) (1 + rm) 0 := by
    have hO := (Hc.start hN hb1).fence (Y := fun q => q = w2.heap.size) ((Below.refl _ w2).alloc (Nat.le_refl _) (.cells (Array.replicate 12 (.slice none 0 0)) 59)) (fun q hq => .inr (by omega))
    obtain ⟨F, h1, h2⟩ := hO.isC
    refine ⟨⟨fun q => q = w2.heap.size, ⟨⟨F, h1, fun q hq => ⟨Nat.le_trans HBw.out.size (h2 q hq).1, (h2 q hq).2⟩⟩, HBw.out.trans (hO.below.mono HBw.out.size), Nat.le_trans HBw.out.size hO.le⟩, ⟨_, Fn.zero w2 59 12 (.slice none 0 0), fun j hj => ⟨none, 0, 0, rfl, ⟨rfl, fun _ => ⟨rfl, rfl⟩, fun h => absurd h (by omega)⟩, fun p hp => by cases hp⟩⟩, rfl, fun q hq => by rw [hq]; simp⟩, Nat.le_trans HBw.out.size hb1.size, ⟨fun e he => by simp at he, fun e he => by simp at he⟩, rfl, Int.le_refl _, Int.le_refl _⟩
  have HRel0 := hid_ hRel0
  clear hRel0 hN hb1 HBw
  generalize w2.heap.size = tb at *
  go_loopw [8, 9] (fun v8 v9 wr => ∃ (i : Nat) (c : Cs) (vals : Nat → List Int), v8 = .int .i64 c.level ∧ v9 = .int .i64 i ∧ i ≤ n ∧ i ≤ 100 ∧ CT w wr tb cb c vals (1 + rm) i) (fun _ v _ => n - (intOf v).toNat)
  case atStart => exact ⟨0, _, _, rfl, rfl, by omega, by omega, HRel0.out⟩
  case round =>
    obtain ⟨i, c, vals, rfl, rfl, hin, hi100, hR⟩ := hrel
    have HR := hid_ hR
    have hu := hR.uses
    have hm := hR.mis
    clear hR HRel0
    by_cases hlt : i < n ∧ i < 100
    · obtain ⟨hlt1, hlt2⟩ := hlt
      obtain ⟨b, off, hA, hcx⟩ := (HX.out.below HR.out.below).cells (by omega)
      have x0 : wr.cell? ⟨b, off + i * 4, none⟩ = some (.int .i64 (f i 0)) := by simpa using hcx i hlt1 0 (by omega)
      have x1 := hcx i hlt1 1 (by omega)
      have x2 := hcx i hlt1 2 (by omega)
      have x3 := hcx i hlt1 3 (by omega)
      subst hA
      have hcells : ∀ W, Below w.heap.size w W → W.cell? ⟨b, off + i * 4 + 3, none⟩ = some (.int .i64 (f i 3)) := fun W hb => by
        obtain ⟨b2, off2, hA2, hc2⟩ := (HX.out.below hb).cells (by omega)
        injection hA2 with hA2
        injection hA2 with e1 e2
        subst e1 e2
        exact hc2 i hlt1 3 (by omega)
      have HCe := hid_ hcells
      clear hcx hcells
      generalize f i 0 = kd at *
      generalize f i 1 = ky at *
      generalize f i 2 = s0 at *
      generalize f i 3 = co at *
      have b0 : (0 : Int) ≤ (i : Int) := by omega
      have b1 : (i : Int) < (n : Int) := by omega
      have b2 : (i : Int) < 100 := by omega
      go_wp2_with fail
      go_region_held3 (fun W => W.cell? ⟨b, off + i * 4 + 1, none⟩ = some (.int .i64 ky) ∧ W.cell? ⟨b, off + i * 4 + 2, none⟩ = some (.int .i64 s0))
        (first | exact ⟨x1, x2⟩ | (refine And.intro ?_ ?_ <;> assumption))
        (first | (go_at_call 11; refine (bring_c _ _ _ (by omega) (by omega)).mono ?_; rintro e w3 ⟨rfl, rfl⟩))
      have hj0 : 0 ≤ ky % 12 ∧ ky % 12 < 12 := ⟨Int.emod_nonneg _ (by omega), Int.emod_lt_of_pos _ (by omega)⟩
      have hs0 : 0 ≤ s0 % 30 ∧ s0 % 30 < 30 := ⟨Int.emod_nonneg _ (by omega), Int.emod_lt_of_pos _ (by omega)⟩
      obtain ⟨j, hj⟩ := Int.eq_ofNat_of_zero_le hj0.1
      obtain ⟨s, hs⟩ := Int.eq_ofNat_of_zero_le hs0.1
      rw [hj, hs]
      have hj12 : j < 12 := by omega
      have hs30 : s < 30 := by omega
      have hjj : ((j : Int) % 12).toNat = j := by omega
      have HJ := hid_ hjj
      clear hj hs hj0 hs0 x1 x2 hjj
      have hR2 : CT w wr.drew tb cb c vals (1 + rm) i := by
        obtain ⟨X, h1, h2, h3, h4⟩ := HR.out.body
        exact ⟨⟨X, h1.after (Below.refl _ wr).drew, h2.below (Below.refl _ wr).drew (fun _ => id), h3, h4⟩, HR.out.low, HR.out.tr, HR.out.room, HR.out.uses, HR.out.mis⟩
      have y0 : wr.drew.cell? ⟨b, off + i * 4, none⟩ = some (.int .i64 kd) := x0
      have y3 : wr.drew.cell? ⟨b, off + i * 4 + 3, none⟩ = some (.int .i64 co) := x3
      have HR2 := hid_ hR2
      clear x0 x3 hR2 HR
      generalize wr.drew = wa at *
      go_wp2_with fail
      refine (bring_c kd 4 wa (by omega) (by omega)).mono ?_
      rintro e w3 ⟨rfl, rfl⟩
      have hsm : Small c := ⟨by omega, by omega⟩
      have HSm := hid_ hsm
      have z0 : 0 ≤ kd % 4 ∧ kd % 4 < 4 := ⟨Int.emod_nonneg _ (by omega), Int.emod_lt_of_pos _ (by omega)⟩
      generalize kd % 4 = z at *
      clear hsm y0
      have HLv := hid_ (Int.le_refl c.level)
      go_upto_block 2 with fail
      go_cut [] (fun wx => ∃ (c' : Cs) (vals' : Nat → List Int), CT w wx tb cb c' vals' (1 + rm) (i + 1) ∧ c.level ≤ c'.level)
      case first =>
        have hz : z = 0 ∨ z = 1 ∨ z = 2 ∨ z = 3 := by omega
        clear z0
        have hok := hid_ HR2.out.ok
        have htr := hid_ HR2.out.tr
        have hrm := HR2.out.room
        obtain ⟨X, hO, hL, hXt, hXl⟩ := HR2.out.body
        have HO2 := hid_ hO
        have HL2 := hid_ hL
        have HXl := hid_ (And.intro hXt hXl)
        have htb := HR2.out.low
        clear hO hL hXt hXl HR2
        rcases hz with rfl | rfl | rfl | rfl
        iterate 2
          · have hs1 : 0 ≤ co % 20 ∧ co % 20 < 20 := ⟨Int.emod_nonneg _ (by omega), Int.emod_lt_of_pos _ (by omega)⟩
            have hb4 : badE (keyB j) (co % 20) = false := decide_eq_false (by
              show ¬ ((2 : Nat) = 0 ∨ 200 < 2 ∨ co % 20 < 0 ∨ 1000000 < co % 20); omega)
            have hXl1 := hid_ HXl.out.2
            by_cases hbig : (s : Int) + 2 > 1 + rm
            · have hP : putC c (keyB j) (valB s i) (co % 20) = (5, c) := by
                unfold putC
                rw [if_neg (by rw [hb4]; simp), if_pos (by rw [valB_len, hrm]; show ((2 : Nat) : Int) + (s : Int) > 1 + rm; omega)]
              have HP := hid_ hP
              have HBig := hid_ hbig
              clear hP hb4 hs1 hbig
              go_wp2_with fail
              go_region_held3 (fun W => W.cell? ⟨b, off + i * 4 + 3, none⟩ = some (.int .i64 co))
                (first | exact HCe.out _ HO7.out.1.below | exact below_cell HV.out.2.2 y3 | exact y3 | assumption)
                (first
                  | (go_at_call 11; refine (bring_c _ _ _ (by omega) (by omega)).mono ?_; rintro e w3 ⟨rfl, rfl⟩)
                  | (go_at_call 12; refine (key_c _ _).mono ?_; rintro e w3 ⟨rfl, rfl⟩; rw [HJ.out])
                  | (go_at_call 15; refine (value_c _ _ _ (by omega) (by omega) (by omega)).mono ?_; rintro e w3 ⟨A3, c3, rfl, hown, hb3⟩; rw [Int.toNat_natCast] at hown ⊢; have HV := hid_ (And.intro (rd_own hown (by rw [valB_len])).1 (And.intro (rd_own hown (by rw [valB_len])).2 hb3)))
                  | (go_at_call 14; refine (((HO2.out.after (Below.refl _ wa).drew).after HV.out.2.2).put (fun q hq => Nat.lt_of_lt_of_le (hXl1.out q hq) HV.out.2.2.size) (k := keyB j) (by show 2 ≤ 1000000; omega) HSm.out HV.out.2.1 HV.out.1 (by omega) _).mono ?_; rintro e w3 ⟨rfl, hO7⟩; rw [HP.out]; rw [HP.out] at hO7; have HO7 := hid_ hO7))
              all_goals
                obtain ⟨hO3, hk3⟩ := HO7.out
                have HFin := hid_ (show CT w w3 tb cb c vals (1 + rm) (i + 1) from
                  ⟨⟨X, hO3, ((HL2.out.below (Below.refl _ wa).drew (fun _ => id)).below HV.out.2.2 (fun _ => id)).kp hk3 HXl.out.1, HXl.out.1, fun q hq => Nat.lt_of_lt_of_le (Nat.lt_of_lt_of_le (hXl1.out q hq) HV.out.2.2.size) hk3.size⟩, htb, htr.out, hrm, by push_cast; omega, by push_cast; omega⟩)
                have hbig := HBig.out
                have q5 : IntKind.i64.wrap ((s : Int) + 2) = (s : Int) + 2 := IntWalk.i64_in _ (by omega)
                clear hO3 hk3 HV HO7 y3
                go_wp2
                go_meet
                exact ⟨c, vals, HFin.out, HLv.out⟩
            · have hr4 : ¬ ((keyB j).size + (valB s i).length : Int) > c.room := by rw [valB_len, hrm]; show ¬ (((2 : Nat) : Int) + (s : Int) > 1 + rm); omega
              have HPc := hid_ (put_counts (v := valB s i) hok.out hb4 hr4)
              have HPt := hid_ (tr_put (v := valB s i) htr.out hok.out hj12 hb4 hs1.1 hr4)
              have HBig := hid_ hbig
              clear hr4 hb4 hs1 hbig
              go_wp2_with fail
              go_region_held3 (fun W => W.cell? ⟨b, off + i * 4 + 3, none⟩ = some (.int .i64 co))
                (first | exact HCe.out _ HO7.out.1.below | exact below_cell HV.out.2.2 y3 | exact y3 | assumption)
                (first
                  | (go_at_call 11; refine (bring_c _ _ _ (by omega) (by omega)).mono ?_; rintro e w3 ⟨rfl, rfl⟩)
                  | (go_at_call 12; refine (key_c _ _).mono ?_; rintro e w3 ⟨rfl, rfl⟩; rw [HJ.out])
                  | (go_at_call 15; refine (value_c _ _ _ (by omega) (by omega) (by omega)).mono ?_; rintro e w3 ⟨A3, c3, rfl, hown, hb3⟩; rw [Int.toNat_natCast] at hown ⊢; have HV := hid_ (And.intro (rd_own hown (by rw [valB_len])).1 (And.intro (rd_own hown (by rw [valB_len])).2 hb3)))
                  | (go_at_call 14; refine (((HO2.out.after (Below.refl _ wa).drew).after HV.out.2.2).put (fun q hq => Nat.lt_of_lt_of_le (hXl1.out q hq) HV.out.2.2.size) (k := keyB j) (by show 2 ≤ 1000000; omega) HSm.out HV.out.2.1 HV.out.1 (by omega) _).mono ?_; rintro e w3 ⟨rfl, hO7⟩; rw [HPc.out.1]; have HO7 := hid_ hO7))
              all_goals
                have HL3 := hid_ (((HL2.out.below (Below.refl _ wa).drew (fun _ => id)).below HV.out.2.2 (fun _ => id)).kp HO7.out.2 HXl.out.1)
                have HX3 := hid_ (show ∀ q, X q → q < w3.heap.size from fun q hq => Nat.lt_of_lt_of_le (Nat.lt_of_lt_of_le (hXl1.out q hq) HV.out.2.2.size) HO7.out.2.size)
                have HO3 := hid_ HO7.out.1
                have hbig := HBig.out
                have q5 : IntKind.i64.wrap ((s : Int) + 2) = (s : Int) + 2 := IntWalk.i64_in _ (by omega)
                clear HV HO7 y3 HO2 HL2 hXl1
                have HPd := hid_ (And.intro HPc.out.2 HPt.out.2)
                clear HPc HPt
                generalize (putC c (keyB j) (valB s i) (co % 20)).2 = c' at *
                go_wp2_with fail
                refine (value_c s i w3 (by omega) (by omega) (by omega)).mono ?_
                rintro e w5 ⟨A5, c5, rfl, hown5, hb5⟩
                rw [Int.toNat_natCast] at hown5 ⊢
                obtain ⟨hc5, hrd5⟩ := rd_own hown5 (by rw [valB_len])
                have hlt5 := fun {q : Nat} => own_lt hown5 (k := q)
                have hge5 := fun {q : Nat} => own_base hown5 (k := q)
                have htbl : tb < w3.heap.size := HX3.out tb HXl.out.1
                have hO5 := HO3.out.fence (Y := fun q => X q ∨ (Value.slice A5 s c5).ownBlock = some q) hb5 (fun q hq => hq.imp id (fun x => hge5 x))
                have hL5 := HL3.out.below hb5 (Y := fun q => X q ∨ (Value.slice A5 s c5).ownBlock = some q) (fun q => .inl)
                have hst := hid_ (And.intro (hO5.set_ (p := ⟨tb, j, none⟩) (.inl HXl.out.1) htb (.slice A5 s c5)) (hL5.set_ (j := j) hrd5 (fun p hp => by
                  subst hp
                  exact ⟨.inr rfl, fun e => by have h3 := hge5 (q := p.block) rfl; omega⟩)))
                have hXs : ∀ q, (X q ∨ (Value.slice A5 s c5).ownBlock = some q) → q < (w5.setCell ⟨tb, j, none⟩ (.slice A5 s c5)).heap.size := fun q hq => by
                  have e1 : (w5.setCell ⟨tb, j, none⟩ (.slice A5 s c5)).heap.size = w5.heap.size := by simp [World.setCell]
                  rw [e1]
                  rcases hq with hq | hq
                  · exact Nat.lt_of_lt_of_le (HX3.out q hq) hb5.size
                  · exact hlt5 hq
                have HXs := hid_ hXs
                obtain ⟨fv, hfn, _⟩ := hL5.is_
                have t1 := hfn.cell j hj12
                have t2 := hfn.frozen j
                clear hown5 hc5 hrd5 hlt5 hge5 hO5 hL5 hXs hfn hb5
                generalize fv j = oldv at *
                have j1 : (0 : Int) ≤ (j : Int) := by omega
                have j2 : (j : Int) < 12 := by omega
                have HHs := hid_ (hst.out.1.has (keyB j) (by show 2 ≤ maxLen; unfold maxLen; omega))
                rw [HPd.out.2.2.2] at HHs
                have HFin := hid_ (show CT w (w5.setCell ⟨tb, j, none⟩ (.slice A5 s c5)) tb cb c' (fun k => if k = j then valB s i else vals k) (1 + rm) (i + 1) from
                  ⟨⟨_, hst.out.1, hst.out.2, .inl HXl.out.1, HXs.out⟩, htb, HPd.out.2.1, HPd.out.1.2.2.2.1.trans hrm, by have := HPd.out.1.2.2.1; push_cast; omega, by have := HPd.out.1.2.1; push_cast; omega⟩)
                go_wp2_with fail
                refine (key_c _ _).mono ?_
                rintro e w6 ⟨rfl, rfl⟩
                rw [HJ.out]
                go_wp2_with fail
                refine HHs.out.mono ?_
                rintro e w6 ⟨rfl, rfl⟩
                go_wp2
                go_meet
                exact ⟨c', _, HFin.out, HPd.out.2.2.1⟩
        · clear y3
          go_wp2_with fail
          refine (key_c _ _).mono ?_
          rintro e w6 ⟨rfl, rfl⟩
          rw [HJ.out]
          go_wp2_with fail
          cases hg : getE (keyB j) c.S with
          | none =>
            refine (HO2.out.get_no HXl.out.2 (k := keyB j) (by show 2 ≤ maxLen; unfold maxLen; omega) HSm.out hg).mono ?_
            rintro e w3 ⟨rfl, hO3, hk3⟩
            rw [get_counts_none hg] at hO3
            have HHs := hid_ (hO3.has (keyB j) (by show 2 ≤ maxLen; unfold maxLen; omega))
            have e1 : hasE (keyB j) ({ c with missed := c.missed + 1 } : Cs).S = false := getE_none_has hg
            rw [e1] at HHs
            have HFin := hid_ (show CT w w3 tb cb { c with missed := c.missed + 1 } vals (1 + rm) (i + 1) from
              ⟨⟨X, hO3, HL2.out.kp hk3 HXl.out.1, HXl.out.1, fun q hq => Nat.lt_of_lt_of_le (HXl.out.2 q hq) hk3.size⟩, htb, ⟨htr.out.low, htr.out.vals⟩, hrm, by show c.uses ≤ _; push_cast; omega, by show c.missed + 1 ≤ _; push_cast; omega⟩)
            clear hO3 hk3 e1 hg
            go_wp2_with fail
            refine (key_c _ _).mono ?_
            rintro e w6 ⟨rfl, rfl⟩
            rw [HJ.out]
            go_wp2_with fail
            refine HHs.out.mono ?_
            rintro e w6 ⟨rfl, rfl⟩
            go_wp2
            go_meet
            exact ⟨_, vals, HFin.out, HLv.out⟩
          | some x =>
            refine (HO2.out.get_yes HXl.out.2 (k := keyB j) (by show 2 ≤ maxLen; unfold maxLen; omega) HSm.out hg).mono ?_
            rintro e w3 ⟨A4, c4, rfl, hrd4, hO3, hk3⟩
            obtain ⟨p1, p2, p3, p4, p5, p6⟩ := get_counts_some hok.out hg
            obtain ⟨t1, t2, t3, t4⟩ := tr_get_some htr.out hok.out hj12 hg
            have hL3 := HL2.out.kp hk3 HXl.out.1
            generalize (getC c (keyB j)).2 = c' at *
            have HHs := hid_ (hO3.has (keyB j) (by show 2 ≤ maxLen; unfold maxLen; omega))
            rw [t3] at HHs
            have HFin := hid_ (show CT w w3 tb cb c' vals (1 + rm) (i + 1) from
              ⟨⟨X, hO3, hL3, HXl.out.1, fun q hq => Nat.lt_of_lt_of_le (HXl.out.2 q hq) hk3.size⟩, htb, t1, p4.trans hrm, by rw [p3]; push_cast; omega, by rw [p2]; push_cast; omega⟩)
            obtain ⟨fv, hfn, hfv⟩ := hL3.is_
            obtain ⟨A6, n6, c6, e6, hrd6, _⟩ := hfv j hj12
            have d1 := hfn.cell j hj12
            rw [e6] at d1
            rw [t4] at hrd4 ⊢
            have HEq := hid_ (eqbytes_c (cc := c4) (cc' := c6) hrd4 hrd6)
            have HL4 := hid_ (show c.level ≤ c'.level by rw [t2]; exact Int.le_refl _)
            have j1 : (0 : Int) ≤ (j : Int) := by omega
            have j2 : (j : Int) < 12 := by omega
            clear hO3 hk3 p1 p2 p3 p4 p5 p6 t1 t2 t3 t4 hL3 hfn hfv e6 hrd4 hrd6 hg
            generalize (vals j).length = xl at *
            go_wp2_with fail
            refine (key_c _ _).mono ?_
            rintro e w6 ⟨rfl, rfl⟩
            rw [HJ.out]
            go_wp2_with fail
            refine HHs.out.mono ?_
            rintro e w6 ⟨rfl, rfl⟩
            go_wp2_with fail
            refine HEq.out.mono ?_
            rintro e w6 ⟨rfl, rfl⟩
            go_wp2
            go_meet
            exact ⟨c', vals, HFin.out, HL4.out⟩
        · clear y3
          have HHs := hid_ (HO2.out.has (keyB j) (by show 2 ≤ maxLen; unfold maxLen; omega))
          have HDr := hid_ (HO2.out.drop HXl.out.2 (keyB j) (by show 2 ≤ maxLen; unfold maxLen; omega))
          have e1 : (dropC c (keyB j)).1 = hasE (keyB j) c.S := rfl
          rw [e1] at HDr
          obtain ⟨d1, d2⟩ := tr_drop htr.out (keyB j)
          have HD := hid_ (And.intro d1 (And.intro d2 (show (dropC c (keyB j)).2.uses = c.uses ∧ (dropC c (keyB j)).2.missed = c.missed ∧ (dropC c (keyB j)).2.room = c.room ∧ (dropC c (keyB j)).2.level = c.level from ⟨rfl, rfl, rfl, rfl⟩)))
          clear e1 d1 d2
          generalize hasE (keyB j) c.S = had at *
          generalize (dropC c (keyB j)).2 = c' at *
          have q7 : (had != had) = false := by simp
          go_wp2_with fail
          refine (key_c _ _).mono ?_
          rintro e w6 ⟨rfl, rfl⟩
          rw [HJ.out]
          go_wp2_with fail
          refine HHs.out.mono ?_
          rintro e w6 ⟨rfl, rfl⟩
          go_wp2_with fail
          refine (key_c _ _).mono ?_
          rintro e w6 ⟨rfl, rfl⟩
          rw [HJ.out]
          go_wp2_with fail
          refine HDr.out.mono ?_
          rintro e w3 ⟨rfl, hO3, hk3⟩
          have HH2 := hid_ (hO3.has (keyB j) (by show 2 ≤ maxLen; unfold maxLen; omega))
          rw [HD.out.2.1] at HH2
          have HFin := hid_ (show CT w w3 tb cb c' vals (1 + rm) (i + 1) from
            ⟨⟨X, hO3, HL2.out.kp hk3 HXl.out.1, HXl.out.1, fun q hq => Nat.lt_of_lt_of_le (HXl.out.2 q hq) hk3.size⟩, htb, HD.out.1, HD.out.2.2.2.2.1.trans hrm, by rw [HD.out.2.2.1]; push_cast; omega, by rw [HD.out.2.2.2.1]; push_cast; omega⟩)
          have HL4 := hid_ (show c.level ≤ c'.level by rw [HD.out.2.2.2.2.2]; exact Int.le_refl _)
          clear hO3 hk3
          go_wp2_with fail
          refine (key_c _ _).mono ?_
          rintro e w6 ⟨rfl, rfl⟩
          rw [HJ.out]
          go_wp2_with fail
          refine HH2.out.mono ?_
          rintro e w6 ⟨rfl, rfl⟩
          go_wp2
          go_meet
          exact ⟨c', vals, HFin.out, HL4.out⟩
      case rest =>
        obtain ⟨c', vals', hR', hlev⟩ := hcut
        have HR' := hid_ hR'
        obtain ⟨X, hO, hL, hXt, hXl⟩ := hR'.body
        have HS := hid_ hO.size
        have HLe := hid_ hO.level
        have hsz := hO.ok.sz
        rw [hR'.room] at hsz
        have hlv : ¬ c'.level < c.level := by omega
        have hsz2 : ¬ (1 + rm < (szS c'.S : Int)) := by omega
        clear hR' hO hL hXt hXl hlev hsz y3 HR2
        go_wp2_with fail
        refine HS.out.mono ?_
        rintro e w6 ⟨rfl, rfl⟩
        go_wp2_with fail
        refine HLe.out.mono ?_
        rintro e w6 ⟨rfl, rfl⟩
        go_wp2_with fail
        refine HLe.out.mono ?_
        rintro e w6 ⟨rfl, rfl⟩
        go_wp2
        go_roundw
        case rel => exact ⟨i + 1, c', vals', rfl, by go_num, by omega, by omega, HR'.out⟩
        case measure => simp [intOf]; omega
    · have hcond : (¬ (i : Int) < (n : Int)) ∨ ((i : Int) < (n : Int) ∧ ¬ (i : Int) < 100) := by omega
      clear hlt
      have HB := hid_ HR.out.below
      rcases hcond with b1 | ⟨b1, b2⟩
      all_goals
        go_wp2
        go_ret
        exact ⟨rfl, HB.out⟩
end Go.Proofs.Ytogedbednfbkmaa
