/- What stands in these texts of the proof: Se Sf Pd. Conditions: those that each theorem names. -/
import Derived.Test.YtmgjmagniefhoaaGreatDoorAa21
/- Seeds of expressions, walked. Conditions: those that each theorem names. -/
namespace Go.Proofs.YtmgjmagniefhoaaGreatDoor
open Go.RowKit Go.Maps
section
variable {w w' : World} {sb : Nat} {N : List Int}
def padS (p : Nat) (b : UInt8) : ByteArray := st (List.replicate p b)
theorem padS_size (p : Nat) (b : UInt8) : (padS p b).size = p := by unfold padS; rw [st_size, List.length_replicate]
theorem padS_zero (b : UInt8) : padS 0 b = ⟨#[]⟩ := rfl
theorem padS_succ (p : Nat) (b : UInt8) : padS p b ++ ⟨#[b]⟩ = padS (p + 1) b := by
  unfold padS
  rw [List.replicate_succ']
  exact st_app _ [b]
theorem bl_app (a b : ByteArray) : bl (a ++ b) = bl a ++ bl b := by
  show (ByteArray.append _ _).data.toList = _
  simp [ByteArray.append]
theorem exprA_at {r k z : Nat} {N N1 : List Int} (hk : nextS 14 N = (k, N1)) (hz : zT 5 r k N1 = z) : (z < 5 → exprA r N = leafE z N1) ∧ (∀ r', r = r' + 1 → exprA r N = bodyE (exprA r') (typA r') z N1) := by
  subst hz
  refine ⟨fun h => ?_, fun r' h => ?_⟩
  · cases r with
    | zero => rw [exprA, hk]
    | succ r => rw [exprA, hk]; unfold bodyE; rw [if_pos h]
  · subst h
    rw [exprA, hk]
set_option maxHeartbeats 16000000 in
set_option maxRecDepth 100000 in
theorem exprS_c (p : Nat) (hp : p ≤ 3) (r : Nat) (ih : ∀ r', r' < r → ∀ (w : World) (N : List Int), SdAt w sb N → Calls Tryz.prog 33 #[.pointer (some ⟨sb, 0, none⟩), .int .i64 (6 - (r' : Int)), .int .i64 p] w (SdP w sb ((exprA r' N).1.text p) (exprA r' N).2)) (hr : r ≤ 6) (h : SdAt w sb N) :
    Calls Tryz.prog 33 #[.pointer (some ⟨sb, 0, none⟩), .int .i64 (6 - (r : Int)), .int .i64 p] w (SdP w sb ((exprA r N).1.text p) (exprA r N).2) := by
  have HNx := hid_ (next_c h 14 (by omega) (by omega))
  have HLt := hid_ h.lt
  generalize hD : (6 - (r : Int)) = D
  have HIh := hid_ ih
  have hk9 := nextS_lt (n := 14) (by omega) N
  have HT := hid_ (show ∃ k N1, (nextS 14 N) = (k, N1) from ⟨_, _, rfl⟩)
  obtain ⟨k, N1, hkN⟩ := HT.out
  have HK := hid_ hkN
  rw [hkN] at HNx hk9
  have hk9 : k < 14 := by have : ((k : Nat) : Int) < 14 := hk9; omega
  clear ih h hkN HT
  go_enter Tryz.func33, Tryz.ntmps33
  go_wp2_with fail
  refine HNx.out.mono ?_
  rintro e w1 ⟨rfl, hs1, hb1, _⟩
  have HS1 := hid_ (show SdAt w1 sb N1 from hs1)
  have HB1 := hid_ hb1
  obtain ⟨A1, c1, x1⟩ := HS1.out.len
  have hfew := HS1.out.few
  clear hs1 hb1 HNx
  have hmod : (k : Int).tmod 5 = ((k % 5 : Nat) : Int) := by rw [Int.tmod_eq_emod_of_nonneg (by omega)]; omega
  go_upto_region 2 with fail
  go_cut [23] (fun s17 wx => s17 = .bool (decide (r = 0 ∨ N1 = [])) ∧ wx = w1)
  case first =>
    by_cases h0 : r = 0
    · have hd : D > 5 := by omega
      have HD := hid_ (show decide (r = 0 ∨ N1 = []) = true from decide_eq_true (.inl h0))
      clear h0
      go_wp2_with fail
      go_meet
      exact ⟨by rw [HD.out], rfl⟩
    · have hd : ¬ D > 5 := by omega
      by_cases hn : N1 = []
      · have q0 : ((N1.length : Int) == 0) = true := by rw [hn]; rfl
        have HD := hid_ (show decide (r = 0 ∨ N1 = []) = true from decide_eq_true (.inr hn))
        clear h0 hn
        go_wp2_with fail
        go_meet
        exact ⟨by rw [HD.out], rfl⟩
      · have q0 : ((N1.length : Int) == 0) = false := by
          rw [beq_eq_false_iff_ne]
          have : N1.length ≠ 0 := fun h => hn (List.eq_nil_of_length_eq_zero h)
          omega
        have HD := hid_ (show decide (r = 0 ∨ N1 = []) = false from decide_eq_false (fun h => h.elim h0 hn))
        clear h0 hn
        go_wp2_with fail
        go_meet
        exact ⟨by rw [HD.out], rfl⟩
  case rest =>
    obtain ⟨rfl, rfl⟩ := hcut
    have HZ := hid_ (show zT 5 r k N1 = if decide (r = 0 ∨ N1 = []) = true then k % 5 else k from by
      unfold zT
      by_cases h : r = 0 ∨ N1 = []
      · rw [if_pos h, if_pos (decide_eq_true h)]
      · rw [if_neg h, if_neg (by rw [decide_eq_false h]; decide)])
    generalize decide (r = 0 ∨ N1 = []) = b at *
    go_upto_if 23 with fail
    go_cut [7] (fun s5 wx => s5 = .int .i64 ((zT 5 r k N1 : Nat) : Int) ∧ wx = wc)
    case first =>
      cases b with
      | true =>
        go_wp2_with fail
        go_meet
        exact ⟨by rw [HZ.out]; simp, rfl⟩
      | false =>
        go_wp2_with fail
        go_meet
        exact ⟨by rw [HZ.out]; simp, rfl⟩
    case rest =>
      obtain ⟨rfl, rfl⟩ := hcut
      have hz9 : zT 5 r k N1 < 14 := zT_lt hk9
      obtain ⟨z, hz⟩ : ∃ z, zT 5 r k N1 = z := ⟨_, rfl⟩
      rw [hz] at hz9 ⊢
      have HZz := hid_ hz
      have HDd := hid_ hD
      clear hz HZ hmod x1 hD
      go_wp2_with fail
      go_loopg [8, 9, 10] (p + 1) (fun g v8 v9 v10 wr => ∃ i : Nat, v10 = .int .i64 i ∧ i ≤ p ∧ v8 = .string (padS i 40) ∧ v9 = .string (padS i 41) ∧ wr = wc ∧ p - i + 1 ≤ g)
      case atStart => exact ⟨0, rfl, by omega, rfl, rfl, rfl, by omega⟩
      case round =>
        obtain ⟨i, rfl, hi, rfl, rfl, rfl, hg⟩ := hrel
        by_cases hlt : i < p
        · have b1 : (i : Int) < (p : Int) := by omega
          have s1 : (padS i 40).size ≤ 10 := by rw [padS_size]; omega
          have s2 : (padS i 41).size ≤ 10 := by rw [padS_size]; omega
          go_wp2_with fail
          go_roundg (gk - 1)
          case rel => exact ⟨i + 1, by go_num, by omega, by rw [padS_succ], by rw [padS_succ], rfl, by omega⟩
          case measure => omega
        · have hip : i = p := by omega
          subst hip
          have b1 : ¬ (i : Int) < (i : Int) := by omega
          have s1 : (padS i 40).size ≤ 10 := by rw [padS_size]; omega
          have s2 : (padS i 41).size ≤ 10 := by rw [padS_size]; omega
          clear hi hlt hg
          obtain ⟨hsm, hgr⟩ := exprA_at HK.out HZz.out
          by_cases h6 : z < 5
          · have HTy := hid_ (hsm h6)
            clear HZz hsm hgr
            rcases (show z = 0 ∨ z = 1 ∨ z = 2 ∨ z = 3 ∨ z = 4 by omega) with rfl | rfl | rfl | rfl | rfl
            · go_wp2_with fail
              go_ret
              rw [HTy.out]
              exact ⟨congrArg (fun q => Ending.returned (Value.string q)) (by apply bl_inj; unfold padS; simp only [bl_app, bl_st]; rfl), HS1.out, HB1.out⟩
            · go_wp2_with fail
              refine (next_c HS1.out 8 (by omega) (by omega)).mono ?_
              rintro e w12 ⟨rfl, hs, hb, _⟩
              have HS2 := hid_ hs
              have HB2 := hid_ (HB1.out.trans hb)
              have hc2 : (nextS 8 N1).1 < 8 := by have := nextS_lt (n := 8) (by omega) N1; omega
              clear hs hb
              go_wp2_with fail
              refine (letter_c _ _ hc2).mono ?_
              rintro e v12 ⟨rfl, rfl⟩
              have z2 : (st [lett (nextS 8 N1).1]).size ≤ 10 := by rw [st_size]; show 1 ≤ 10; omega
              go_wp2_with fail
              go_ret
              rw [HTy.out]
              exact ⟨congrArg (fun q => Ending.returned (Value.string q)) (by apply bl_inj; unfold padS; simp only [bl_app, bl_st]; rfl), HS2.out, HB2.out⟩
            · go_wp2_with fail
              refine (next_c HS1.out 8 (by omega) (by omega)).mono ?_
              rintro e w12 ⟨rfl, hs, hb, _⟩
              have HS2 := hid_ hs
              have HB2 := hid_ (HB1.out.trans hb)
              have hc2 : (nextS 8 N1).1 < 8 := by have := nextS_lt (n := 8) (by omega) N1; omega
              clear hs hb
              go_wp2_with fail
              refine (letter_c _ _ hc2).mono ?_
              rintro e v12 ⟨rfl, rfl⟩
              have z2 : (st [lett (nextS 8 N1).1]).size ≤ 10 := by rw [st_size]; show 1 ≤ 10; omega
              go_wp2_with fail
              go_ret
              rw [HTy.out]
              exact ⟨congrArg (fun q => Ending.returned (Value.string q)) (by apply bl_inj; unfold padS; simp only [bl_app, bl_st]; rfl), HS2.out, HB2.out⟩
            · go_wp2_with fail
              go_ret
              rw [HTy.out]
              exact ⟨congrArg (fun q => Ending.returned (Value.string q)) (by apply bl_inj; unfold padS; simp only [bl_app, bl_st]; rfl), HS1.out, HB1.out⟩
            · go_wp2_with fail
              go_ret
              rw [HTy.out]
              exact ⟨congrArg (fun q => Ending.returned (Value.string q)) (by apply bl_inj; unfold padS; simp only [bl_app, bl_st]; rfl), HS1.out, HB1.out⟩
          · obtain ⟨r, rfl⟩ := zT_great HZz.out (by omega) (by omega)
            have HTy := hid_ (hgr r rfl)
            have hD2 := HDd.out
            have hD3 : D + 1 = 6 - (r : Int) := by omega
            have wd : IntKind.i64.wrap (D + 1) = D + 1 := IntWalk.i64_in _ (by omega)
            have HEx := hid_ (fun (w : World) (N : List Int) (h : SdAt w sb N) => (show Calls Tryz.prog 33 #[.pointer (some ⟨sb, 0, none⟩), .int .i64 (D + 1), .int .i64 i] w (SdP w sb ((exprA r N).1.text i) (exprA r N).2) by rw [hD3]; exact HIh.out r (by omega) w N h))
            have HTp := hid_ (fun (w : World) (N : List Int) (h : SdAt w sb N) => (show Calls Tryz.prog 32 #[.pointer (some ⟨sb, 0, none⟩), .int .i64 (D + 1)] w (SdP w sb (typA r N).1.text (typA r N).2) by rw [hD3]; exact typS_all r (by omega) w N h))
            have hp2 : 2 ^ r ≤ 64 := Nat.pow_le_pow_right (by omega) (by omega : r ≤ 6)
            have hp3 : 3 ^ r ≤ 729 := Nat.pow_le_pow_right (by omega) (by omega : r ≤ 6)
            have HLt2 := hid_ (fun N => show (typA r N).1.text.length ≤ 1100 by have := typA_len r N; omega)
            have HLen := hid_ (fun N => show ((exprA r N).1.text i).length ≤ 1000000 by have := exprA_len i hp r (by omega) N; omega)
            clear hD2 hD3 HDd HIh hp2 hp3 hsm hgr HZz
            rcases (show z = 5 ∨ z = 6 ∨ z = 7 ∨ z = 8 ∨ z = 9 ∨ z = 10 ∨ z = 11 ∨ z = 12 ∨ z = 13 by omega) with rfl | rfl | rfl | rfl | rfl | rfl | rfl | rfl | rfl
            · go_wp2_with fail
              go_ret
              rw [HTy.out]
              exact ⟨congrArg (fun q => Ending.returned (Value.string q)) (by apply bl_inj; unfold padS; simp only [bl_app, bl_st]; rfl), HS1.out, HB1.out⟩
            · go_wp2_with fail
              refine (HEx.out _ N1 HS1.out).mono ?_
              rintro e w12 ⟨rfl, hs, hb⟩
              have HS2 := hid_ hs
              have HB2 := hid_ (HB1.out.trans hb)
              have z2 : (st ((exprA r N1).1.text i)).size ≤ 1000000 := by rw [st_size]; exact HLen.out N1
              clear hs hb
              go_wp2_with fail
              refine (HEx.out _ (exprA r N1).2 HS2.out).mono ?_
              rintro e w13 ⟨rfl, hs, hb⟩
              have HS3 := hid_ hs
              have HB3 := hid_ (HB2.out.trans hb)
              have z3 : (st ((exprA r (exprA r N1).2).1.text i)).size ≤ 1000000 := by rw [st_size]; exact HLen.out (exprA r N1).2
              clear hs hb
              go_wp2_with fail
              go_ret
              rw [HTy.out]
              exact ⟨congrArg (fun q => Ending.returned (Value.string q)) (by apply bl_inj; unfold padS; simp only [bl_app, bl_st]; rfl), HS3.out, HB3.out⟩
            · go_wp2_with fail
              refine (next_c HS1.out 8 (by omega) (by omega)).mono ?_
              rintro e w12 ⟨rfl, hs, hb, _⟩
              have HS2 := hid_ hs
              have HB2 := hid_ (HB1.out.trans hb)
              have hc2 : (nextS 8 N1).1 < 8 := by have := nextS_lt (n := 8) (by omega) N1; omega
              clear hs hb
              go_wp2_with fail
              refine (letter_c _ _ hc2).mono ?_
              rintro e v12 ⟨rfl, rfl⟩
              have z2 : (st [lett (nextS 8 N1).1]).size ≤ 10 := by rw [st_size]; show 1 ≤ 10; omega
              go_wp2_with fail
              refine (HEx.out _ (nextS 8 N1).2 HS2.out).mono ?_
              rintro e w13 ⟨rfl, hs, hb⟩
              have HS3 := hid_ hs
              have HB3 := hid_ (HB2.out.trans hb)
              have z3 : (st ((exprA r (nextS 8 N1).2).1.text i)).size ≤ 1000000 := by rw [st_size]; exact HLen.out (nextS 8 N1).2
              clear hs hb
              go_wp2_with fail
              refine (HEx.out _ (exprA r (nextS 8 N1).2).2 HS3.out).mono ?_
              rintro e w14 ⟨rfl, hs, hb⟩
              have HS4 := hid_ hs
              have HB4 := hid_ (HB3.out.trans hb)
              have z4 : (st ((exprA r (exprA r (nextS 8 N1).2).2).1.text i)).size ≤ 1000000 := by rw [st_size]; exact HLen.out (exprA r (nextS 8 N1).2).2
              clear hs hb
              go_wp2_with fail
              go_ret
              rw [HTy.out]
              exact ⟨congrArg (fun q => Ending.returned (Value.string q)) (by apply bl_inj; unfold padS; simp only [bl_app, bl_st]; rfl), HS4.out, HB4.out⟩
            · go_wp2_with fail
              refine (next_c HS1.out 8 (by omega) (by omega)).mono ?_
              rintro e w12 ⟨rfl, hs, hb, _⟩
              have HS2 := hid_ hs
              have HB2 := hid_ (HB1.out.trans hb)
              have hc2 : (nextS 8 N1).1 < 8 := by have := nextS_lt (n := 8) (by omega) N1; omega
              clear hs hb
              go_wp2_with fail
              refine (letter_c _ _ hc2).mono ?_
              rintro e v12 ⟨rfl, rfl⟩
              have z2 : (st [lett (nextS 8 N1).1]).size ≤ 10 := by rw [st_size]; show 1 ≤ 10; omega
              go_wp2_with fail
              refine (HTp.out _ (nextS 8 N1).2 HS2.out).mono ?_
              rintro e w13 ⟨rfl, hs, hb⟩
              have HS3 := hid_ hs
              have HB3 := hid_ (HB2.out.trans hb)
              have z3 : (st ((typA r (nextS 8 N1).2).1.text)).size ≤ 1100 := by rw [st_size]; exact HLt2.out (nextS 8 N1).2
              clear hs hb
              go_wp2_with fail
              go_ret
              rw [HTy.out]
              exact ⟨congrArg (fun q => Ending.returned (Value.string q)) (by apply bl_inj; unfold padS; simp only [bl_app, bl_st]; rfl), HS3.out, HB3.out⟩
            · go_wp2_with fail
              refine (HEx.out _ N1 HS1.out).mono ?_
              rintro e w12 ⟨rfl, hs, hb⟩
              have HS2 := hid_ hs
              have HB2 := hid_ (HB1.out.trans hb)
              have z2 : (st ((exprA r N1).1.text i)).size ≤ 1000000 := by rw [st_size]; exact HLen.out N1
              clear hs hb
              go_wp2_with fail
              refine (HEx.out _ (exprA r N1).2 HS2.out).mono ?_
              rintro e w13 ⟨rfl, hs, hb⟩
              have HS3 := hid_ hs
              have HB3 := hid_ (HB2.out.trans hb)
              have z3 : (st ((exprA r (exprA r N1).2).1.text i)).size ≤ 1000000 := by rw [st_size]; exact HLen.out (exprA r N1).2
              clear hs hb
              go_wp2_with fail
              refine (HEx.out _ (exprA r (exprA r N1).2).2 HS3.out).mono ?_
              rintro e w14 ⟨rfl, hs, hb⟩
              have HS4 := hid_ hs
              have HB4 := hid_ (HB3.out.trans hb)
              have z4 : (st ((exprA r (exprA r (exprA r N1).2).2).1.text i)).size ≤ 1000000 := by rw [st_size]; exact HLen.out (exprA r (exprA r N1).2).2
              clear hs hb
              go_wp2_with fail
              go_ret
              rw [HTy.out]
              exact ⟨congrArg (fun q => Ending.returned (Value.string q)) (by apply bl_inj; unfold padS; simp only [bl_app, bl_st]; rfl), HS4.out, HB4.out⟩
            · go_wp2_with fail
              refine (HEx.out _ N1 HS1.out).mono ?_
              rintro e w12 ⟨rfl, hs, hb⟩
              have HS2 := hid_ hs
              have HB2 := hid_ (HB1.out.trans hb)
              have z2 : (st ((exprA r N1).1.text i)).size ≤ 1000000 := by rw [st_size]; exact HLen.out N1
              clear hs hb
              go_wp2_with fail
              refine (HEx.out _ (exprA r N1).2 HS2.out).mono ?_
              rintro e w13 ⟨rfl, hs, hb⟩
              have HS3 := hid_ hs
              have HB3 := hid_ (HB2.out.trans hb)
              have z3 : (st ((exprA r (exprA r N1).2).1.text i)).size ≤ 1000000 := by rw [st_size]; exact HLen.out (exprA r N1).2
              clear hs hb
              go_wp2_with fail
              go_ret
              rw [HTy.out]
              exact ⟨congrArg (fun q => Ending.returned (Value.string q)) (by apply bl_inj; unfold padS; simp only [bl_app, bl_st]; rfl), HS3.out, HB3.out⟩
            · go_wp2_with fail
              refine (HEx.out _ N1 HS1.out).mono ?_
              rintro e w12 ⟨rfl, hs, hb⟩
              have HS2 := hid_ hs
              have HB2 := hid_ (HB1.out.trans hb)
              have z2 : (st ((exprA r N1).1.text i)).size ≤ 1000000 := by rw [st_size]; exact HLen.out N1
              clear hs hb
              go_wp2_with fail
              refine (HEx.out _ (exprA r N1).2 HS2.out).mono ?_
              rintro e w13 ⟨rfl, hs, hb⟩
              have HS3 := hid_ hs
              have HB3 := hid_ (HB2.out.trans hb)
              have z3 : (st ((exprA r (exprA r N1).2).1.text i)).size ≤ 1000000 := by rw [st_size]; exact HLen.out (exprA r N1).2
              clear hs hb
              go_wp2_with fail
              refine (HEx.out _ (exprA r (exprA r N1).2).2 HS3.out).mono ?_
              rintro e w14 ⟨rfl, hs, hb⟩
              have HS4 := hid_ hs
              have HB4 := hid_ (HB3.out.trans hb)
              have z4 : (st ((exprA r (exprA r (exprA r N1).2).2).1.text i)).size ≤ 1000000 := by rw [st_size]; exact HLen.out (exprA r (exprA r N1).2).2
              clear hs hb
              go_wp2_with fail
              go_ret
              rw [HTy.out]
              exact ⟨congrArg (fun q => Ending.returned (Value.string q)) (by apply bl_inj; unfold padS; simp only [bl_app, bl_st]; rfl), HS4.out, HB4.out⟩
            · go_wp2_with fail
              refine (HEx.out _ N1 HS1.out).mono ?_
              rintro e w12 ⟨rfl, hs, hb⟩
              have HS2 := hid_ hs
              have HB2 := hid_ (HB1.out.trans hb)
              have z2 : (st ((exprA r N1).1.text i)).size ≤ 1000000 := by rw [st_size]; exact HLen.out N1
              clear hs hb
              go_wp2_with fail
              refine (HTp.out _ (exprA r N1).2 HS2.out).mono ?_
              rintro e w13 ⟨rfl, hs, hb⟩
              have HS3 := hid_ hs
              have HB3 := hid_ (HB2.out.trans hb)
              have z3 : (st ((typA r (exprA r N1).2).1.text)).size ≤ 1100 := by rw [st_size]; exact HLt2.out (exprA r N1).2
              clear hs hb
              go_wp2_with fail
              go_ret
              rw [HTy.out]
              exact ⟨congrArg (fun q => Ending.returned (Value.string q)) (by apply bl_inj; unfold padS; simp only [bl_app, bl_st]; rfl), HS3.out, HB3.out⟩
            · go_wp2_with fail
              go_ret
              rw [HTy.out]
              exact ⟨congrArg (fun q => Ending.returned (Value.string q)) (by apply bl_inj; unfold padS; simp only [bl_app, bl_st]; rfl), HS1.out, HB1.out⟩
theorem exprS_all (p : Nat) (hp : p ≤ 3) : ∀ (r : Nat), r ≤ 6 → ∀ (w : World) (N : List Int), SdAt w sb N → Calls Tryz.prog 33 #[.pointer (some ⟨sb, 0, none⟩), .int .i64 (6 - (r : Int)), .int .i64 p] w (SdP w sb ((exprA r N).1.text p) (exprA r N).2) := by
  intro r
  induction r using Nat.strongRecOn with
  | ind r ih => exact fun hr w N h => exprS_c p hp r (fun r' hr' => ih r' hr' (by omega)) hr h
end
end Go.Proofs.YtmgjmagniefhoaaGreatDoor

/- made: a module's text out of a seed. Conditions: those that each theorem names. -/
namespace Go.Proofs.YtmgjmagniefhoaaGreatDoor
open Go.RowKit Go.Maps
/-- A function's text behind what there is. -/
def stepT (p i : Nat) (s : List UInt8 × List Int) : List UInt8 × List Int :=
  ((((((((((((s.1 ++ [102, 110, 32]) ++ [lett i]) ++ [91, 65, 32, 60, 58, 32]) ++ (typA 6 s.2).1.text) ++ [93, 40, 120, 58, 32]) ++ (typA 6 (typA 6 s.2).2).1.text) ++ [44, 32, 121, 58, 32, 65, 41, 58, 32]) ++ (typA 6 (typA 6 (typA 6 s.2).2).2).1.text) ++ [32, 61, 32]) ++ (exprA 6 (typA 6 (typA 6 (typA 6 s.2).2).2).2).1.text p) ++ [32]), (exprA 6 (typA 6 (typA 6 (typA 6 s.2).2).2).2).2)
def iterT (p : Nat) (N : List Int) : Nat → List UInt8 × List Int
  | 0 => (([109, 111, 100, 117, 108, 101, 32, 109, 32, 105, 109, 112, 111, 114, 116, 32, 110, 32, 105, 109, 112, 111, 114, 116, 32, 111, 32, 116, 121, 112, 101, 32, 84, 32, 61, 32] ++ (typA 6 N).1.text) ++ [32], (typA 6 N).2)
  | i + 1 => stepT p i (iterT p N i)
/-- The text that is made. -/
def madeT (p : Nat) (N : List Int) : List UInt8 := (iterT p (N.take 120) 3).1
theorem iterT_len (p : Nat) (hp : p ≤ 3) (N : List Int) : ∀ i, (iterT p N i).1.length ≤ 1200 + i * 900000
  | 0 => by
    have := typA_len 6 N
    unfold iterT
    simp only [List.length_append, List.length_cons, List.length_nil]
    omega
  | i + 1 => by
    have ih := iterT_len p hp N i
    have h1 := typA_len 6 (iterT p N i).2
    have h2 := typA_len 6 (typA 6 (iterT p N i).2).2
    have h3 := typA_len 6 (typA 6 (typA 6 (iterT p N i).2).2).2
    have h4 := exprA_len p hp 6 (by omega) (typA 6 (typA 6 (typA 6 (iterT p N i).2).2).2).2
    rw [iterT]
    unfold stepT
    simp only [List.length_append, List.length_cons, List.length_nil]
    omega
theorem madeT_len (p : Nat) (hp : p ≤ 3) (N : List Int) : (madeT p N).length ≤ 3000000 := by
  have := iterT_len p hp (N.take 120) 3
  unfold madeT
  omega
section
variable {w w' : World}
theorem SdAt.made {A : Option Addr} {c : Nat} {N : List Int} (hr : RowAt w (.slice A N.length c) N.length (ints N)) (hc : N.length ≤ c ∧ c ≤ 100000000000000) (hlow : ∀ b off q n c', Value.slice A N.length c = .slice (some ⟨b, off, q⟩) n c' → b < w.heap.size) {m : Nat} (hm : m = (N.take 120).length) :
    SdAt (w.alloc (.cells #[.slice A m c] 24)) w.heap.size (N.take 120) := by
  subst hm
  have hl : (N.take 120).length ≤ N.length := by rw [List.length_take]; omega
  obtain ⟨A', c', e, h0, hc2⟩ := hr
  injection e with e1 _ e3
  subst e1 e3
  refine ⟨⟨_, Blk.new w _ _, ⟨A, c, rfl, fun h => by have := h0 h; omega, fun b off q h => ?_⟩, fun b off q n c2 h => ?_, fun A2 n c2 h => ?_⟩, by rw [List.length_take]; omega⟩
  · obtain ⟨rfl, h3⟩ := hc2 b off q h
    refine ⟨rfl, fun j u hu => below_cell (below_alloc w _) (h3 j u ?_)⟩
    have hj : j < (N.take 120).length := by
      have := (List.getElem?_eq_some_iff.1 hu).1
      simpa [ints] using this
    rw [ints_at hj] at hu
    rw [ints_at (by omega)]
    rw [← hu]
    simp
  · injection h with h _ _
    subst h
    have := hlow b off q _ _ rfl
    omega
  · injection h with _ h2 h3
    omega
set_option maxHeartbeats 8000000 in
set_option maxRecDepth 100000 in
theorem made_c {sv : Value} {N : List Int} (hr : RowAt w sv N.length (ints N)) (hcp : ∀ A n c, sv = .slice A n c → n ≤ c ∧ c ≤ 100000000000000) (hlow : ∀ b off q n c, sv = .slice (some ⟨b, off, q⟩) n c → b < w.heap.size) (p : Nat) (hp : p ≤ 3) : Calls Tryz.prog 11 #[.agg #[sv], .int .i64 p] w fun e w' => e = .returned (.string (st (madeT p N))) ∧ Below w.heap.size w w' := by
  obtain ⟨A, c, rfl⟩ := hr.form
  obtain ⟨hc1, hc2⟩ := hcp _ _ _ rfl
  have HB := hid_ (Blk.new w 24 #[.slice A N.length c])
  have HB0 := hid_ (below_alloc w (.cells #[.slice A N.length c] 24))
  have c0 : (w.alloc (.cells #[.slice A N.length c] 24)).cell? ⟨w.heap.size, 0, none⟩ = some (.slice A N.length c) := HB.out.cell 0
  have f0 : (w.alloc (.cells #[.slice A N.length c] 24)).frozen? ⟨w.heap.size, 0, none⟩ = false := HB.out.frozen 0
  have HR := hid_ hr
  clear hr hcp
  go_enter Tryz.func11, Tryz.ntmps11
  go_wp2_with fail
  have HS := hid_ (SdAt.made HR.out ⟨hc1, hc2⟩ hlow (m := (min ((N.length : Nat) : Int) 120).toNat) (by rw [List.length_take]; omega))
  have HB1 := hid_ (below_alloc w (.cells #[.slice A (min ((N.length : Nat) : Int) 120).toNat c] 24))
  clear c0 f0 HB HB0 HR hlow
  generalize w.alloc (Obj.cells #[Value.slice A (min ((N.length : Nat) : Int) 120).toNat c] 24) = W0 at *
  have HTp := hid_ (fun (w1 : World) (N : List Int) (h : SdAt w1 w.heap.size N) => (show Calls Tryz.prog 32 #[.pointer (some ⟨w.heap.size, 0, none⟩), .int .i64 0] w1 (SdP w1 w.heap.size (typA 6 N).1.text (typA 6 N).2) from typS_all 6 (by omega) w1 N h))
  have HEx := hid_ (fun (w1 : World) (N : List Int) (h : SdAt w1 w.heap.size N) => (show Calls Tryz.prog 33 #[.pointer (some ⟨w.heap.size, 0, none⟩), .int .i64 0, .int .i64 p] w1 (SdP w1 w.heap.size ((exprA 6 N).1.text p) (exprA 6 N).2) from exprS_all p hp 6 (by omega) w1 N h))
  have HLt2 := hid_ (fun N => show (typA 6 N).1.text.length ≤ 1100 by have := typA_len 6 N; omega)
  have HLen := hid_ (fun N => show ((exprA 6 N).1.text p).length ≤ 1000000 by have := exprA_len p hp 6 (by omega) N; omega)
  have HMd := hid_ (show (iterT p (N.take 120) 3).1 = madeT p N from rfl)
  refine (HTp.out W0 _ HS.out).mono ?_
  rintro e w1 ⟨rfl, hs, hb⟩
  have HS1 := hid_ hs
  have HB2 := hid_ (HB1.out.trans hb)
  have z1 : (st (typA 6 (N.take 120)).1.text).size ≤ 1100 := by rw [st_size]; exact HLt2.out _
  clear hs hb HS HB1
  go_wp2_with fail
  have HEq := hid_ (show (⟨#[109, 111, 100, 117, 108, 101, 32, 109, 32, 105, 109, 112, 111, 114, 116, 32, 110, 32, 105, 109, 112, 111, 114, 116, 32, 111, 32, 116, 121, 112, 101, 32, 84, 32, 61, 32]⟩ : ByteArray) ++ st (typA 6 (N.take 120)).1.text ++ ⟨#[32]⟩ = st (iterT p (N.take 120) 0).1 from by apply bl_inj; simp only [bl_app, bl_st]; rfl)
  clear z1
  go_loopg [5, 6] (3 + 1) (fun g v5 v6 wr => ∃ i : Nat, v6 = .int .i64 i ∧ i ≤ 3 ∧ v5 = .string (st (iterT p (N.take 120) i).1) ∧ SdAt wr w.heap.size (iterT p (N.take 120) i).2 ∧ Below w.heap.size w wr ∧ 3 - i + 1 ≤ g)
  case atStart => exact ⟨0, rfl, by omega, by rw [HEq.out], HS1.out, HB2.out, by omega⟩
  case round =>
    obtain ⟨i, rfl, hi, rfl, hs, hb, hg⟩ := hrel
    have HS3 := hid_ hs
    have HB3 := hid_ hb
    clear hs hb
    by_cases hlt : i < 3
    · have b1 : (i : Int) < 3 := by omega
      have hacc : (st (iterT p (N.take 120) i).1).size ≤ 3000000 := by rw [st_size]; have := iterT_len p hp (N.take 120) i; omega
      obtain ⟨S, hS⟩ : ∃ S, iterT p (N.take 120) i = S := ⟨_, rfl⟩
      have HSt := hid_ (show iterT p (N.take 120) (i + 1) = stepT p i S from by rw [iterT, hS])
      rw [hS] at hacc HS3 ⊢
      clear hS
      obtain ⟨acc, M⟩ := S
      have hacc : (st acc).size ≤ 3000000 := hacc
      have HS3 := hid_ (show SdAt wr w.heap.size M from HS3.out)
      go_wp2_with fail
      refine (letter_c wr i (by omega)).mono ?_
      rintro e w3 ⟨rfl, rfl⟩
      have zl : (st [lett i]).size ≤ 10 := by rw [st_size]; show 1 ≤ 10; omega
      go_wp2_with fail
      refine (HTp.out _ M HS3.out).mono ?_
      rintro e w4 ⟨rfl, hs, hb⟩
      have HS4 := hid_ hs
      have HB4 := hid_ (HB3.out.trans hb)
      have z4 : (st (typA 6 M).1.text).size ≤ 1100 := by rw [st_size]; exact HLt2.out _
      clear hs hb
      go_wp2_with fail
      refine (HTp.out _ _ HS4.out).mono ?_
      rintro e w5 ⟨rfl, hs, hb⟩
      have HS5 := hid_ hs
      have HB5 := hid_ (HB4.out.trans hb)
      have z5 : (st (typA 6 (typA 6 M).2).1.text).size ≤ 1100 := by rw [st_size]; exact HLt2.out _
      clear hs hb
      go_wp2_with fail
      refine (HTp.out _ _ HS5.out).mono ?_
      rintro e w6 ⟨rfl, hs, hb⟩
      have HS6 := hid_ hs
      have HB6 := hid_ (HB5.out.trans hb)
      have z6 : (st (typA 6 (typA 6 (typA 6 M).2).2).1.text).size ≤ 1100 := by rw [st_size]; exact HLt2.out _
      clear hs hb
      go_wp2_with fail
      refine (HEx.out _ _ HS6.out).mono ?_
      rintro e w7 ⟨rfl, hs, hb⟩
      have HS7 := hid_ hs
      have HB7 := hid_ (HB6.out.trans hb)
      have z7 : (st ((exprA 6 (typA 6 (typA 6 (typA 6 M).2).2).2).1.text p)).size ≤ 1000000 := by rw [st_size]; exact HLen.out _
      clear hs hb
      go_wp2_with fail
      go_roundg (gk - 1)
      case rel => exact ⟨i + 1, by go_num, by omega, congrArg Value.string (by rw [HSt.out]; apply bl_inj; simp only [bl_app, bl_st]; rfl), by rw [HSt.out]; exact HS7.out, HB7.out, by omega⟩
      case measure => omega
    · have hi3 : i = 3 := by omega
      subst hi3
      go_wp2_with fail
      go_ret
      rw [HMd.out]
      exact ⟨rfl, HB3.out⟩
end
end Go.Proofs.YtmgjmagniefhoaaGreatDoor

/- A made text is short. No program is walked here. -/
namespace Go.Proofs.YtmgjmagniefhoaaGreatDoor
theorem nextS_few (n : Int) (N : List Int) : (nextS n N).2.length ≤ N.length ∧ ((nextS n N).2 ≠ [] → (nextS n N).2.length + 1 = N.length) := by
  cases N with
  | nil => exact ⟨Nat.le_refl _, fun h => absurd rfl h⟩
  | cons x N => exact ⟨Nat.le_succ _, fun _ => rfl⟩
theorem zT_some {m r k z : Nat} {N : List Int} (hm : 0 < m) (h : zT m r k N = z) (hz : m ≤ z) : N ≠ [] := by
  intro e
  subst h
  unfold zT at hz
  rw [if_pos (.inr e)] at hz
  have := Nat.mod_lt k hm
  omega
theorem leafT_few (z : Nat) (N : List Int) : (leafT z N).1.text.length + 60 * (leafT z N).2.length ≤ 4 + 60 * N.length := by
  have h := leafT_len z N
  have h8 := (nextS_few 8 N).1
  have : (leafT z N).2.length ≤ N.length := by
    unfold leafT
    split
    · exact Nat.le_refl _
    · split
      · exact h8
      · exact h8
  omega
theorem typA_few : ∀ (r : Nat) (N : List Int), (typA r N).1.text.length + 60 * (typA r N).2.length ≤ 8 + 60 * N.length
  | 0, N => by
    have h1 := leafT_few (zT 6 0 (nextS 9 N).1 (nextS 9 N).2) (nextS 9 N).2
    have h2 := (nextS_few 9 N).1
    show (leafT _ _).1.text.length + 60 * (leafT _ _).2.length ≤ _
    omega
  | r + 1, N => by
    have h0 := nextS_few 9 N
    have h1 := typA_few r (nextS 9 N).2
    have h2 := typA_few r (typA r (nextS 9 N).2).2
    have h3 := leafT_few (zT 6 (r + 1) (nextS 9 N).1 (nextS 9 N).2) (nextS 9 N).2
    have h8 := (nextS_few 8 (nextS 9 N).2).1
    have hs := fun z hz h => h0.2 (zT_some (m := 6) (r := r + 1) (k := (nextS 9 N).1) (z := z) (by omega) hz h)
    rw [typA]
    split
    · rename_i hz
      have := hs 6 hz (by omega)
      simp only [TyA.text, List.length_append, List.length_cons, List.length_nil]
      omega
    · split
      · rename_i hz
        have := hs 7 hz (by omega)
        simp only [TyA.text, List.length_append, List.length_cons, List.length_nil]
        omega
      · split
        · rename_i hz
          have := hs 8 hz (by omega)
          simp only [TyA.text, List.length_append, List.length_cons, List.length_nil]
          omega
        · have := h0.1
          omega
theorem leafE_few (p z : Nat) (N : List Int) (hp : p ≤ 3) : ((leafE z N).1.text p).length + 60 * (leafE z N).2.length ≤ 10 + 60 * N.length := by
  have h := leafE_len p z N hp
  have h8 := (nextS_few 8 N).1
  have : (leafE z N).2.length ≤ N.length := by
    unfold leafE
    repeat' split
    all_goals first | exact Nat.le_refl _ | exact h8
  omega
theorem bodyE_few {E : List Int → ExA × List Int} {T : List Int → TyA × List Int} (p z : Nat) (N : List Int) (hp : p ≤ 3) (hE : ∀ N, ((E N).1.text p).length + 60 * (E N).2.length ≤ 14 + 60 * N.length) (hT : ∀ N, ((T N).1.text).length + 60 * (T N).2.length ≤ 8 + 60 * N.length) :
    ((bodyE E T z N).1.text p).length + 60 * (bodyE E T z N).2.length ≤ 14 + (if 5 ≤ z then 60 else 0) + 60 * N.length := by
  unfold bodyE
  have hl := leafE_few p z N hp
  have e1 := hE N
  have e2 := hE (E N).2
  have e3 := hE (E (E N).2).2
  have e4 := hE (nextS 8 N).2
  have e5 := hE (E (nextS 8 N).2).2
  have t1 := hT (nextS 8 N).2
  have t2 := hT (E N).2
  have h8 := (nextS_few 8 N).1
  by_cases h5 : z < 5
  · rw [if_pos h5, if_neg (show ¬ 5 ≤ z by omega)]
    omega
  · rw [if_neg h5, if_pos (show 5 ≤ z by omega)]
    repeat' split
    all_goals
      simp only [ExA.text, wrapP_len, List.length_append, List.length_cons, List.length_nil]
      omega
theorem exprA_few (p : Nat) (hp : p ≤ 3) : ∀ (r : Nat) (N : List Int), ((exprA r N).1.text p).length + 60 * (exprA r N).2.length ≤ 14 + 60 * N.length
  | 0, N => by
    have h1 := leafE_few p (zT 5 0 (nextS 14 N).1 (nextS 14 N).2) (nextS 14 N).2 hp
    have h2 := (nextS_few 14 N).1
    show ((leafE _ _).1.text p).length + 60 * (leafE _ _).2.length ≤ _
    omega
  | r + 1, N => by
    have h0 := nextS_few 14 N
    have h := bodyE_few (E := exprA r) (T := typA r) p (zT 5 (r + 1) (nextS 14 N).1 (nextS 14 N).2) (nextS 14 N).2 hp (exprA_few p hp r) (typA_few r)
    rw [exprA]
    by_cases h5 : 5 ≤ zT 5 (r + 1) (nextS 14 N).1 (nextS 14 N).2
    · rw [if_pos h5] at h
      have := h0.2 (zT_some (m := 5) (r := r + 1) (k := (nextS 14 N).1) (by omega) rfl h5)
      omega
    · rw [if_neg h5] at h
      have := h0.1
      omega
theorem iterT_few (p : Nat) (hp : p ≤ 3) (N : List Int) : ∀ i, (iterT p N i).1.length + 60 * (iterT p N i).2.length ≤ 46 + 66 * i + 60 * N.length
  | 0 => by
    have := typA_few 6 N
    show (((_ ++ (typA 6 N).1.text) ++ [32] : List UInt8)).length + 60 * (typA 6 N).2.length ≤ _
    simp only [List.length_append, List.length_cons, List.length_nil]
    omega
  | i + 1 => by
    have ih := iterT_few p hp N i
    rw [iterT]
    generalize iterT p N i = S at *
    have h1 := typA_few 6 S.2
    have h2 := typA_few 6 (typA 6 S.2).2
    have h3 := typA_few 6 (typA 6 (typA 6 S.2).2).2
    have h4 := exprA_few p hp 6 (typA 6 (typA 6 (typA 6 S.2).2).2).2
    unfold stepT
    simp only [List.length_append, List.length_cons, List.length_nil]
    omega
/-- It is short. -/
theorem madeT_few (p : Nat) (hp : p ≤ 3) (N : List Int) : (madeT p N).length ≤ 7500 := by
  have := iterT_few p hp (N.take 120) 3
  have h2 : (N.take 120).length ≤ 120 := by rw [List.length_take]; omega
  unfold madeT
  omega
end Go.Proofs.YtmgjmagniefhoaaGreatDoor
