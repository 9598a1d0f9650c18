/- LexWrong: the walk. Conditions: those that each theorem names. -/
import Derived.Test.YtmpdobpnnejmmaaDoorBc
import Derived.Test.YtmpdobpnnejmmaaDoorGe
namespace Go.Proofs.YtmpdobpnnejmmaaDoor
open Go.RowKit Go.Maps

/-- The bytes that stand in no word. -/
def oddB : List UInt8 := [0, 9, 13, 33, 34, 36, 37, 38, 42, 45, 47, 59, 62, 63, 64, 92, 94, 96, 126, 127, 128, 255]
theorem oddB_odd : ∀ k, k < 22 → Lx.Odd (oddB.getD k 0)
  | 0, _ => ⟨by decide, by decide, by decide, by decide, by decide, by decide⟩
  | 1, _ => ⟨by decide, by decide, by decide, by decide, by decide, by decide⟩
  | 2, _ => ⟨by decide, by decide, by decide, by decide, by decide, by decide⟩
  | 3, _ => ⟨by decide, by decide, by decide, by decide, by decide, by decide⟩
  | 4, _ => ⟨by decide, by decide, by decide, by decide, by decide, by decide⟩
  | 5, _ => ⟨by decide, by decide, by decide, by decide, by decide, by decide⟩
  | 6, _ => ⟨by decide, by decide, by decide, by decide, by decide, by decide⟩
  | 7, _ => ⟨by decide, by decide, by decide, by decide, by decide, by decide⟩
  | 8, _ => ⟨by decide, by decide, by decide, by decide, by decide, by decide⟩
  | 9, _ => ⟨by decide, by decide, by decide, by decide, by decide, by decide⟩
  | 10, _ => ⟨by decide, by decide, by decide, by decide, by decide, by decide⟩
  | 11, _ => ⟨by decide, by decide, by decide, by decide, by decide, by decide⟩
  | 12, _ => ⟨by decide, by decide, by decide, by decide, by decide, by decide⟩
  | 13, _ => ⟨by decide, by decide, by decide, by decide, by decide, by decide⟩
  | 14, _ => ⟨by decide, by decide, by decide, by decide, by decide, by decide⟩
  | 15, _ => ⟨by decide, by decide, by decide, by decide, by decide, by decide⟩
  | 16, _ => ⟨by decide, by decide, by decide, by decide, by decide, by decide⟩
  | 17, _ => ⟨by decide, by decide, by decide, by decide, by decide, by decide⟩
  | 18, _ => ⟨by decide, by decide, by decide, by decide, by decide, by decide⟩
  | 19, _ => ⟨by decide, by decide, by decide, by decide, by decide, by decide⟩
  | 20, _ => ⟨by decide, by decide, by decide, by decide, by decide, by decide⟩
  | 21, _ => ⟨by decide, by decide, by decide, by decide, by decide, by decide⟩
  | k + 22, h => absurd h (by omega)
set_option maxHeartbeats 4000000 in
set_option maxRecDepth 100000 in
theorem lexWrong_walk {w : World} (hv : Env w) {v : Value} {xs : List Sd} (h : LsAt cellS 3 w v xs) (hfew : xs.length ≤ 100000000000000) (hok : ∀ x ∈ xs, x.ok) (p c : Int) : Calls Tryd.prog 8 #[v, .int .i64 p, .int .i64 c] w fun e w' => e = .returned (.bool true) ∧ Below w.heap.size w w' := by
  have HV := hid_ hv
  have HI := hid_ h
  have HOk := hid_ hok
  clear hv h hok
  go_enter Tryd.func8, Tryd.ntmps8
  go_wp2_with fail
  refine (row_c HI.out hfew HOk.out).mono ?_
  rintro e w2 ⟨⟨ys, v2, rfl, hl, hg, hws⟩, hb2⟩
  have HG := hid_ hg
  have HWi := hid_ (own_ws hws)
  have HB2 := hid_ hb2
  clear hws hb2 hg HI
  go_wp2_with fail
  refine (lex_Join HWi.out (by omega) (fun y hy => Nat.le_trans (HG.out y hy).few (by decide))).mono ?_
  rintro e w3 ⟨rfl, hb3⟩
  have HB3 := hid_ (HB2.out.trans (hb3.mono HB2.out.size))
  clear hb3 HWi
  have hsz := Lx.back_size HG.out hl
  have h35 := Lx.back_35 HG.out
  have hss : (st (Lx.joinL ys)).size ≤ 2200 := by rw [st_size]; exact hsz
  have hbl : bl (st (Lx.joinL ys)) = Lx.joinL ys := bl_st _
  rw [← hbl] at h35
  have H35 := hid_ h35
  clear hbl hsz h35
  generalize st (Lx.joinL ys) = S at *
  go_wp2_with fail
  have HS := hid_ hss
  obtain ⟨W, eW⟩ : ∃ W, W = w3.alloc (.cells (oddB.map fun k => Value.int .u8 k.toNat).toArray 5) := ⟨_, rfl⟩
  have eW2 : w3.alloc (.cells #[.int .u8 0, .int .u8 9, .int .u8 13, .int .u8 33, .int .u8 34, .int .u8 36, .int .u8 37, .int .u8 38, .int .u8 42, .int .u8 45, .int .u8 47, .int .u8 59, .int .u8 62, .int .u8 63, .int .u8 64, .int .u8 92, .int .u8 94, .int .u8 96, .int .u8 126, .int .u8 127, .int .u8 128, .int .u8 255] 5) = W := eW.symm
  have HWb := hid_ (show Below w.heap.size w W from by rw [eW]; exact HB3.out.trans (((Below.refl _ _).alloc (Nat.le_refl _) _).mono HB3.out.size))
  have HO := hid_ (show Blk W w3.heap.size 5 (oddB.map fun k => Value.int .u8 k.toNat).toArray from by rw [eW]; exact Blk.new _ _ _)
  rw [eW2]
  clear eW eW2
  refine (bring_v W p (S.size + 1) (by omega) (by omega)).mono ?_
  rintro e w4 ⟨rfl, rfl⟩
  have hk := bring_lt p (S.size + 1) (by omega)
  generalize bring p (S.size + 1) = k at *
  have hm := bring_lt c 22 (by decide)
  have HBr := hid_ (fun W => bring_v W c 22 (by decide) (by decide))
  generalize bring c 22 = m at *
  have b0 : (0 : Int) ≤ (k : Int) := by omega
  have b1 : (k : Int) ≤ (S.size : Int) := by omega
  have c0 : (0 : Int) ≤ (m : Int) := by omega
  have c1 : (m : Int) ≤ 22 := by omega
  have c2 : ¬ (22 = m) := by omega
  have c3 : (1 : Int) ≤ ((22 - m : Nat) : Int) := by omega
  have c4 : 1 ≤ 22 - m := by omega
  have hm22 : m < 22 := by omega
  have HOd := hid_ (oddB_odd m hm22)
  have qc : ∀ n, (convert 40 9 (.slice (some ⟨w3.heap.size, m, none⟩) 1 (22 - m))).run Tryd.prog (w4.drewN n) = .ok (.string (st [oddB.getD m 0])) (w4.drewN n) := fun n => by
    refine run_convert_bytes_back (w4.drewN n) 40 9 5 ⟨w3.heap.size, m, none⟩ (22 - m) [oddB.getD m 0] Tryd.underlying40 Tryd.underlying5 Tryd.underlying9 fun j hj => ?_
    have hj0 : j = 0 := by simpa using hj
    subst hj0
    have h1 : w4.cell? ⟨w3.heap.size, m, none⟩ = some (.int .u8 (oddB.getD m 0).toNat) := blk_list HO.out m _ (by rw [List.getElem?_map, List.getD_eq_getElem?_getD, List.getElem?_eq_getElem (show m < oddB.length from hm22)]; rfl)
    rw [show (⟨w3.heap.size, m, none⟩ : Addr).add 0 = ⟨w3.heap.size, m, none⟩ from add_pl _ _ _]
    exact h1
  generalize oddB.getD m 0 = o at *
  obtain ⟨Pb, qp⟩ : ∃ P, S.extract 0 k = P := ⟨_, rfl⟩
  obtain ⟨Rb, qr⟩ : ∃ R, S.extract k S.size = R := ⟨_, rfl⟩
  obtain ⟨Ob, qo⟩ : ∃ O, st [o] = O := ⟨_, rfl⟩
  have s1 : Pb.size ≤ 2200 := by rw [← qp, ByteArray.size_extract]; omega
  have s2 : Rb.size ≤ 2200 := by rw [← qr, ByteArray.size_extract]; omega
  have s3 : Ob.size = 1 := by rw [← qo, st_size]; rfl
  have q1 : ¬ (9223372036854775807 < Pb.size + Ob.size) := by omega
  have q2 : ¬ (9223372036854775807 < Pb.size + Ob.size + Rb.size) := by omega
  have hT : ∃ a : Nat, wordsR (Pb ++ Ob ++ Rb) = ([], (a : Int), 20) ∧ a ≤ k := by
    have e : Pb ++ Ob ++ Rb = st ((bl S).take k ++ o :: (bl S).drop k) := by
      rw [← qp, ← qr, ← qo, extract_st, extract_st, st_append, st_append]
      congr 1
      have h1 : ((bl S).drop 0).take (k - 0) = (bl S).take k := by simp
      have h2 : ((bl S).drop k).take (S.size - k) = (bl S).drop k := List.take_of_length_le (by rw [List.length_drop, bl_len]; exact Nat.le_refl _)
      rw [h1, h2]
      simp
    obtain ⟨a, a1, a2⟩ := Lx.cut_odd HOd.out ((bl S).take k) ((bl S).drop k) (fun h => H35.out (List.mem_of_mem_take h))
    refine ⟨a, ?_, Nat.le_trans a2 (by rw [List.length_take]; omega)⟩
    unfold wordsR
    rw [if_neg (by rw [ByteArray.size_append, ByteArray.size_append]; omega), e, bl_st, a1]
  obtain ⟨a, hw, hak⟩ := hT
  have HW := hid_ hw
  have HTs := hid_ (show (Pb ++ Ob ++ Rb).size ≤ 1000000000 by rw [ByteArray.size_append, ByteArray.size_append]; omega)
  have a0 : (a : Int) ≤ (k : Int) := by omega
  clear hw s1 s2 s3
  go_wp2_with fail
  go_quiet (first | (go_at_call 24; go_loud (exact Calls.quiet_of_same (HBr.out _))))
  go_wp2_with fail
  refine (lex_WordsU (HV.out.below (bdrewN HWb.out nq)) _ HTs.out).mono ?_
  rw [HW.out]
  rintro e w5 ⟨v5, hws5, rfl, hb5⟩
  obtain ⟨A, d, rfl, _, _⟩ := hws5
  have HB5 := hid_ ((bdrewN HWb.out nq).trans (hb5.mono (bdrewN HWb.out nq).size))
  clear hb5
  go_wp2_with fail
  refine (law_works (HV.out.below HB5.out)).mono ?_
  rintro e w6 ⟨rfl, hb6⟩
  have HB6 := hid_ (HB5.out.trans (hb6.mono HB5.out.size))
  clear hb6
  go_wp2_with fail
  go_ret
  exact ⟨rfl, HB6.out⟩
end Go.Proofs.YtmpdobpnnejmmaaDoor
