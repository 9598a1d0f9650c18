/- The reference cache: its function Put. Conditions: those that each theorem names. -/
import Derived.Test.YtogedbednfbkmaaIc
import Derived.Test.YtogedbednfbkmaaGa
namespace Go.Proofs.Ytogedbednfbkmaa
open Go.RowKit Go.Maps

def lenAt (w : World) (mb : Nat) : Nat := match w.cell? ⟨mb, 6, none⟩ with | some (.slice _ n _) => n | _ => 0
section
variable {X : Nat → Prop} {w w' w1 : World} {mb : Nat} {c c2 : Cs}
theorem Rm.head (h : Rm X w mb c) : ∃ A cap, Blk w mb 57 (cellsR c (.slice A c.S.length cap)) := by
  obtain ⟨L, A, cap, h1, hB, _⟩ := h.body
  exact ⟨A, cap, by rw [← h1, List.length_map]; exact hB⟩
theorem Rm.lenAt (h : Rm X w mb c) : lenAt w mb = c.S.length := by
  obtain ⟨A, cap, hB⟩ := h.head
  have := hB.cell 6
  unfold Ytogedbednfbkmaa.lenAt
  rw [this]
  rfl
theorem Rm.drewN (h : Rm X w mb c) (n : Nat) : Rm X (w.drewN n) mb c := h.below ⟨rfl, rfl, rfl, Nat.le_refl _, fun _ _ => rfl⟩
theorem RmLeft.drewN (h : RmLeft X w mb c w1) (n : Nat) : RmLeft X w mb c (w1.drewN n) := h.below ⟨rfl, rfl, rfl, Nat.le_refl _, fun _ _ => rfl⟩
theorem RmLeft.fields (h : RmLeft X w mb c w1) (hS : c2.S = c.S) (hk : Kp (fun q => q = mb) w1 w') (hB : ∀ s, Blk w1 mb 57 (cellsR c s) → Blk w' mb 57 (cellsR c2 s)) : RmLeft X w mb c2 w' :=
  ⟨h.rm.fields hS hk hB, h.kp.trans hk (fun _ hq => .inl hq)⟩
theorem RmLeft.set_ (h : RmLeft X w mb c w1) (j : Nat) (u : Value) (hS : c2.S = c.S) (e : ∀ s, (cellsR c s).setIfInBounds j u = cellsR c2 s) : RmLeft X w mb c2 (w1.setCell ⟨mb, j, none⟩ u) :=
  h.fields hS ((Kp.refl (fun q => q = mb) _).setCell (p := ⟨mb, j, none⟩) (.inl rfl) _) (fun s hB => by have := hB.set_ j u; rw [e] at this; exact this)
end
theorem field3 (a b d e f : Value) (W : World) : (Instr.field 85 (.agg #[a, b, d, e, f]) 3).run Try.prog W = .ok e W := by kernel_rfl
/-- What holds while entries are thrown out. -/
def PutQ (X : Nat → Prop) (w : World) (mb : Nat) (c : Cs) (k : ByteArray) (z : Int) (lv th : Int) (T : List En) (wx : World) : Prop :=
  evict c.room z lv th T = evict c.room z c.level c.thrown (outE k c.S) ∧ RmLeft X w mb { c with level := lv, thrown := th, S := T } wx ∧ Gd c.uses T ∧ (0 ≤ lv ∧ lv ≤ 1000000 * c.uses) ∧ (0 ≤ th ∧ th + T.length ≤ c.uses) ∧ (szS T : Int) ≤ c.room

set_option maxHeartbeats 8000000 in
set_option maxRecDepth 100000 in
theorem rput_c {X : Nat → Prop} {w : World} {mb : Nat} {c : Cs} (h : Rm X w mb c) (ho : Ok c) (hs : c.uses ≤ 900) {k : ByteArray} {A : Option Addr} {n cc : Nat} {xs : List Int} (hrd : RdB w A n cc xs) (hA : ∀ p, A = some p → p.block ≠ mb) (hk : k.size ≤ 1000000) (hn : n ≤ 1000000000) (cost : Int) :
    Calls Try.prog 45 #[.pointer (some ⟨mb, 0, none⟩), .string k, .slice A n cc, .int .i64 cost] w fun e w' => e = .returned (.int .i64 (putC c k xs cost).1) ∧ RmLeft X w mb (putC c k xs cost).2 w' := by
  have hxl := hrd.len
  subst hxl
  have HRd := hid_ (And.intro hrd hA)
  have HH := hid_ h
  have HO := hid_ ho
  obtain ⟨AL, cap, hB⟩ := h.head
  have HB := hid_ hB
  have c0 : w.cell? ⟨mb, 0, none⟩ = some (.int .i64 c.room) := hB.cell 0
  clear h ho hrd hA hB
  have q1 : IntKind.i64.wrap ((k.size : Int) + (xs.length : Int)) = (k.size : Int) + (xs.length : Int) := IntWalk.i64_in _ (by omega)
  by_cases hbad : badE k cost = true
  · have hpc : putC c k xs cost = (2, c) := by unfold putC; rw [if_pos hbad]
    have hcs : k.size = 0 ∨ (¬ k.size = 0 ∧ 200 < k.size) ∨ (¬ k.size = 0 ∧ ¬ 200 < k.size ∧ cost < 0) ∨ (¬ k.size = 0 ∧ ¬ 200 < k.size ∧ ¬ cost < 0 ∧ 1000000 < cost) := by
      have := of_decide_eq_true hbad
      omega
    have HFin := hid_ (show RmLeft X w mb (putC c k xs cost).2 w by rw [hpc]; exact HH.out.here)
    have HPc := hid_ hpc
    clear hbad hpc
    rcases hcs with h0 | ⟨h0, h1⟩ | ⟨h0, h1, h2⟩ | ⟨h0, h1, h2, h3⟩
    · have he : (k.size : Int) < 1 := by omega
      go_enter Try.func45, Try.ntmps45
      go_wp2
      go_ret
      exact ⟨by rw [HPc.out]; rfl, HFin.out⟩
    · have he : ¬ (k.size : Int) < 1 := by omega
      have h1' : 200 < (k.size : Int) := by omega
      go_enter Try.func45, Try.ntmps45
      go_wp2
      go_ret
      exact ⟨by rw [HPc.out]; rfl, HFin.out⟩
    · have he : ¬ (k.size : Int) < 1 := by omega
      have h1' : ¬ 200 < (k.size : Int) := by omega
      go_enter Try.func45, Try.ntmps45
      go_wp2
      go_ret
      exact ⟨by rw [HPc.out]; rfl, HFin.out⟩
    · have he : ¬ (k.size : Int) < 1 := by omega
      have h1' : ¬ 200 < (k.size : Int) := by omega
      go_enter Try.func45, Try.ntmps45
      go_wp2
      go_ret
      exact ⟨by rw [HPc.out]; rfl, HFin.out⟩
  · have hok : ¬ k.size = 0 ∧ ¬ 200 < k.size ∧ ¬ cost < 0 ∧ ¬ 1000000 < cost := by
      have : ¬ (k.size = 0 ∨ 200 < k.size ∨ cost < 0 ∨ 1000000 < cost) := fun h => hbad (decide_eq_true h)
      omega
    obtain ⟨h0, h1, h2, h3⟩ := hok
    have he : ¬ (k.size : Int) < 1 := by omega
    have h1' : ¬ 200 < (k.size : Int) := by omega
    have HBad := hid_ hbad
    clear hbad
    by_cases hroom : c.room < (k.size : Int) + (xs.length : Int)
    · have hpc : putC c k xs cost = (5, c) := by unfold putC; rw [if_neg HBad.out, if_pos hroom]
      have HFin := hid_ (show RmLeft X w mb (putC c k xs cost).2 w by rw [hpc]; exact HH.out.here)
      have HPc := hid_ hpc
      clear hpc
      go_enter Try.func45, Try.ntmps45
      go_wp2
      go_ret
      exact ⟨by rw [HPc.out]; rfl, HFin.out⟩
    · have hrm := HO.out.room
      have hth := HO.out.thr
      have hzz := HO.out.sz
      have hS9 : c.S.length ≤ 900 := by omega
      have hpc : putC c k xs cost = (0, useE { c with level := (evict c.room (k.size + xs.length) c.level c.thrown (outE k c.S)).1, thrown := (evict c.room (k.size + xs.length) c.level c.thrown (outE k c.S)).2.1 } ⟨k, xs, cost, 0, 0⟩ (evict c.room (k.size + xs.length) c.level c.thrown (outE k c.S)).2.2) := by
        unfold putC
        rw [if_neg HBad.out, if_neg (by omega)]
      have HPc := hid_ hpc
      have HAt := hid_ (at_c HH.out k (by omega))
      clear hpc
      go_enter Try.func45, Try.ntmps45
      go_wp2_with fail
      refine HAt.out.mono ?_
      rintro e w' ⟨rfl, z, rfl, hz⟩
      have HZ := hid_ hz
      clear hz HAt
      go_upto_if 42 with fail
      go_cut [] (fun wx => RmLeft X w mb { c with S := outE k c.S } wx)
      case first =>
        rcases HZ.out with ⟨i, hi, hik, rfl⟩ | ⟨hno, rfl⟩
        · have b0 : (0 : Int) ≤ (i : Int) := by omega
          have HOu := hid_ (rout_c HH.out hi (by omega))
          have HE := hid_ (outE_erase HO.out.gd.once hi hik)
          clear hik
          go_wp2_with fail
          refine HOu.out.mono ?_
          rintro e w1 ⟨A1, c1, rfl, _, hl⟩
          rw [HE.out] at hl
          have HL := hid_ hl
          clear hl HOu
          go_wp2_with fail
          go_meet
          exact HL.out
        · have HL := hid_ (show RmLeft X w mb { c with S := outE k c.S } w by rw [outE_none (hasE_not.1 hno)]; exact HH.out.here)
          clear hno
          go_wp2_with fail
          go_meet
          exact HL.out
      case rest =>
        have hR0 := hid_ (show ∃ lv th T, PutQ X w mb c k (k.size + xs.length) lv th T wc from by
          have h1 := outE_len k c.S
          have h2 := szS_outE k c.S
          exact ⟨c.level, c.thrown, outE k c.S, rfl, hcut, HO.out.gd.out k, HO.out.lev, ⟨hth.1, by omega⟩, by omega⟩)
        have HKey := hid_ (show ∀ T : List En, (∃ lv th, evict c.room (k.size + xs.length) lv th T = evict c.room (k.size + xs.length) c.level c.thrown (outE k c.S)) → True from fun _ _ => trivial)
        clear hcut HZ c0
        go_wp2_with fail
        go_loopw [] (fun wr => ∃ lv th T, PutQ X w mb c k (k.size + xs.length) lv th T wr) (fun wr => lenAt wr mb)
        case atStart => exact hR0.out
        case round =>
          obtain ⟨lv, th, T, hR⟩ := hrel
          have HR := hid_ hR
          obtain ⟨hev, hX, hG, hlv, hth2, hsT⟩ := hR
          have HS := hid_ (rsize_c hX.rm (by show T.length ≤ 1000; omega) (by show szS T ≤ 2000000000; omega))
          have HS2 := hid_ (rsize_c (hX.drewN 1).rm (by show T.length ≤ 1000; omega) (by show szS T ≤ 2000000000; omega))
          obtain ⟨AT, ct, hBT⟩ := hX.rm.head
          have c0 : wr.cell? ⟨mb, 0, none⟩ = some (.int .i64 c.room) := hBT.cell 0
          have q2 : IntKind.i64.wrap ((szS T : Int) + ((k.size : Int) + (xs.length : Int))) = (szS T : Int) + ((k.size : Int) + (xs.length : Int)) := IntWalk.i64_in _ (by omega)
          clear hev hX hG hlv hth2 hBT
          by_cases hmore : c.room < (szS T : Int) + ((k.size : Int) + (xs.length : Int))
          · go_wp2_with fail
            go_region_held3 (fun W => W.cell? ⟨mb, 0, none⟩ = some (.int .i64 c.room))
              (first | exact c0 | (go_keep; done))
              ((go_at_call 27; (first | refine HS2.out.mono ?_ | refine HS.out.mono ?_); rintro e w4 ⟨⟨nd2, rfl⟩, rfl⟩))
            obtain ⟨hev, hX, hG, hlv, hth2, hsT⟩ := HR.out
            cases T with
            | nil => exfalso; simp [szS] at hmore; omega
            | cons x0 T' =>
              have hX4 := hX.drewN (1 + nd2)
              have hLn := hX.rm.lenAt
              have HLn := hid_ (show lenAt wr mb = (x0 :: T').length from hLn)
              have hx0 := hG.ok x0 (by simp)
              have q3 : IntKind.i64.wrap (th + 1) = th + 1 := IntWalk.i64_in _ (by omega)
              have hOu := rout_c hX4.rm (i := 0) (by simp) (by show (x0 :: T').length ≤ 1000; omega)
              simp only [List.getElem_cons_zero, List.eraseIdx_cons_zero] at hOu
              have HOu := hid_ (show Calls Try.prog 56 #[.pointer (some ⟨mb, 0, none⟩), .int .i64 0] (wr.drewN (1 + nd2)) _ from hOu)
              have HX4 := hid_ hX4
              have HNext := hid_ (show ∀ w7, RmLeft X w mb { c with level := x0.worth, thrown := th + 1, S := T' } w7 → PutQ X w mb c k (k.size + xs.length) x0.worth (th + 1) T' w7 from fun w7 h7 => by
                refine ⟨?_, h7, hG.tail, ⟨hx0.2.2.2.2.1, hx0.2.2.2.2.2.1⟩, ⟨by omega, by simp at hth2; omega⟩, by rw [szS_cons] at hsT; omega⟩
                rw [← hev]
                conv => rhs; unfold evict
                rw [if_pos (by omega)])
              clear hev hX hG hlv hth2 hsT hX4 hLn hx0 c0 HS HS2 hOu
              generalize wr.drewN (1 + nd2) = w5 at *
              go_wp2_with fail
              refine HOu.out.mono ?_
              rintro e w6 ⟨A6, c6, rfl, _, hl6⟩
              have hX6 := HX4.out.then_ hl6
              have HX6 := hid_ (show RmLeft X w mb { c with level := lv, thrown := th, S := T' } w6 from hX6)
              obtain ⟨A7, c7, hB7⟩ := HX6.out.rm.head
              have d1 : w6.cell? ⟨mb, 1, none⟩ = some (.int .i64 lv) := hB7.cell 1
              have d5 : w6.cell? ⟨mb, 5, none⟩ = some (.int .i64 th) := hB7.cell 5
              have g1 := hB7.frozen 1
              have g5 := hB7.frozen 5
              have HX7 := hid_ ((HX6.out.set_ (c2 := { c with level := x0.worth, thrown := th, S := T' }) 1 (.int .i64 x0.worth) rfl (fun s => rfl)).set_ (c2 := { c with level := x0.worth, thrown := th + 1, S := T' }) 5 (.int .i64 (th + 1)) rfl (fun s => rfl))
              clear hl6 hX6 hB7 HOu
              have hfl := field3 (.string x0.key) (.slice A6 x0.val.length c6) (.int .i64 x0.cost) (.int .i64 x0.worth) (.int .i64 x0.used) w6
              go_wp2
              go_roundw
              case rel => exact ⟨_, _, _, HNext.out _ HX7.out⟩
              case measure =>
                have e2 := HX7.out.rm.lenAt
                have e3 := HLn.out
                simp only [List.length_cons] at e3
                have e4 : ({ c with level := x0.worth, thrown := th + 1, S := T' } : Cs).S.length = T'.length := rfl
                omega
          · go_wp2_with fail
            go_region_held3 (fun W => W.cell? ⟨mb, 0, none⟩ = some (.int .i64 c.room))
              (first | exact c0 | (go_keep; done))
              ((go_at_call 27; (first | refine HS2.out.mono ?_ | refine HS.out.mono ?_); rintro e w4 ⟨⟨nd2, rfl⟩, rfl⟩))
            obtain ⟨hev, hX, hG, hlv, hth2, hsT⟩ := HR.out
            have hX4 := hX.drewN (1 + nd2)
            have hevT : evict c.room (k.size + xs.length) c.level c.thrown (outE k c.S) = (lv, th, T) := by
              rw [← hev]
              cases T with
              | nil => rfl
              | cons x0 T' => unfold evict; rw [if_neg (by omega)]
            have HFin := hid_ (show (putC c k xs cost).1 = 0 ∧ (putC c k xs cost).2 = useE { c with level := lv, thrown := th, S := T } ⟨k, xs, cost, 0, 0⟩ T by
              rw [HPc.out, hevT]
              exact ⟨rfl, rfl⟩)
            have HCp := hid_ (copyb_c (HRd.out.1.kp hX4.kp (fun p hp => HRd.out.2 p hp)) (by omega))
            have HX4 := hid_ hX4
            have HG := hid_ (And.intro hG (And.intro hlv hth2))
            have hu := HO.out.fnd
            clear hev hX hG hX4 hevT c0 HS HS2 hsT
            generalize wr.drewN (1 + nd2) = w5 at *
            go_wp2_with fail
            refine HCp.out.mono ?_
            rintro e w6 ⟨A6, c6, rfl, hown6, hb6⟩
            have hX6 := HX4.out.below hb6
            have HX6 := hid_ hX6
            have hV6 : Vl (fun q => X q ∨ w.heap.size ≤ q) w6 (.slice A6 xs.length c6) xs := (Vl.of_own hown6 rfl).mono (fun q hq _ => .inr (Nat.le_trans HX4.out.kp.size hq))
            have HUs := hid_ (ruse_c (e := ⟨k, xs, cost, 0, 0⟩) HX6.out.rm hV6 0 0 (by show T.length ≤ 900; omega) (fun y hy => (HG.out.1.ok y hy).2.2.2.2.2.2.2) (by show 0 ≤ c.uses ∧ c.uses ≤ 1000000; omega) (by show 0 ≤ lv ∧ lv ≤ 1000000000000000; omega) (by show 0 ≤ cost ∧ cost ≤ 1000000; omega))
            clear hX6 hV6 hown6 hb6 HCp
            go_wp2_with fail
            refine HUs.out.mono ?_
            rintro e w7 ⟨rfl, hl7⟩
            have HX7 := hid_ (HX6.out.then_ hl7)
            clear hl7 HUs
            go_wp2
            go_ret
            exact ⟨by rw [HFin.out.1]; rfl, by rw [HFin.out.2]; exact HX7.out⟩
end Go.Proofs.Ytogedbednfbkmaa
