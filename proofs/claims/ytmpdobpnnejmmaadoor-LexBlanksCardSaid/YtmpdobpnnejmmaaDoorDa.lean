/- LexBlanks: the walk. Conditions: those that each theorem names. -/
import Derived.Test.YtmpdobpnnejmmaaDoorBc
import Derived.Test.YtmpdobpnnejmmaaDoorGf
namespace Go.Proofs.YtmpdobpnnejmmaaDoor
open Go.RowKit Go.Maps

theorem ws_one {w : World} {b off c k : Nat} {ys : List Lx.Wd} (h : ∀ j (h : j < ys.length) i, i < 4 → w.cell? ⟨b, off + j * 4 + i, none⟩ = (cellW ys[j])[i]?) (hk : k < ys.length) : WsAt w (.slice (some ⟨b, off + k * 4, none⟩) 1 c) [ys[k]] := by
  refine ⟨_, _, rfl, (by rintro ⟨⟩), fun b' off' n' e => ?_⟩
  injection e with e
  injection e with e1 e2 e3
  subst e1 e2 e3
  refine ⟨rfl, fun j hj i hi => ?_⟩
  have hj0 : j = 0 := by simpa using hj
  subst hj0
  have := h k hk i hi
  simpa using this
theorem join_one {x : Lx.Wd} (h : Lx.Good x) : Lx.joinL [x] = Lx.shown x.kind x.text := by
  unfold Lx.joinL
  rw [Lx.parts_good (fun y hy => by rw [List.mem_singleton.1 hy]; exact h)]
  exact Lib.join_one _ _
theorem own_cap {w : World} {B : Nat} {A : Option Addr} {n c : Nat} {ws : List Lx.Wd} (h : WsOwn w B (.slice A n c) ws) : n = ws.length ∧ ws.length ≤ c := by
  rcases h.2 with ⟨hv, h0⟩ | ⟨g, cap, cur, hv, _, _, hc, _⟩
  · injection hv with h1 h2 h3
    omega
  · injection hv with h1 h2 h3
    omega
set_option maxHeartbeats 4000000 in
set_option maxRecDepth 100000 in
theorem lexBlanks_walk {w : World} (hv : Env w) {v v1 : Value} {xs : List Sd} (h : LsAt cellS 3 w v xs) (hfew : xs.length ≤ 100000000000000) (hok : ∀ x ∈ xs, x.ok) {hs : List Int} (hh : LsAt (fun z => [.int .i64 z]) 1 w v1 hs) (hfew2 : hs.length ≤ 100000000000000) : Calls Tryd.prog 7 #[v, v1] w fun e w' => e = .returned (.bool true) ∧ Below w.heap.size w w' := by
  have HV := hid_ hv
  have HI := hid_ h
  obtain ⟨Ah, ch, rfl, hH⟩ := hh
  obtain ⟨nh, hnh⟩ : ∃ n, n = hs.length := ⟨_, rfl⟩
  have HHc := hid_ (show 0 < nh → ∃ b off, Ah = some ⟨b, off, none⟩ ∧ ∀ j, j < nh → w.cell? ⟨b, off + j, none⟩ = some (.int .i64 (hs.getD j 0)) from fun h0 => by
    obtain ⟨b, off, e, h2⟩ := hH (by omega)
    refine ⟨b, off, e, fun j hj => ?_⟩
    have h3 := h2 j (by omega) 0 (by omega)
    rw [Nat.mul_one, Nat.add_zero] at h3
    rw [h3, List.getD_eq_getElem?_getD, List.getElem?_eq_getElem (show j < hs.length by omega)]
    rfl)
  rw [← hnh] at hfew2 ⊢
  clear hH hnh
  have HOk := hid_ hok
  clear hv h hok
  go_enter Tryd.func7, Tryd.ntmps7
  go_wp2_with fail
  refine (row_c HI.out hfew HOk.out).mono ?_
  rintro e w2 ⟨⟨ys, v2, rfl, hl, hg, hws⟩, hb2⟩
  have HG := hid_ hg
  have HWi := hid_ (own_ws hws)
  have HB2 := hid_ hb2
  obtain ⟨A, c, rfl⟩ := own_form hws
  have hcap := (own_cap hws).2
  clear hws hb2 hg HI
  go_wp2_with fail
  obtain ⟨W, eW⟩ : ∃ W, W = w2.alloc (.cells (Lx.padL.map fun k => Value.string (st k)).toArray 9) := ⟨_, rfl⟩
  have eW2 : w2.alloc (.cells #[.string ⟨#[32]⟩, .string ⟨#[10]⟩, .string ⟨#[32, 32, 10, 32]⟩, .string ⟨#[32, 35, 32, 39, 108, 101, 116, 10]⟩, .string ⟨#[10, 35, 10, 35, 120, 32, 35, 35, 32, 49, 97, 10]⟩, .string ⟨#[32, 35, 64, 10, 32]⟩] 9) = W := eW.symm
  have HWb := hid_ (show Below w.heap.size w W from by rw [eW]; exact HB2.out.trans (((Below.refl _ _).alloc (Nat.le_refl _) _).mono HB2.out.size))
  have HP := hid_ (show Blk W w2.heap.size 9 (Lx.padL.map fun k => Value.string (st k)).toArray from by rw [eW]; exact Blk.new _ _ _)
  have HWs := hid_ (show WsAt W (.slice A ys.length c) ys from by rw [eW]; exact HWi.out.below ((Below.refl _ _).alloc (Nat.le_refl _) _))
  rw [eW2]
  clear eW eW2 HWi
  obtain ⟨A', c', e9, hn, hA⟩ := HWs.out
  injection e9 with e91 _ e93
  subst e91 e93
  have HAc := hid_ hA
  clear hA
  go_loopw [7, 8, 9, 10] (fun v7 v8 v9 _ wr => Below W.heap.size W wr ∧ ∃ (i k : Nat) (T : List UInt8), v7 = .string (st T) ∧ v8 = .int .i64 k ∧ v9 = .int .i64 i ∧ i ≤ ys.length + 1 ∧ k = min i ys.length ∧ Lx.Pd ys i T) (fun _ _ v9 _ _ => ys.length + 2 - (intOf v9).toNat)
  case atStart => exact ⟨Below.refl _ _, 0, 0, [], rfl, rfl, rfl, by omega, by omega, Lx.Pd.start ys⟩
  case round =>
    obtain ⟨hbw, i, k, T, rfl, rfl, rfl, hi, hk, hT⟩ := hrel
    have HBw := hid_ hbw
    have HT := hid_ hT
    have htl : T.length ≤ i * 40 := by
      obtain ⟨_, _, _, _, _, _, h5⟩ := hT
      exact h5
    clear hT
    have b0 : (0 : Int) ≤ (i : Int) := by omega
    by_cases hlt : i ≤ ys.length
    · have b1 : (i : Int) ≤ (ys.length : Int) := by omega
      have hki : k = i := by omega
      clear hk
      subst hki
      have HPk := hid_ (HP.out.kp (Kp.of_below HBw.out (fun _ => False)) id)
      have key : ∃ (p : List UInt8), p ∈ Lx.padL ∧ ((nh = 0 ∧ p = [32]) ∨ (0 < nh ∧ ∃ (m j : Nat), m < nh ∧ (k : Int).tmod (nh : Int) = m ∧ j < 6 ∧ bring (hs.getD m 0) 6 = j ∧ p = Lx.padL.getD j [])) := by
        by_cases h0 : nh = 0
        · exact ⟨[32], by decide, .inl ⟨h0, rfl⟩⟩
        · have hm : k % nh < nh := Nat.mod_lt _ (by omega)
          have hj := bring_lt (hs.getD (k % nh) 0) 6 (by decide)
          exact ⟨_, Lx.pad_at (bring (hs.getD (k % nh) 0) 6) (by omega), .inr ⟨by omega, k % nh, _, hm, by rw [Int.tmod_eq_emod_of_nonneg (by omega)]; omega, by omega, rfl, rfl⟩⟩
      obtain ⟨p, hp, hcase⟩ := key
      have HPp := hid_ hp
      have hpl := Lx.pad_len hp
      have q1 : ¬ (9223372036854775807 < (st T).size + (st p).size) := by rw [st_size, st_size]; omega
      have HVw := hid_ (HWb.out.trans (HBw.out.mono HWb.out.size))
      have HWr := hid_ (HWs.out.below HBw.out)
      clear hp
      rcases hcase with ⟨h0, h1⟩ | ⟨h0, m, j, hm, ht, hj, hbr, hpj⟩
      case' inl =>
        subst h0
        have d1 : (⟨#[32]⟩ : ByteArray) = st p := by rw [h1]; rfl
        have HD1 := hid_ d1
        have q1' : ¬ (9223372036854775807 < (st T).size + 1) := by rw [st_size]; omega
        clear h1 d1 hbw hn
      case' inr =>
        obtain ⟨hb, hoff, rfl, hcx⟩ := HHc.out h0
        have hBr := bring_v wr (hs.getD m 0) 6 (by decide) (by decide)
        rw [hbr] at hBr
        have HBr := hid_ hBr
        have d0 : wr.cell? ⟨hb, hoff + m, none⟩ = some (.int .i64 (hs.getD m 0)) := below_cell HVw.out (hcx m hm)
        have d1 : wr.cell? ⟨w2.heap.size, j, none⟩ = some (.string (st p)) := by
          rw [hpj]
          exact blk_list HPk.out j _ (by rw [List.getElem?_map, List.getD_eq_getElem?_getD, List.getElem?_eq_getElem (show j < Lx.padL.length from hj)]; rfl)
        have n0 : (0 : Int) < (nh : Int) := by omega
        have n1 : (0 : Int) ≤ (m : Int) := by omega
        have n2 : (m : Int) < (nh : Int) := by omega
        have n3 : (0 : Int) ≤ (j : Int) := by omega
        have n4 : (j : Int) < 6 := by omega
        have n5 : ¬ ((nh : Int) = 0) := by omega
        have n6 : ((nh : Int) == 0) = false := by rw [beq_eq_false_iff_ne]; omega
        generalize hs.getD m 0 = z at *
        clear hbw hcx hpj hbr hn
      all_goals
        by_cases hlt2 : k < ys.length
        case' pos =>
          have b2 : (k : Int) < (ys.length : Int) := by omega
          have b3 : (k : Int) + 1 ≤ (c : Int) := by omega
          have b4 : ¬ (c = k) := by omega
          have HGk := hid_ (HG.out ys[k] (List.getElem_mem hlt2))
          have hsl := Lx.good_len HGk.out
          have q2 : ¬ (9223372036854775807 < (st T).size + (st p).size + (st (Lx.shown ys[k].kind ys[k].text)).size) := by rw [st_size, st_size, st_size]; omega
          have q2' : ¬ (9223372036854775807 < (st T).size + 1 + (st (Lx.shown ys[k].kind ys[k].text)).size) := by rw [st_size, st_size]; omega
          have HNx := hid_ (HT.out.word hlt2 HGk.out HPp.out)
          have HJn := hid_ (show ∀ c', Calls Tryd.prog 21 #[.slice (A.map fun a => ⟨a.block, a.off + k * 4, none⟩) 1 c'] wr fun e w' => e = .returned (.string (st (Lx.shown ys[k].kind ys[k].text))) ∧ Below wr.heap.size wr w' from fun c' => by
            obtain ⟨A2, c2, e2, hn2, hA2⟩ := HWr.out
            injection e2 with e21 _ _
            subst e21
            cases A with
            | none => have := hn2 rfl; subst this; simp at hlt2
            | some ad =>
              obtain ⟨b, off, n⟩ := ad
              obtain ⟨rfl, hcc⟩ := hA2 b off n rfl
              have h1 := lex_Join (ws_one (c := c') hcc hlt2) (by simp) (by intro x hx; rw [List.mem_singleton.1 hx]; exact Nat.le_trans HGk.out.few (by decide))
              rw [join_one HGk.out] at h1
              exact h1)
          have HAs := hid_ (show ∃ b off, A = some ⟨b, off, none⟩ from by
            obtain ⟨A2, c2, e2, hn2, hA2⟩ := HWr.out
            injection e2 with e21 _ _
            subst e21
            cases A with
            | none => have := hn2 rfl; subst this; simp at hlt2
            | some ad =>
              obtain ⟨b, off, n⟩ := ad
              obtain ⟨rfl, _⟩ := hA2 b off n rfl
              exact ⟨b, off, rfl⟩)
          obtain ⟨ab, aoff, hAe⟩ := HAs.out
          subst hAe
        case' neg =>
          have b2 : ¬ (k : Int) < (ys.length : Int) := by omega
          have HKe := hid_ (show k = ys.length by omega)
          have HNx := hid_ (show Lx.Pd ys (k + 1) (T ++ p) from by
            have hke := HKe.out
            subst hke
            exact HT.out.last HPp.out)
      · go_wp2_with fail
        refine HBr.out.mono ?_
        rintro e w5 ⟨rfl, rfl⟩
        go_wp2_with fail
        go_roundw
        case rel => exact ⟨HBw.out, k + 1, k, T ++ p, by rw [st_append], rfl, by go_num, by omega, by have := HKe.out; omega, HNx.out⟩
        case measure => (simp [intOf] <;> omega)
      · go_wp2_with fail
        refine HBr.out.mono ?_
        rintro e w5 ⟨rfl, rfl⟩
        go_wp2_with fail
        refine (HJn.out _).mono ?_
        rintro e w6 ⟨rfl, hb6⟩
        have HB6 := hid_ (HBw.out.trans (hb6.mono HBw.out.size))
        clear hb6
        go_wp2_with fail
        go_roundw
        case rel => exact ⟨HB6.out, k + 1, k + 1, T ++ p ++ Lx.shown ys[k].kind ys[k].text, by rw [st_append, st_append], by go_num, by go_num, by omega, by omega, HNx.out⟩
        case measure => (simp [intOf] <;> omega)
      · go_wp2_with fail
        go_roundw
        case rel => exact ⟨HBw.out, k + 1, k, T ++ p, by rw [HD1.out, st_append], rfl, by go_num, by omega, by have := HKe.out; omega, HNx.out⟩
        case measure => (simp [intOf] <;> omega)
      · go_wp2_with fail
        refine (HJn.out _).mono ?_
        rintro e w6 ⟨rfl, hb6⟩
        have HB6 := hid_ (HBw.out.trans (hb6.mono HBw.out.size))
        clear hb6
        go_wp2_with fail
        go_roundw
        case rel => exact ⟨HB6.out, k + 1, k + 1, T ++ p ++ Lx.shown ys[k].kind ys[k].text, by rw [HD1.out, st_append, st_append], by go_num, by go_num, by omega, by omega, HNx.out⟩
        case measure => (simp [intOf] <;> omega)
    · have b1 : ¬ (i : Int) ≤ (ys.length : Int) := by omega
      have hki : k = ys.length := by omega
      clear hk
      subst hki
      have hie : i = ys.length + 1 := by omega
      subst hie
      obtain ⟨ws, hw, hk2⟩ := pd_words HT.out HG.out hl
      have hq : ¬ (9223372036854775807 < (st T).size + 1) := by rw [st_size]; omega
      have hap : st T ++ (⟨#[35]⟩ : ByteArray) = st (T ++ [35]) := st_append T [35]
      have hss : (st (T ++ [35])).size ≤ 1000000000 := by rw [st_size]; simp only [List.length_append, List.length_cons, List.length_nil]; omega
      have HK := hid_ hk2
      have HW := hid_ hw
      clear hw hk2 htl
      generalize hS : st (T ++ [35]) = S at *
      clear hS
      clear hbw
      go_wp2_with fail
      refine (lex_WordsU (HV.out.below (HWb.out.trans (HBw.out.mono HWb.out.size))) S hss).mono ?_
      rw [HW.out]
      rintro e w4 ⟨v4, hws4, rfl, hb4⟩
      have HB4 := hid_ ((HWb.out.trans (HBw.out.mono HWb.out.size)).trans (hb4.mono (HWb.out.trans (HBw.out.mono HWb.out.size)).size))
      have HWi4 := hid_ ((HWs.out.below HBw.out).below hb4)
      obtain ⟨Ao, co, rfl, hno, hAo⟩ := hws4
      have HBz := hid_ (HBw.out.trans (hb4.mono HBw.out.size))
      have hlw : ws.length = ys.length := by simpa using congrArg List.length HK.out
      have hall : (ws ++ [endW S]).length = ys.length + 1 := by simp [hlw]
      clear hb4
      dsimp only at hno hAo ⊢
      rw [hall]
      have HX := hid_ (show ∀ k (hk : k < ys.length), ∃ b off, Ao = some ⟨b, off, none⟩ ∧ w4.cell? ⟨b, off + k * 4, none⟩ = some (.int .i64 ys[k].kind) ∧ w4.cell? ⟨b, off + k * 4 + 1, none⟩ = some (.string (st ys[k].text)) ∧ w4.cell? ⟨b, off + k * 4 + 2, none⟩ = some (.int .i64 ys[k].num) from fun k hk => by
        cases Ao with
        | none => have := hno rfl; simp at this
        | some ad =>
          obtain ⟨b, off, n'⟩ := ad
          obtain ⟨rfl, hcx⟩ := hAo b off n' rfl
          obtain ⟨hk2, k1, k2, k3⟩ := key_at HK.out hk
          have e : (ws ++ [endW S])[k]'(by omega) = ws[k] := List.getElem_append_left hk2
          have a0 := hcx k (by omega) 0 (by omega)
          have a1 := hcx k (by omega) 1 (by omega)
          have a2 := hcx k (by omega) 2 (by omega)
          rw [e] at a0 a1 a2
          rw [← k1, ← k2, ← k3]
          exact ⟨b, off, rfl, a0, a1, a2⟩)
      clear hno hAo
      go_wp2_with fail
      obtain ⟨wo, hwo⟩ : ∃ wo, wo = wr := ⟨_, rfl⟩
      subst hwo
      go_loopw [14] (fun v wr => Below w4.heap.size w4 wr ∧ ∃ k : Nat, v = .int .i64 k ∧ k ≤ ys.length) (fun v _ => ys.length - (intOf v).toNat)
      case atStart => exact ⟨Below.refl _ _, 0, rfl, by omega⟩
      case round =>
        obtain ⟨hbw, k, rfl, hkl⟩ := hrel
        have HBx := hid_ hbw
        by_cases hlt2 : k < ys.length
        · have b0 : (0 : Int) ≤ (k : Int) := by omega
          have b2 : (k : Int) < (ys.length : Int) := by omega
          have b3 : (k : Int) < (ys.length : Int) + 1 := by omega
          obtain ⟨b, off, rfl, a0, a1, a2⟩ := HX.out k hlt2
          cases A with
          | none => have := hn rfl; subst this; simp at hlt2
          | some bd =>
            obtain ⟨bb, boff, bn⟩ := bd
            obtain ⟨rfl, hcy⟩ := HAc.out bb boff bn rfl
            have HBy := hid_ (HB4.out)
            have x0 := below_cell hbw a0
            have x1 := below_cell hbw a1
            have x2 := below_cell hbw a2
            have hWW : Below W.heap.size W wr := HBz.out.trans (hbw.mono HBz.out.size)
            have y0 : wr.cell? ⟨bb, boff + k * 4, none⟩ = some (.int .i64 ys[k].kind) := below_cell hWW (hcy k hlt2 0 (by omega))
            have y1 : wr.cell? ⟨bb, boff + k * 4 + 1, none⟩ = some (.string (st ys[k].text)) := below_cell hWW (hcy k hlt2 1 (by omega))
            have y2 : wr.cell? ⟨bb, boff + k * 4 + 2, none⟩ = some (.int .i64 ys[k].num) := below_cell hWW (hcy k hlt2 2 (by omega))
            clear hbw a0 a1 a2 hcy hWW
            go_wp2_with fail
            go_region
            go_wp2_with fail
            go_roundw
            case rel => exact ⟨HBx.out.trans ((Below.refl _ _).drew.mono HBx.out.size), k + 1, by go_num, by omega⟩
            case measure => (simp [intOf] <;> omega)
        · have b2 : ¬ (k : Int) < (ys.length : Int) := by omega
          clear hbw
          go_wp2_with fail
          refine (law_works (HV.out.below (HB4.out.trans (HBx.out.mono HB4.out.size)))).mono ?_
          rintro e w5 ⟨rfl, hb5⟩
          have HB5 := hid_ ((HB4.out.trans (HBx.out.mono HB4.out.size)).trans (hb5.mono (HB4.out.trans (HBx.out.mono HB4.out.size)).size))
          clear hb5
          go_wp2_with fail
          go_ret
          exact ⟨rfl, HB5.out⟩
end Go.Proofs.YtmpdobpnnejmmaaDoor
