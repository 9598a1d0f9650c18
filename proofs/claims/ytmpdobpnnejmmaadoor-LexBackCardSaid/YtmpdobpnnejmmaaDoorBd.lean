/- LexBack: the walk. Conditions: those that each theorem names. -/
import Derived.Test.YtmpdobpnnejmmaaDoorBc
import Derived.Test.YtmpdobpnnejmmaaDoorGe
namespace Go.Proofs.YtmpdobpnnejmmaaDoor
open Go.RowKit Go.Maps

theorem good_few {ys : List Lx.Wd} (hg : ∀ y ∈ ys, Lx.Good y) : ∀ y ∈ ys, y.text.length ≤ 1000 := fun y hy => Nat.le_trans (hg y hy).few (by decide)
set_option maxHeartbeats 4000000 in
set_option maxRecDepth 100000 in
theorem lexBack_walk {w : World} (hv : Env w) {v : Value} {xs : List Sd} (h : LsAt cellS 3 w v xs) (hfew : xs.length ≤ 100000000000000) (hok : ∀ x ∈ xs, x.ok) : Calls Tryd.prog 6 #[v] w fun e w' => e = .returned (.bool true) ∧ Below w.heap.size w w' := by
  have HV := hid_ hv
  have HI := hid_ h
  have HOk := hid_ hok
  clear hv h hok
  go_enter Tryd.func6, Tryd.ntmps6
  go_wp2_with fail
  refine (law_works HV.out).mono ?_
  rintro e w1 ⟨rfl, hb1⟩
  have HB1 := hid_ hb1
  have HI1 := hid_ (LsAt.below (cell := cellS) (k := 3) (fun _ => rfl) HI.out hb1)
  clear hb1 HI
  go_wp2_with fail
  refine (row_c HI1.out hfew HOk.out).mono ?_
  rintro e w2 ⟨⟨ys, v2, rfl, hl, hg, hws⟩, hb2⟩
  have HG := hid_ hg
  have HWi := hid_ (own_ws hws)
  have HB2 := hid_ (HB1.out.trans (hb2.mono HB1.out.size))
  clear hws hb2 hg HI1
  go_wp2_with fail
  refine (lex_Join HWi.out (by omega) (good_few HG.out)).mono ?_
  rintro e w3 ⟨rfl, hb3⟩
  have HWi3 := hid_ (HWi.out.below hb3)
  have HB3 := hid_ (HB2.out.trans (hb3.mono HB2.out.size))
  clear hb3 HWi
  have hsz := Lx.back_size HG.out hl
  obtain ⟨ws, hw, hk⟩ := back_words HG.out hl
  have hJ := back_again (st (Lx.joinL ys)) hk
  have HJ := hid_ hJ
  have HK := hid_ hk
  have HW := hid_ hw
  have hss : (st (Lx.joinL ys)).size ≤ 2200 := by rw [st_size]; exact hsz
  clear hJ hk hw hsz
  generalize hS : st (Lx.joinL ys) = S at *
  have HSe := hid_ hS
  clear hS
  go_wp2_with fail
  refine (lex_WordsU (HV.out.below HB3.out) S (by omega)).mono ?_
  rw [HW.out]
  rintro e w4 ⟨v4, hws4, rfl, hb4⟩
  have HB4 := hid_ (HB3.out.trans (hb4.mono HB3.out.size))
  have HWi4 := hid_ (HWi3.out.below hb4)
  have HWo := hid_ hws4
  obtain ⟨A, c, rfl, hn, hA⟩ := hws4
  obtain ⟨B, d, rfl, hm, hB⟩ := HWi4.out
  have hlw : ws.length = ys.length := by simpa using congrArg List.length HK.out
  clear hb4 HWi3
  dsimp only at hn hA ⊢
  have hall : (ws ++ [endW S]).length = ys.length + 1 := by simp [hlw]
  rw [hall]
  cases A with
  | none => have := hn rfl; simp at this
  | some ad =>
    obtain ⟨b, off, n⟩ := ad
    obtain ⟨rfl, hcx⟩ := hA b off n rfl
    have hee : (ws ++ [endW S])[ys.length]'(by omega) = endW S := by
      rw [List.getElem_append_right (by omega)]
      simp
    have z0 : w4.cell? ⟨b, off + ys.length * 4, none⟩ = some (.int .i64 7) := by
      have := hcx ys.length (by omega) 0 (by omega)
      rw [hee] at this
      exact this
    have z3 : w4.cell? ⟨b, off + ys.length * 4 + 3, none⟩ = some (.int .i64 S.size) := by
      have := hcx ys.length (by omega) 3 (by omega)
      rw [hee] at this
      exact this
    have HX := hid_ (show ∀ k (hk : k < ys.length), w4.cell? ⟨b, off + k * 4, none⟩ = some (.int .i64 ys[k].kind) ∧ w4.cell? ⟨b, off + k * 4 + 1, none⟩ = some (.string (st ys[k].text)) ∧ w4.cell? ⟨b, off + k * 4 + 2, none⟩ = some (.int .i64 ys[k].num) from fun k hk => by
      obtain ⟨hk2, k1, k2, k3⟩ := key_at HK.out hk
      have e : (ws ++ [endW S])[k]'(by omega) = ws[k] := List.getElem_append_left hk2
      have a0 := hcx k (by omega) 0 (by omega)
      have a1 := hcx k (by omega) 1 (by omega)
      have a2 := hcx k (by omega) 2 (by omega)
      rw [e] at a0 a1 a2
      rw [← k1, ← k2, ← k3]
      exact ⟨a0, a1, a2⟩)
    clear hn hA hcx hee
    have n0 : (0 : Int) ≤ (ys.length : Int) := by omega
    have n1 : (ys.length : Int) < (ys.length : Int) + 1 := by omega
    go_wp2_with fail
    go_loopw [8] (fun v wr => Below w4.heap.size w4 wr ∧ ∃ k : Nat, v = .int .i64 k ∧ k ≤ ys.length) (fun v _ => ys.length - (intOf v).toNat)
    case atStart => exact ⟨Below.refl _ _, 0, rfl, by omega⟩
    case round =>
      obtain ⟨hbw, k, rfl, hkl⟩ := hrel
      have HBw := hid_ hbw
      by_cases hlt : k < ys.length
      · have b0 : (0 : Int) ≤ (k : Int) := by omega
        have b1 : (k : Int) < (ys.length : Int) := by omega
        have b2 : (k : Int) < (ys.length : Int) + 1 := by omega
        cases B with
        | none => have := hm rfl; subst this; simp at hlt
        | some bd =>
          obtain ⟨bb, boff, bn⟩ := bd
          obtain ⟨rfl, hcy⟩ := hB bb boff bn rfl
          obtain ⟨a0, a1, a2⟩ := HX.out k hlt
          have x0 := below_cell hbw a0
          have x1 := below_cell hbw a1
          have x2 := below_cell hbw a2
          have y0 : wr.cell? ⟨bb, boff + k * 4, none⟩ = some (.int .i64 ys[k].kind) := below_cell hbw (hcy k hlt 0 (by omega))
          have y1 : wr.cell? ⟨bb, boff + k * 4 + 1, none⟩ = some (.string (st ys[k].text)) := below_cell hbw (hcy k hlt 1 (by omega))
          have y2 : wr.cell? ⟨bb, boff + k * 4 + 2, none⟩ = some (.int .i64 ys[k].num) := below_cell hbw (hcy k hlt 2 (by omega))
          clear hbw a0 a1 a2 z0 z3 hm hB hcy
          go_wp2_with fail
          go_region
          go_wp2_with fail
          go_roundw
          case rel => exact ⟨HBw.out.trans ((Below.refl _ _).drew.mono HBw.out.size), k + 1, by go_num, by omega⟩
          case measure => (simp [intOf] <;> omega)
      · have b1 : ¬ (k : Int) < (ys.length : Int) := by omega
        have htx : ∀ x ∈ ws ++ [endW S], x.text.length ≤ 1000 := by
          intro x hx
          rcases List.mem_append.1 hx with hx | hx
          · have h1 : Lx.key x ∈ ys.map Lx.key := by rw [← HK.out]; exact List.mem_map_of_mem hx
            obtain ⟨y, hy, he⟩ := List.mem_map.1 h1
            have e2 : y.text = x.text := congrArg (fun q : Int × List UInt8 × Int => q.2.1) he
            rw [← e2]
            exact good_few HG.out y hy
          · rw [List.mem_singleton.1 hx]
            exact Nat.zero_le _
        have HT := hid_ htx
        have HWr := hid_ (HWo.out.below hbw)
        have HA := hid_ hall
        clear htx hbw z0 z3 hm hB hall HWo
        have hJn : Calls Tryd.prog 21 #[.slice (some ⟨b, off, none⟩) (ys.length + 1) c] wr fun e w' => e = .returned (.string S) ∧ Below wr.heap.size wr w' := by
          have h1 := lex_Join HWr.out (by rw [HA.out]; omega) HT.out
          rw [HJ.out, HSe.out, HA.out] at h1
          exact h1
        have HJn := hid_ hJn
        clear hJn
        go_wp2_with fail
        refine HJn.out.mono ?_
        rintro e w5 ⟨rfl, hb5⟩
        have HB5 := hid_ ((HB4.out.trans (HBw.out.mono HB4.out.size)).trans (hb5.mono (HB4.out.trans (HBw.out.mono HB4.out.size)).size))
        clear hb5
        go_wp2_with fail
        go_ret
        exact ⟨rfl, HB5.out⟩
end Go.Proofs.YtmpdobpnnejmmaaDoor
