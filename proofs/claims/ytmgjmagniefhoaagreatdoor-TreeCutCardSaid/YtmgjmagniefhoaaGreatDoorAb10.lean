/- TreeCut, walked. Conditions: those that each theorem names. -/
import Derived.Test.YtmgjmagniefhoaaGreatDoorAb09
import Derived.Test.YtmgjmagniefhoaaGreatDoorAb08
import Derived.Test.YtmgjmagniefhoaaGreatDoorAa24
namespace Go.Proofs.YtmgjmagniefhoaaGreatDoor
open Go.RowKit Go.Maps
section
variable {w w' : World}
theorem words_own {s : ByteArray} {ws : List Lx.Wd} {e : Ending} (hw : wordsR s = (ws ++ [endW s], 0, 0)) (h : WordsP s w e w') : ∃ A c, e = .returned (.tuple #[.slice A (ws ++ [endW s]).length c, .int .i64 0, .int .i64 0]) ∧ WsAt w' (.slice A (ws ++ [endW s]).length c) (ws ++ [endW s]) ∧ (ws ++ [endW s]).length ≤ c ∧ c ≤ 9223372036854775807 ∧ Below w.heap.size w w' := by
  obtain ⟨hb, h⟩ := h
  unfold wordsR at hw
  rcases h with ⟨h1, rfl⟩ | ⟨h1, a, h2, rfl⟩ | ⟨h1, ws', A, c, h2, rfl, h3⟩
  · rw [if_pos h1] at hw
    have := congrArg (fun x => x.1.length) hw
    simp at this
  · rw [if_neg (by omega), h2] at hw
    have := congrArg (fun x => x.1.length) hw
    simp at this
  · rw [if_neg (by omega), h2] at hw
    have e : ws' = ws := List.append_cancel_right (congrArg Prod.fst hw)
    subst e
    have h4 := own_ws h3
    have el : (ws' ++ [endW s]).length = ws'.length + 1 := by rw [List.length_append]; rfl
    have h3 : w'.ownsRow w.heap.size 88 4 (.slice A (ws' ++ [endW s]).length c) (ws' ++ [endW s]).length (flatW (ws' ++ [endW s])) := by
      rw [el]
      have := h3
      unfold WsOwn at this
      rw [el] at this
      exact this
    obtain ⟨_, g2, g3, _⟩ := own_parts h3
    rw [el] at g2 ⊢
    exact ⟨A, c, rfl, h4, g2, g3, hb⟩
theorem WsAt.take {A : Option Addr} {L : List Lx.Wd} {c : Nat} (h : WsAt w (.slice A L.length c) L) {n : Nat} (hn : n ≤ L.length) : WsAt w (.slice A n c) (L.take n) := by
  obtain ⟨A', c', e, h0, hA⟩ := h
  injection e with e1 _ e2
  subst e1 e2
  refine ⟨A, c, by rw [List.length_take, Nat.min_eq_left hn], fun h => by rw [h0 h, List.take_nil], fun b off q h => ?_⟩
  obtain ⟨h1, h2⟩ := hA b off q h
  refine ⟨h1, fun j hj k hk => ?_⟩
  have hj' : j < L.length := by rw [List.length_take] at hj; omega
  rw [h2 j hj' k hk, List.getElem_take]
set_option maxHeartbeats 4000000 in
set_option maxRecDepth 100000 in
theorem cut_c (hv : Env w) {sv : Value} {N : List Int} (hr : RowAt w sv N.length (ints N)) (hcp : ∀ A n c, sv = .slice A n c → n ≤ c ∧ c ≤ 100000000000000) (hlow : ∀ b off q n c, sv = .slice (some ⟨b, off, q⟩) n c → b < w.heap.size) (many : Int) :
    Calls Tryz.prog 7 #[.agg #[sv], .int .i64 many] w fun e w' => e = .returned (.bool true) ∧ Below w.heap.size w w' := by
  obtain ⟨A, c, rfl⟩ := hr.form
  have HV := hid_ hv
  have HR := hid_ hr
  have HCp := hid_ hcp
  have HLow := hid_ hlow
  have HB0 := hid_ (below_alloc w (.cells #[.slice A N.length c] 24))
  have HBk := hid_ (Blk.new w 24 #[.slice A N.length c])
  clear hv hr hcp hlow
  go_enter Tryz.func7, Tryz.ntmps7
  go_upto_region 1 with fail
  generalize w.alloc (.cells #[.slice A N.length c] 24) = W0 at *
  have c0 : W0.cell? ⟨w.heap.size, 0, none⟩ = some (.slice A N.length c) := HBk.out.cell 0
  have HMd := hid_ (show Calls Tryz.prog 11 #[.agg #[.slice A N.length c], .int .i64 0] W0 (fun e w' => e = .returned (.string (st (madeT 0 N))) ∧ Below W0.heap.size W0 w') from
    made_c (w := W0) (HR.out.below HB0.out) HCp.out (fun b off q n c h => Nat.lt_of_lt_of_le (HLow.out b off q n c h) HB0.out.size) 0 (by omega))
  have EV := hid_ (fun (W' : World) (h : Below W0.heap.size W0 W') => (HV.out.below HB0.out).below h)
  obtain ⟨ws, g1, g2, g3, g4, g5, g6, g7⟩ := cut_parse N
  have G1 := hid_ g1
  have hsz : (st (madeT 0 N)).size ≤ 7500 := by rw [st_size]; exact madeT_few 0 (by omega) N
  have HSz := hid_ hsz
  clear HR HCp HLow HV HBk hsz g1
  generalize st (madeT 0 N) = T at *
  have HWd := hid_ (fun (W1 : World) (h1 : Below W0.heap.size W0 W1) => (lex_Words (EV.out W1 h1) T (by have := HSz.out; omega)).mono fun e w' h => words_own G1.out h)
  generalize ws ++ [endW T] = L at *
  have HPw := hid_ (fun (W1 : World) (h1 : Below W0.heap.size W0 W1) => (show Calls Tryz.prog 10 #[.string (st (Lx.joinL L))] W1 (fun e w' => ∃ v, ModK W1.heap.size w' v (madeM N) ∧ e = .returned (.tuple #[v, .int .i64 0, .int .i64 0]) ∧ Below W1.heap.size W1 w') from by
    have h := parse_cK (EV.out W1 h1) (st (Lx.joinL L)) (by rw [st_size]; omega)
    rw [g6] at h
    exact h))
  generalize madeM N = m at *
  have hbr := bring_lt many L.length (by omega)
  have HBr := hid_ (fun W => bring_v W many L.length (by omega) (by omega))
  obtain ⟨n, hn⟩ : ∃ n, n = bring many L.length := ⟨_, rfl⟩
  rw [← hn] at hbr HBr
  have hnl : n < L.length := by omega
  obtain ⟨k1, k2⟩ := g7 n hnl
  have K2 := hid_ k2
  have hnn : (0 : Int) ≤ (n : Int) := by omega
  have ht : (((n : Nat) : Int)).toNat = n := by omega
  clear g6 g7 k2 hn G1 HSz
  have G4 := hid_ g4
  clear g4
  go_wp2_with fail
  refine HMd.out.mono ?_
  rintro e w2 ⟨rfl, hb2⟩
  have HB2 := hid_ hb2
  clear hb2 c0 HMd
  go_wp2_with fail
  refine (HWd.out _ HB2.out).mono ?_
  rintro e w3 ⟨Aw, cw, rfl, hws, hcl, hcm, hb3⟩
  have HWs := hid_ hws
  have HB3 := hid_ (HB2.out.trans (hb3.mono HB2.out.size))
  have q2 : ((L.length : Int) < 2) = False := by simp; omega
  have q3 : decide ((L.length : Int) < 2) = false := decide_eq_false (by omega)
  clear hws hb3
  go_wp2_with fail
  refine (HBr.out _).mono ?_
  rintro e w4 ⟨rfl, rfl⟩
  have HJt := hid_ (lex_JoinW (HWs.out.take (n := n) (by omega)) (by rw [List.length_take]; omega) (fun x hx => G4.out x (List.mem_of_mem_take hx)))
  go_wp2_with fail
  refine HJt.out.mono ?_
  rintro e w5 ⟨rfl, hb5⟩
  have HWs5 := hid_ (HWs.out.below hb5)
  have HB5 := hid_ (HB3.out.trans (hb5.mono HB3.out.size))
  have hzt : (st (Lx.joinL (L.take n))).size = (Lx.joinL (L.take n)).length := st_size _
  have HZt := hid_ hzt
  clear hb5 hzt hcl hcm q2 q3 HJt
  generalize Lx.joinL (L.take n) = J at *
  have HPt := hid_ (parse_cK (EV.out _ HB5.out) (st J) (by rw [st_size]; omega))
  have HLo := hid_ (parse_order (st J)).1
  generalize parseR (st J) = P at *
  obtain ⟨m1, at1, e1⟩ := P
  have HLo := hid_ (show Tr.Lo m1.nodes (Tr.roots m1) from HLo.out)
  have HPt := hid_ (show Calls Tryz.prog 10 #[.string (st J)] w5 (fun e w' => ∃ v, ModK w5.heap.size w' v m1 ∧ e = .returned (.tuple #[v, .int .i64 at1, .int .i64 e1]) ∧ Below w5.heap.size w5 w') from HPt.out)
  go_wp2_with fail
  refine HPt.out.mono ?_
  rintro e w6 ⟨vb, hmb, rfl, hb6⟩
  have HMb := hid_ (hmb _ (Kp.refl _ _))
  obtain ⟨Ai, ci, At, ct, Af, cf, An, cn, hva, _⟩ := (hmb _ (Kp.refl _ _)).open2
  subst hva
  have HB6 := hid_ (HB5.out.trans (hb6.mono HB5.out.size))
  have HWs6 := hid_ (HWs5.out.below hb6)
  have HBa := hid_ (Blk.new w6 31 #[.string (st m1.name), .slice Ai m1.imports.length ci, .slice At m1.types.length ct, .slice Af m1.fns.length cf, .slice An m1.nodes.length cn])
  have HA6 := hid_ (below_alloc w6 (.cells #[.string (st m1.name), .slice Ai m1.imports.length ci, .slice At m1.types.length ct, .slice Af m1.fns.length cf, .slice An m1.nodes.length cn] 31))
  clear hmb hb6
  go_upto_region 6 with fail
  generalize w6.alloc (.cells #[.string (st m1.name), .slice Ai m1.imports.length ci, .slice At m1.types.length ct, .slice Af m1.fns.length cf, .slice An m1.nodes.length cn] 31) = W7 at *
  have HB7 := hid_ (HB6.out.trans (HA6.out.mono HB6.out.size))
  have HMb7 := hid_ (HMb.out.below HA6.out)
  have HWs7 := hid_ (HWs6.out.below HA6.out)
  rcases K2.out with ⟨m2, hk, hf1, hf2⟩ | hk
  · injection hk with hk1 hk
    injection hk with hk2 hk3
    subst hk1 hk2 hk3
    have HJw := hid_ (lex_JoinW HWs7.out (by omega) G4.out)
    have HF1 := hid_ hf1
    have HF2 := hid_ hf2
    clear hf1 hf2
    go_wp2_with fail
    refine HJw.out.mono ?_
    rintro e w8 ⟨rfl, hb8⟩
    have HB8 := hid_ (HB7.out.trans (hb8.mono HB7.out.size))
    have HBa8 := hid_ (HBa.out.kp (Kp.of_below hb8 fun _ => False) id)
    have HMb8 := hid_ (HMb7.out.below hb8)
    clear hb8
    go_wp2_with fail
    refine (HPw.out _ HB8.out).mono ?_
    rintro e w9 ⟨vw, hmw, rfl, hb9⟩
    obtain ⟨Bi, di, Bt, dt, Bf, df, Bn, dn, hvw, _⟩ := (hmw _ (Kp.refl _ _)).open2
    subst hvw
    have HB9 := hid_ (HB8.out.trans (hb9.mono HB8.out.size))
    have HBa9 := hid_ (HBa8.out.kp (Kp.of_below hb9 fun _ => False) id)
    have HMb9 := hid_ (HMb8.out.below hb9)
    have HBw := hid_ (Blk.new w9 31 #[.string (st m.name), .slice Bi m.imports.length di, .slice Bt m.types.length dt, .slice Bf m.fns.length df, .slice Bn m.nodes.length dn])
    have HA9 := hid_ (below_alloc w9 (.cells #[.string (st m.name), .slice Bi m.imports.length di, .slice Bt m.types.length dt, .slice Bf m.fns.length df, .slice Bn m.nodes.length dn] 31))
    have HBa10 := hid_ (HBa9.out.alloc (.cells #[.string (st m.name), .slice Bi m.imports.length di, .slice Bt m.types.length dt, .slice Bf m.fns.length df, .slice Bn m.nodes.length dn] 31))
    clear hmw hb9
    go_upto_region 8 with fail
    generalize w9.alloc (.cells #[.string (st m.name), .slice Bi m.imports.length di, .slice Bt m.types.length dt, .slice Bf m.fns.length df, .slice Bn m.nodes.length dn] 31) = W10 at *
    have HB10 := hid_ (HB9.out.trans (HA9.out.mono HB9.out.size))
    have HOr := hid_ (ordered_c (HMb9.out.below HA9.out) HLo.out)
    have a0 : W10.cell? ⟨w6.heap.size, 0, none⟩ = some (.string (st m1.name)) := HBa10.out.cell 0
    have a1 : W10.cell? ⟨w6.heap.size, 1, none⟩ = some (.slice Ai m1.imports.length ci) := HBa10.out.cell 1
    have a2 : W10.cell? ⟨w6.heap.size, 2, none⟩ = some (.slice At m1.types.length ct) := HBa10.out.cell 2
    have a3 : W10.cell? ⟨w6.heap.size, 3, none⟩ = some (.slice Af m1.fns.length cf) := HBa10.out.cell 3
    have a4 : W10.cell? ⟨w6.heap.size, 4, none⟩ = some (.slice An m1.nodes.length cn) := HBa10.out.cell 4
    have b3 : W10.cell? ⟨w9.heap.size, 3, none⟩ = some (.slice Bf m.fns.length df) := HBw.out.cell 3
    have b4 : W10.cell? ⟨w9.heap.size, 4, none⟩ = some (.slice Bn m.nodes.length dn) := HBw.out.cell 4
    have q1 : m1.fns.length ≤ m.fns.length := HF1.out
    have q2 : m1.nodes.length ≤ m.nodes.length := HF2.out
    have q3 : decide (m1.fns.length ≤ m.fns.length) = true := decide_eq_true q1
    have q4 : decide (m1.nodes.length ≤ m.nodes.length) = true := decide_eq_true q2
    clear q1 q2
    go_wp2_with fail
    refine HOr.out.mono ?_
    rintro e w11 ⟨rfl, hb11⟩
    have HB11 := hid_ (HB10.out.trans (hb11.mono HB10.out.size))
    clear hb11 a0 a1 a2 a3 a4 b3 b4 q3 q4
    go_wp2_with fail
    refine (works_c (EV.out _ HB11.out)).mono ?_
    rintro e w12 ⟨rfl, hb12⟩
    have HB12 := hid_ (HB0.out.trans ((HB11.out.trans (hb12.mono HB11.out.size)).mono HB0.out.size))
    clear hb12
    go_wp2_with fail
    go_ret
    exact ⟨rfl, HB12.out⟩
  · injection hk with hk1 hk
    injection hk with hk2 hk3
    subst hk1 hk2 hk3
    have q1 : (((st J).size : Nat) : Int) = (J.length : Int) := by rw [HZt.out]
    go_wp2_with fail
    refine (works_c (EV.out _ HB7.out)).mono ?_
    rintro e w12 ⟨rfl, hb12⟩
    have HB12 := hid_ (HB0.out.trans ((HB7.out.trans (hb12.mono HB7.out.size)).mono HB0.out.size))
    clear hb12
    go_wp2_with fail
    go_ret
    exact ⟨rfl, HB12.out⟩
end
end Go.Proofs.YtmgjmagniefhoaaGreatDoor
