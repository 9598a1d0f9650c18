/- What stands in these texts of the proof: Yi Za Zb Zc. Conditions: those that each theorem names. -/
import Derived.Test.YtmgjmagniefhoaaGreatDoorAa19
/- Parse, walked. Conditions: those that each theorem names. -/
namespace Go.Proofs.YtmgjmagniefhoaaGreatDoor
open Go.RowKit Go.Maps
section
variable {w w' : World}
theorem lex_WordsO {w : World} (hv : Env w) (s : ByteArray) (hs : s.size ≤ 1000000000) : Calls Tryz.prog 25 #[.string s] w fun e w' => ∃ v, (WsAt w' v (wordsR s).1 ∧ ∀ q, v.ownBlock = some q → w.heap.size ≤ q) ∧ e = .returned (.tuple #[v, .int .i64 (wordsR s).2.1, .int .i64 (wordsR s).2.2]) ∧ Below w.heap.size w w' := by
  refine (lex_Words hv s hs).mono fun e w' h => ?_
  obtain ⟨hb, h⟩ := h
  rcases h with ⟨h1, rfl⟩ | ⟨h1, a, h2, rfl⟩ | ⟨h1, ws, A, c, h2, rfl, h3⟩
  · have e : wordsR s = ([], 0, 5) := if_pos h1
    rw [e]
    exact ⟨_, ⟨WsAt.nil _, fun q hq => by cases hq⟩, rfl, hb⟩
  · have e : wordsR s = ([], (a : Int), 20) := by
      unfold wordsR
      rw [if_neg (by omega), h2]
    rw [e]
    exact ⟨_, ⟨WsAt.nil _, fun q hq => by cases hq⟩, rfl, hb⟩
  · have e : wordsR s = (ws ++ [endW s], 0, 0) := by
      unfold wordsR
      rw [if_neg (by omega), h2]
    rw [e]
    exact ⟨_, ⟨own_ws h3, fun q hq => own_base h3 hq⟩, rfl, hb⟩
theorem WsAt.far {S : Nat → Prop} {v : Value} {L : List Lx.Wd} (h : WsAt w v L) (hk : Kp S w w') (hS : ∀ q, v.ownBlock = some q → ¬ S q) : WsAt w' v L := by
  obtain ⟨A, c, rfl, hn, hA⟩ := h
  refine ⟨A, c, rfl, hn, fun b off n e => ?_⟩
  obtain ⟨rfl, h2⟩ := hA b off n e
  refine ⟨rfl, fun j hj k hk4 => ?_⟩
  have h3 := h2 j hj k hk4
  have h4 : (cellW L[j])[k]? = some ((cellW L[j])[k]'(by show k < 4; exact hk4)) := List.getElem?_eq_getElem _
  rw [h4] at h3 ⊢
  exact hk.cell h3 (hS b (by rw [e]; rfl))
/-- The results are laid. -/
theorem fin_set {w W : World} {g : Nat} {u0 u1 u2 u3 u4 x y c0 c1 c2 c3 c4 : Value} {a e : Value} (hm : Blk W g 31 #[u0, u1, u2, u3, u4]) (ha : Blk W (g + 1) 3 #[x]) (he : Blk W (g + 1 + 1) 32 #[y]) (hb : Below g w W) {WF : World}
    (hF : WF = ((((((W.setCell ⟨g, 0, none⟩ c0).setCell ⟨g, 1, none⟩ c1).setCell ⟨g, 2, none⟩ c2).setCell ⟨g, 3, none⟩ c3).setCell ⟨g, 4, none⟩ c4).setCell ⟨g + 1, 0, none⟩ a).setCell ⟨g + 1 + 1, 0, none⟩ e) :
    Blk WF g 31 #[c0, c1, c2, c3, c4] ∧ Blk WF (g + 1) 3 #[a] ∧ Blk WF (g + 1 + 1) 32 #[e] ∧ Below g w WF ∧ Kp (fun q => q = g ∨ q = g + 1 ∨ q = g + 1 + 1) W WF := by
  subst hF
  refine ⟨?_, ?_, ?_, ?_, ?_⟩
  · exact ((((((hm.set_ 0 c0).set_ 1 c1).set_ 2 c2).set_ 3 c3).set_ 4 c4).far (p := ⟨g + 1, 0, none⟩) (by show g ≠ g + 1; omega) a).far (p := ⟨g + 1 + 1, 0, none⟩) (by show g ≠ g + 1 + 1; omega) e
  · exact ((((((ha.far (p := ⟨g, 0, none⟩) (by show g + 1 ≠ g; omega) c0).far (p := ⟨g, 1, none⟩) (by show g + 1 ≠ g; omega) c1).far (p := ⟨g, 2, none⟩) (by show g + 1 ≠ g; omega) c2).far (p := ⟨g, 3, none⟩) (by show g + 1 ≠ g; omega) c3).far (p := ⟨g, 4, none⟩) (by show g + 1 ≠ g; omega) c4).set_ 0 a).far (p := ⟨g + 1 + 1, 0, none⟩) (by show g + 1 ≠ g + 1 + 1; omega) e
  · exact ((((((he.far (p := ⟨g, 0, none⟩) (by show g + 1 + 1 ≠ g; omega) c0).far (p := ⟨g, 1, none⟩) (by show g + 1 + 1 ≠ g; omega) c1).far (p := ⟨g, 2, none⟩) (by show g + 1 + 1 ≠ g; omega) c2).far (p := ⟨g, 3, none⟩) (by show g + 1 + 1 ≠ g; omega) c3).far (p := ⟨g, 4, none⟩) (by show g + 1 + 1 ≠ g; omega) c4).far (p := ⟨g + 1, 0, none⟩) (by show g + 1 + 1 ≠ g + 1; omega) a).set_ 0 e
  · exact ((((((hb.setCell (p := ⟨g, 0, none⟩) (Nat.le_refl _) c0).setCell (p := ⟨g, 1, none⟩) (Nat.le_refl _) c1).setCell (p := ⟨g, 2, none⟩) (Nat.le_refl _) c2).setCell (p := ⟨g, 3, none⟩) (Nat.le_refl _) c3).setCell (p := ⟨g, 4, none⟩) (Nat.le_refl _) c4).setCell (p := ⟨g + 1, 0, none⟩) (by show g ≤ g + 1; omega) a).setCell (p := ⟨g + 1 + 1, 0, none⟩) (by show g ≤ g + 1 + 1; omega) e
  · exact (((((((Kp.refl _ W).setCell (p := ⟨g, 0, none⟩) (.inl (.inl rfl)) c0).setCell (p := ⟨g, 1, none⟩) (.inl (.inl rfl)) c1).setCell (p := ⟨g, 2, none⟩) (.inl (.inl rfl)) c2).setCell (p := ⟨g, 3, none⟩) (.inl (.inl rfl)) c3).setCell (p := ⟨g, 4, none⟩) (.inl (.inl rfl)) c4).setCell (p := ⟨g + 1, 0, none⟩) (.inl (.inr (.inl rfl))) a).setCell (p := ⟨g + 1 + 1, 0, none⟩) (.inl (.inr (.inr rfl))) e
/-- A module that lies in new memory alone. -/
def ModK (base : Nat) (w : World) (v : Value) (m : Tr.Md) : Prop := ∀ w', Kp (fun q => q < base) w w' → ModAt w' v m
set_option maxHeartbeats 8000000 in
set_option maxRecDepth 100000 in
theorem parse_cK (hv : Env w) (s : ByteArray) (hs : s.size ≤ 1000000000) : Calls Tryz.prog 10 #[.string s] w fun e w' => ∃ v, ModK w.heap.size w' v (parseR s).1 ∧ e = .returned (.tuple #[v, .int .i64 (parseR s).2.1, .int .i64 (parseR s).2.2]) ∧ Below w.heap.size w w' := by
  have HV := hid_ hv
  clear hv
  have hmf : ∀ (fn : Fn) (first cap : Array Value) (w : World), (Instr.makeFunc fn first cap).run Tryz.prog w = .ok (.func fn first cap) w := fun _ _ _ _ => rfl
  go_enter_defers Tryz.func10, Tryz.ntmps10
  go_wp2_with fail
  have HV3 := hid_ (HV.out.below (((below_alloc w (.cells zeroM 31)).alloc (by simp) (.cells #[.int .i64 0] 3)).alloc (by simp; omega) (.cells #[.int .i64 0] 32)))
  have hB3 := ((below_alloc w (.cells zeroM 31)).alloc (by simp) (.cells #[.int .i64 0] 3)).alloc (by simp; omega) (.cells #[.int .i64 0] 32)
  have hm := ((Blk.new w 31 zeroM).alloc (.cells #[.int .i64 0] 3)).alloc (.cells #[.int .i64 0] 32)
  have ha := (Blk.new (w.alloc (.cells zeroM 31)) 3 #[.int .i64 0]).alloc (.cells #[.int .i64 0] 32)
  have he := Blk.new ((w.alloc (.cells zeroM 31)).alloc (.cells #[.int .i64 0] 3)) 32 #[.int .i64 0]
  simp only [alloc_sz] at ha he
  have HB3 := hid_ hB3
  have HM := hid_ hm
  have HA := hid_ ha
  have HE := hid_ he
  have HWd := hid_ (lex_WordsO HV3.out s hs)
  clear hB3 hm ha he
  unfold zeroM at HV3 HB3 HM HA HE HWd
  generalize ((w.alloc (Obj.cells #[Value.string { data := #[] }, Value.slice none 0 0, Value.slice none 0 0, Value.slice none 0 0, Value.slice none 0 0] 31)).alloc (Obj.cells #[Value.int IntKind.i64 0] 3)).alloc (Obj.cells #[Value.int IntKind.i64 0] 32) = W3 at *
  have hg2 := HE.out.lt
  have HLt := hid_ hg2
  clear hg2
  have HPr := hid_ (show parseR s = if (wordsR s).2.2 ≠ 0 then (Tr.Md.none, (wordsR s).2.1, (wordsR s).2.2) else match Tr.module_ (wordsR s).1 with
    | .error er => (Tr.Md.none, er.1, er.2)
    | .ok m => (m, 0, 0) from rfl)
  have HOk := hid_ (fun h => wordsR_ok (s := s) h)
  obtain ⟨L, at_, en, hU⟩ : ∃ L at_ en, wordsR s = (L, at_, en) := ⟨_, _, _, rfl⟩
  rw [hU] at HPr HWd HOk
  clear hU
  refine HWd.out.mono ?_
  rintro e w4 ⟨v, ⟨hws, hwo⟩, rfl, hb4⟩
  have HWs := hid_ hws
  have HWo := hid_ hwo
  have HB4 := hid_ hb4
  have HM4 := hid_ (HM.out.kp (Kp.of_below hb4 fun _ => False) id)
  have HA4 := hid_ (HA.out.kp (Kp.of_below hb4 fun _ => False) id)
  have HE4 := hid_ (HE.out.kp (Kp.of_below hb4 fun _ => False) id)
  clear hws hwo hb4 HM HA HE HWd
  have a0 : w4.cell? ⟨w.heap.size + 1, 0, none⟩ = some (.int .i64 0) := HA4.out.cell 0
  have a1 : w4.frozen? ⟨w.heap.size + 1, 0, none⟩ = false := HA4.out.frozen 0
  have b0 : ∀ u, (w4.setCell ⟨w.heap.size + 1, 0, none⟩ u).cell? ⟨w.heap.size + 1 + 1, 0, none⟩ = some (.int .i64 0) := fun u => (HE4.out.far (p := ⟨w.heap.size + 1, 0, none⟩) (by show w.heap.size + 1 + 1 ≠ w.heap.size + 1; omega) u).cell 0
  have b1 : ∀ u, (w4.setCell ⟨w.heap.size + 1, 0, none⟩ u).frozen? ⟨w.heap.size + 1 + 1, 0, none⟩ = false := fun u => (HE4.out.far (p := ⟨w.heap.size + 1, 0, none⟩) (by show w.heap.size + 1 + 1 ≠ w.heap.size + 1; omega) u).frozen 0
  go_upto_region 2 with fail
  have HM5 := hid_ ((HM4.out.far (p := ⟨w.heap.size + 1, 0, none⟩) (by show w.heap.size ≠ w.heap.size + 1; omega) (.int .i64 at_)).far (p := ⟨w.heap.size + 1 + 1, 0, none⟩) (by show w.heap.size ≠ w.heap.size + 1 + 1; omega) (.int .i64 en))
  have HA5 := hid_ ((HA4.out.set_ 0 (.int .i64 at_)).far (p := ⟨w.heap.size + 1 + 1, 0, none⟩) (by show w.heap.size + 1 ≠ w.heap.size + 1 + 1; omega) (.int .i64 en))
  have HE5 := hid_ ((HE4.out.far (p := ⟨w.heap.size + 1, 0, none⟩) (by show w.heap.size + 1 + 1 ≠ w.heap.size + 1; omega) (.int .i64 at_)).set_ 0 (.int .i64 en))
  have k5 : Kp (fun q => q = w.heap.size + 1 ∨ q = w.heap.size + 1 + 1) w4 ((w4.setCell ⟨w.heap.size + 1, 0, none⟩ (.int .i64 at_)).setCell ⟨w.heap.size + 1 + 1, 0, none⟩ (.int .i64 en)) := ((Kp.refl _ w4).setCell (p := ⟨w.heap.size + 1, 0, none⟩) (.inl (.inl rfl)) _).setCell (p := ⟨w.heap.size + 1 + 1, 0, none⟩) (.inl (.inr rfl)) _
  have HW5 := hid_ (HWs.out.far k5 (fun q hq hS => by have := HWo.out q hq; have := HLt.out; omega))
  have HB5 := hid_ (((HB3.out.trans (HB4.out.mono (by have := HLt.out; omega))).setCell (p := ⟨w.heap.size + 1, 0, none⟩) (by show w.heap.size ≤ w.heap.size + 1; omega) (.int .i64 at_)).setCell (p := ⟨w.heap.size + 1 + 1, 0, none⟩) (by show w.heap.size ≤ w.heap.size + 1 + 1; omega) (.int .i64 en))
  clear k5 a0 a1 b0 b1
  generalize (w4.setCell ⟨w.heap.size + 1, 0, none⟩ (.int .i64 at_)).setCell ⟨w.heap.size + 1 + 1, 0, none⟩ (.int .i64 en) = w5 at HM5 HA5 HE5 HW5 HB5 ⊢
  have a0 : w5.cell? ⟨w.heap.size + 1, 0, none⟩ = some (.int .i64 at_) := HA5.out.cell 0
  have a1 : w5.frozen? ⟨w.heap.size + 1, 0, none⟩ = false := HA5.out.frozen 0
  have b0 : w5.cell? ⟨w.heap.size + 1 + 1, 0, none⟩ = some (.int .i64 en) := HE5.out.cell 0
  have b1 : w5.frozen? ⟨w.heap.size + 1 + 1, 0, none⟩ = false := HE5.out.frozen 0
  by_cases h0 : en = 0
  · have q0 : (en != 0) = false := by simp [h0]
    have HR := hid_ (HPr.out.trans (if_neg (fun h => h h0)))
    obtain ⟨hs2, ws, _, hL, hfew, hok⟩ := HOk.out h0
    injection hL with hL1 hL2
    injection hL2 with hL2 hL3
    subst hL1 hL2 hL3
    have hlen : (ws ++ [endW s]).length ≤ 70000 := by rw [List.length_append]; show ws.length + 1 ≤ 70000; omega
    have HMd := hid_ (Rd.made HW5.out (by simp) (ends_of (fun x hx => (hok x hx).1) rfl) hlen (txt_of (n := 70000) (fun x hx => by
      rcases List.mem_append.1 hx with hx | hx
      · have := (hok x hx).2; omega
      · rw [List.mem_singleton.1 hx]; exact Nat.zero_le _)))
    obtain ⟨Aw, cw, hvw, _⟩ := id HW5.out
    subst hvw
    clear h0 HPr HOk hs2 hfew hok hlen
    generalize ws ++ [endW s] = L at *
    have HMc := hid_ (module_c HMd.out.1 HMd.out.2)
    have HB6 := hid_ (below_alloc w5 (.cells #[.slice Aw L.length cw, .int .i64 0, .string ⟨#[]⟩, .slice none 0 0, .slice none 0 0, .slice none 0 0, .slice none 0 0] 65))
    have HM6 := hid_ (HM5.out.alloc (.cells #[.slice Aw L.length cw, .int .i64 0, .string ⟨#[]⟩, .slice none 0 0, .slice none 0 0, .slice none 0 0, .slice none 0 0] 65))
    have HA6 := hid_ (HA5.out.alloc (.cells #[.slice Aw L.length cw, .int .i64 0, .string ⟨#[]⟩, .slice none 0 0, .slice none 0 0, .slice none 0 0, .slice none 0 0] 65))
    have HE6 := hid_ (HE5.out.alloc (.cells #[.slice Aw L.length cw, .int .i64 0, .string ⟨#[]⟩, .slice none 0 0, .slice none 0 0, .slice none 0 0, .slice none 0 0] 65))
    have HLt5 := hid_ HE5.out.lt
    unfold rv at HMc
    go_wp2_with fail
    refine HMc.out.mono ?_
    intro e w8 hE
    rcases hE.cases with ⟨x, k, ns, c, hA, rfl, hB, hR, hnm, hM⟩ | ⟨er, hA, rfl, hB⟩
    · obtain ⟨lv, nm, iv, tv, fv⟩ := c
      obtain ⟨nm0, is, ts, fs⟩ := x
      have hnm : nm = .string (st nm0) := hnm
      subst hnm
      have hB8 := HB6.out.trans hB
      have HB8 := hid_ hB8
      have hm8 := HM5.out.kp (Kp.of_below hB8 fun _ => False) id
      have ha8 := HA5.out.kp (Kp.of_below hB8 fun _ => False) id
      have he8 := HE5.out.kp (Kp.of_below hB8 fun _ => False) id
      obtain ⟨nv, hb, xs, hxs, hown, hnd⟩ := hR.blk
      obtain ⟨iR, tR, fx, fx1, fR, fx2⟩ := hM
      obtain ⟨Ai, ci, rfl⟩ := own_form (show w8.ownsRow w5.heap.size 9 1 iv is.length (strs is) from iR.own)
      obtain ⟨At, ct, rfl⟩ := own_form (show w8.ownsRow w5.heap.size 59 2 tv ts.length (flatV ts) from tR.own)
      obtain ⟨Af, cf, rfl⟩ := own_form (show w8.ownsRow w5.heap.size 54 5 fv fs.length (flatF fx) from fR.own)
      obtain ⟨An, cn, rfl⟩ := own_form hown
      have r2 : w8.cell? ⟨w5.heap.size, 2, none⟩ = some (.string (st nm0)) := hb.cell 2
      have r3 : w8.cell? ⟨w5.heap.size, 3, none⟩ = some (.slice Ai is.length ci) := hb.cell 3
      have r4 : w8.cell? ⟨w5.heap.size, 4, none⟩ = some (.slice At ts.length ct) := hb.cell 4
      have r5 : w8.cell? ⟨w5.heap.size, 5, none⟩ = some (.slice Af fs.length cf) := hb.cell 5
      have r6 : w8.cell? ⟨w5.heap.size, 6, none⟩ = some (.slice An ns.length cn) := hb.cell 6
      have m0 : w8.cell? ⟨w.heap.size, 0, none⟩ = some (.string ⟨#[]⟩) := hm8.cell 0
      have m1 : w8.cell? ⟨w.heap.size, 1, none⟩ = some (.slice none 0 0) := hm8.cell 1
      have m2 : w8.cell? ⟨w.heap.size, 2, none⟩ = some (.slice none 0 0) := hm8.cell 2
      have m3 : w8.cell? ⟨w.heap.size, 3, none⟩ = some (.slice none 0 0) := hm8.cell 3
      have m4 : w8.cell? ⟨w.heap.size, 4, none⟩ = some (.slice none 0 0) := hm8.cell 4
      have k0 := hm8.frozen 0
      have k1 := hm8.frozen 1
      have k2 := hm8.frozen 2
      have k3 := hm8.frozen 3
      have k4 := hm8.frozen 4
      have a0' : w8.cell? ⟨w.heap.size + 1, 0, none⟩ = some (.int .i64 0) := ha8.cell 0
      have a1' : w8.frozen? ⟨w.heap.size + 1, 0, none⟩ = false := ha8.frozen 0
      have b0' : w8.cell? ⟨w.heap.size + 1 + 1, 0, none⟩ = some (.int .i64 0) := he8.cell 0
      have b1' : w8.frozen? ⟨w.heap.size + 1 + 1, 0, none⟩ = false := he8.frozen 0
      have hR2 := HR.out
      rw [module_is, hA] at hR2
      have HR2 := hid_ (show parseR s = (⟨nm0, is, ts, fs, ns⟩, 0, 0) from hR2)
      obtain ⟨f1, f2, f3, f4, f5⟩ := fin_set (c0 := .string (st nm0)) (c1 := .slice Ai is.length ci) (c2 := .slice At ts.length ct) (c3 := .slice Af fs.length cf) (c4 := .slice An ns.length cn) (a := .int .i64 0) (e := .int .i64 0) hm8 ha8 he8 (HB5.out.trans (hB8.mono (by have := HLt5.out; omega))) rfl
      have HF1 := hid_ f1
      have HF2 := hid_ f2
      have HF3 := hid_ f3
      have HF4 := hid_ f4
      have hS : ∀ {base : Nat} {e : TypeId} {sz n : Nat} {v : Value} {ys : List Value}, w5.heap.size ≤ base → w8.ownsRow base e sz v n ys → ∀ w2, Kp (fun q => q < w.heap.size) (((((((w8.setCell ⟨w.heap.size, 0, none⟩ (.string (st nm0))).setCell ⟨w.heap.size, 1, none⟩ (.slice Ai is.length ci)).setCell ⟨w.heap.size, 2, none⟩ (.slice At ts.length ct)).setCell ⟨w.heap.size, 3, none⟩ (.slice Af fs.length cf)).setCell ⟨w.heap.size, 4, none⟩ (.slice An ns.length cn)).setCell ⟨w.heap.size + 1, 0, none⟩ (.int .i64 0)).setCell ⟨w.heap.size + 1 + 1, 0, none⟩ (.int .i64 0)) w2 → RowAt w2 v n ys := fun hbase h w2 h2 =>
        RowAt.of (own_kp (own_kp h f5 (fun q hq hS => by have := own_base h hq; have := HLt5.out; omega)) h2 (fun q hq hS => by have := own_base h hq; have := HLt5.out; have hS : q < w.heap.size := hS; omega))
      have hSm : MdS ⟨nm0, is, ts, fs, ns⟩ := by
        refine ⟨own_max iR.own, own_max tR.own, own_max fR.own, own_max hown, fun x hx => ?_, fun x hx => ?_⟩
        · have hx : x ∈ fs := hx
          rw [← show fx.map (·.1) = fs from fx1] at hx
          obtain ⟨y, hy, rfl⟩ := List.mem_map.1 hx
          exact ⟨own_max (fx2 y hy).1.own, own_max (fx2 y hy).2.own⟩
        · have hx : x ∈ ns := hx
          rw [← hxs] at hx
          obtain ⟨y, hy, rfl⟩ := List.mem_map.1 hx
          exact ⟨own_max (hnd y hy).1, own_max (hnd y hy).2⟩
      have HMod := hid_ (show ModK w.heap.size _ (.agg #[.string (st nm0), .slice Ai is.length ci, .slice At ts.length ct, .slice Af fs.length cf, .slice An ns.length cn]) ⟨nm0, is, ts, fs, ns⟩ from fun w2 h2 => ⟨_, _, _, _, hSm, rfl, hS (Nat.le_refl _) iR.own w2 h2, hS (Nat.le_refl _) tR.own w2 h2, ⟨fx, fx1, hS (Nat.le_refl _) fR.own w2 h2, fun x hx => ⟨hS (Nat.le_refl _) (fx2 x hx).1.own w2 h2, hS (Nat.le_refl _) (fx2 x hx).2.own w2 h2⟩⟩, xs, hxs, hS (Nat.le_refl _) hown w2 h2, fun x hx => ⟨hS (Nat.le_refl _) (hnd x hx).1 w2 h2, hS (Nat.le_refl _) (hnd x hx).2 w2 h2⟩⟩)
      clear hE hA hB hR hB8 hm8 ha8 he8 hb hxs hown hnd iR tR fx1 fR fx2 hR2 f1 f2 f3 f4 f5 hS hSm
      go_wp2_with fail
      refine leaves_cons (f := 30) (args := #[.pointer (some ⟨w.heap.size, 0, none⟩), .pointer (some ⟨w.heap.size + 1, 0, none⟩), .pointer (some ⟨w.heap.size + 1 + 1, 0, none⟩)]) (by simp) (by simp [go_sem]) ?_
      refine (catch_idle w.heap.size _).mono ?_
      rintro e u' w'' ⟨rfl, rfl, rfl⟩
      have y0 := HF1.out.cell 0
      have y1 := HF1.out.cell 1
      have y2 := HF1.out.cell 2
      have y3 := HF1.out.cell 3
      have y4 := HF1.out.cell 4
      have y5 := HF2.out.cell 0
      have y6 := HF3.out.cell 0
      refine ⟨.tuple #[.agg #[.string (st nm0), .slice Ai is.length ci, .slice At ts.length ct, .slice Af fs.length cf, .slice An ns.length cn], .int .i64 0, .int .i64 0], ?_, ?_⟩
      · simp [results, Tryz.results10, go_sem, y0, y1, y2, y3, y4, y5, y6]
      · rw [HR2.out]
        exact ⟨_, HMod.out, rfl, HF4.out⟩
    · have hB8 := HB6.out.trans hB
      have hm8 := HM5.out.kp (Kp.of_below hB8 fun _ => False) id
      have ha8 := HA5.out.kp (Kp.of_below hB8 fun _ => False) id
      have he8 := HE5.out.kp (Kp.of_below hB8 fun _ => False) id
      have HB8 := hid_ (HB5.out.trans (hB8.mono (by have := HLt5.out; omega)))
      have hR2 := HR.out
      rw [module_is, hA] at hR2
      have HR2 := hid_ (show parseR s = (Tr.Md.none, er.1, er.2) from hR2)
      have HCa := hid_ (catch_err w.heap.size er w8 _ _ _ hm8 rfl ha8 he8)
      clear hE hA hB hB8 hm8 ha8 he8 hR2
      go_wp2_with fail
      refine leaves_cons (f := 30) (args := #[.pointer (some ⟨w.heap.size, 0, none⟩), .pointer (some ⟨w.heap.size + 1, 0, none⟩), .pointer (some ⟨w.heap.size + 1 + 1, 0, none⟩)]) (by simp) (by simp [go_sem]) ?_
      refine HCa.out.mono ?_
      rintro e u' w'' ⟨rfl, ⟨p, rfl, hp⟩, hb9, f1, f2, f3⟩
      have y0 := f1.cell 0
      have y1 := f1.cell 1
      have y2 := f1.cell 2
      have y3 := f1.cell 3
      have y4 := f1.cell 4
      have y5 := f2.cell 0
      have y6 : w''.cell? ⟨w.heap.size + 1 + 1, 0, none⟩ = _ := f3.cell 0
      unfold zeroM at y0 y1 y2 y3 y4
      obtain ⟨pv, pr, pg⟩ := p
      have hp : pr = true := hp
      subst hp
      show Leaves _ _ _ _ [] (settle _) _
      refine ⟨.tuple #[.agg zeroM, .int .i64 er.1, .int .i64 er.2], ?_, ?_⟩
      · simp [results, Tryz.results10, go_sem, y0, y1, y2, y3, y4, y5, y6, zeroM]
      · rw [HR2.out]
        exact ⟨_, fun w2 _ => ModAt.none w2, rfl, HB8.out.trans hb9⟩
  · have q0 : (en != 0) = true := by simp [h0]
    have HR := hid_ (HPr.out.trans (if_pos h0))
    have m0 : w5.cell? ⟨w.heap.size, 0, none⟩ = some (.string ⟨#[]⟩) := HM5.out.cell 0
    have m1 : w5.cell? ⟨w.heap.size, 1, none⟩ = some (.slice none 0 0) := HM5.out.cell 1
    have m2 : w5.cell? ⟨w.heap.size, 2, none⟩ = some (.slice none 0 0) := HM5.out.cell 2
    have m3 : w5.cell? ⟨w.heap.size, 3, none⟩ = some (.slice none 0 0) := HM5.out.cell 3
    have m4 : w5.cell? ⟨w.heap.size, 4, none⟩ = some (.slice none 0 0) := HM5.out.cell 4
    have k0 := HM5.out.frozen 0
    have k1 := HM5.out.frozen 1
    have k2 := HM5.out.frozen 2
    have k3 := HM5.out.frozen 3
    have k4 := HM5.out.frozen 4
    clear h0 HPr HOk
    go_upto_region 3 with fail
    go_region
    all_goals
      go_wp2_with fail
    obtain ⟨f1, f2, f3, f4, _⟩ := fin_set (c0 := .string ⟨#[]⟩) (c1 := .slice none 0 0) (c2 := .slice none 0 0) (c3 := .slice none 0 0) (c4 := .slice none 0 0) (a := .int .i64 at_) (e := .int .i64 en) HM5.out HA5.out HE5.out HB5.out rfl
    have y0 := f1.drew.cell 0
    have y1 := f1.drew.cell 1
    have y2 := f1.drew.cell 2
    have y3 := f1.drew.cell 3
    have y4 := f1.drew.cell 4
    have y5 := f2.drew.cell 0
    have y6 := f3.drew.cell 0
    refine ⟨.tuple #[.agg zeroM, .int .i64 at_, .int .i64 en], ?_, ?_⟩
    · simp [results, Tryz.results10, go_sem, y0, y1, y2, y3, y4, y5, y6, zeroM]
    · rw [HR.out]
      exact ⟨_, fun w2 _ => ModAt.none w2, rfl, f4.drew⟩
theorem parse_c (hv : Env w) (s : ByteArray) (hs : s.size ≤ 1000000000) : Calls Tryz.prog 10 #[.string s] w fun e w' => ∃ v, ModAt w' v (parseR s).1 ∧ e = .returned (.tuple #[v, .int .i64 (parseR s).2.1, .int .i64 (parseR s).2.2]) ∧ Below w.heap.size w w' :=
  (parse_cK hv s hs).mono fun _ w' ⟨v, h1, h2, h3⟩ => ⟨v, h1 w' (Kp.refl _ _), h2, h3⟩
end
end Go.Proofs.YtmgjmagniefhoaaGreatDoor

/- The five texts of works, plainly. No program is walked here. -/
namespace Go.Proofs.YtmgjmagniefhoaaGreatDoor
open Go.RowKit Go.Maps
set_option maxRecDepth 100000 in
theorem parse_w1 : parseR ⟨#[109, 111, 100, 117, 108, 101, 32, 109, 32, 102, 110, 32, 102, 40, 120, 58, 32, 105, 110, 116, 41, 58, 32, 105, 110, 116, 32, 61, 32, 120, 32, 43, 32, 49, 32, 43, 32, 50]⟩ = (⟨[109], [], [], [⟨[102], [], [⟨[120], 0⟩], 1, 6⟩], [⟨4, 0, [], [], [], []⟩, ⟨4, 0, [], [], [], []⟩, ⟨16, 0, [], [120], [], []⟩, ⟨11, 1, [], [], [], []⟩, ⟨23, 0, [], [43], [], [2, 3]⟩, ⟨11, 2, [], [], [], []⟩, ⟨23, 0, [], [43], [], [4, 5]⟩]⟩, 0, 0) := by kernel_rfl
set_option maxRecDepth 100000 in
theorem parse_w2 : parseR ⟨#[109, 111, 100, 117, 108, 101, 32, 109, 32, 116, 121, 112, 101, 32, 84, 32, 61, 32, 110, 117, 108, 108, 32, 124, 32, 123, 97, 58, 32, 84, 125]⟩ = (⟨[109], [], [⟨[84], 3⟩], [], [⟨2, 0, [], [], [], []⟩, ⟨6, 0, [], [84], [], []⟩, ⟨7, 0, [], [], [[97]], [1]⟩, ⟨8, 0, [], [], [], [0, 2]⟩]⟩, 0, 0) := by kernel_rfl
set_option maxRecDepth 100000 in
theorem parse_w3 : parseR ⟨#[109, 111, 100, 117, 108, 101, 32, 109, 32, 102, 110, 32, 102, 40, 120, 58, 32, 105, 110, 116, 41, 58, 32, 105, 110, 116, 32, 61, 32, 49, 32, 105, 115, 32, 105, 110, 116]⟩ = (Tr.Md.none, 31, 30) := by kernel_rfl
set_option maxRecDepth 100000 in
theorem parse_w4 : parseR ⟨#[109, 111, 100, 117, 108, 101, 32, 109, 32, 102, 110, 32, 102, 40, 120, 58, 32, 105, 110, 116, 44, 32, 120, 58, 32, 105, 110, 116, 41, 58, 32, 105, 110, 116, 32, 61, 32, 49]⟩ = (Tr.Md.none, 22, 30) := by kernel_rfl
set_option maxRecDepth 100000 in
theorem parse_w5 : parseR ⟨#[109, 111, 100, 117, 108, 101]⟩ = (Tr.Md.none, 6, 30) := by kernel_rfl
end Go.Proofs.YtmgjmagniefhoaaGreatDoor

/- The laws' small functions: kinds, EqInts. Conditions: those that each theorem names. -/
namespace Go.Proofs.YtmgjmagniefhoaaGreatDoor
open Go.RowKit Go.Maps
section
variable {w w' : World}
theorem RowAt.get {v : Value} {n : Nat} {xs : List Value} (h : RowAt w v n xs) (hn : 0 < n) : ∃ b off c, v = .slice (some ⟨b, off, none⟩) n c ∧ ∀ j u, xs[j]? = some u → w.cell? ⟨b, off + j, none⟩ = some u := by
  obtain ⟨A, c, e, h0, h2⟩ := h
  cases A with
  | none => have := h0 rfl; omega
  | some a =>
    obtain ⟨b, off, q⟩ := a
    obtain ⟨rfl, h3⟩ := h2 b off q rfl
    exact ⟨b, off, c, e, h3⟩
theorem RowAt.form {v : Value} {n : Nat} {xs : List Value} (h : RowAt w v n xs) : ∃ A c, v = .slice A n c := by
  obtain ⟨A, c, e, _⟩ := h
  exact ⟨A, c, e⟩
theorem ints_at {l : List Int} {j : Nat} (h : j < l.length) : (ints l)[j]? = some (.int .i64 l[j]) := by
  unfold ints
  rw [List.getElem?_map, List.getElem?_eq_getElem h]
  rfl
set_option maxHeartbeats 4000000 in
set_option maxRecDepth 100000 in
theorem eqints_c {va vb : Value} {a b : List Int} (ha : RowAt w va a.length (ints a)) (hb : RowAt w vb b.length (ints b)) (hla : a.length ≤ 1000000000) : Calls Tryz.prog 28 #[va, vb] w fun e w' => e = .returned (.bool (decide (a = b))) ∧ Below w.heap.size w w' := by
  obtain ⟨A1, c1, rfl⟩ := ha.form
  obtain ⟨A2, c2, rfl⟩ := hb.form
  have HA := hid_ ha
  have HB := hid_ hb
  clear ha hb
  by_cases hl : a.length = b.length
  · rw [← hl] at HB ⊢
    have HL := hid_ hl
    clear hl
    go_enter Tryz.func28, Tryz.ntmps28
    go_wp2_with fail
    go_loopg [5] (a.length + 1) (fun g v wr => ∃ i : Nat, v = .int .i64 i ∧ i ≤ a.length ∧ (∀ j, j < i → a.getD j 0 = b.getD j 0) ∧ Below w.heap.size w wr ∧ a.length - i + 1 ≤ g)
    case atStart => exact ⟨0, rfl, by omega, fun j h => by omega, Below.refl _ _, by omega⟩
    case round =>
      obtain ⟨i, rfl, hi, hall, hb, hg⟩ := hrel
      have HAll := hid_ hall
      have HBl := hid_ hb
      clear hall hb
      by_cases hlt : i < a.length
      · have b0 : (0 : Int) ≤ (i : Int) := by omega
        have b1 : (i : Int) < (a.length : Int) := by omega
        have hltb : i < b.length := by have := HL.out; omega
        obtain ⟨x1, o1, d1, hx1, hc1⟩ := (HA.out.below HBl.out).get (by omega)
        obtain ⟨x2, o2, d2, hx2, hc2⟩ := (HB.out.below HBl.out).get (by omega)
        injection hx1 with hx1 _ hy1
        injection hx2 with hx2 _ hy2
        have hp1 := hc1 i _ (ints_at hlt)
        have hp2 := hc2 i _ (ints_at hltb)
        have e1 := getD_at hlt 0
        have e2 := getD_at hltb 0
        clear hc1 hc2
        subst hx1 hx2 hy1 hy2
        by_cases he : a[i] = b[i]
        · have q0 : (a[i] != b[i]) = false := by simp [he]
          have HE := hid_ (show ∀ j, j < i + 1 → a.getD j 0 = b.getD j 0 from fun j hj => by
            by_cases hji : j = i
            · subst hji; rw [e1, e2, he]
            · exact HAll.out j (by omega))
          clear he e1 e2
          go_wp2_with fail
          go_quiet (fail)
          go_wp2_with fail
          go_roundg (gk - 1)
          case rel => exact ⟨i + 1, by go_num, by omega, HE.out, by first | exact HBl.out | exact HBl.out.drew | exact bdrewN HBl.out _, by omega⟩
          case measure => omega
        · have q0 : (a[i] != b[i]) = true := by simp [he]
          have HE := hid_ (show decide (a = b) = false from decide_eq_false (fun h => he (by subst h; rfl)))
          clear he e1 e2
          go_wp2_with fail
          go_quiet (fail)
          go_wp2_with fail
          go_ret
          rw [HE.out]
          exact ⟨rfl, by first | exact HBl.out | exact HBl.out.drew | exact bdrewN HBl.out _⟩
      · have b1 : ¬ (i : Int) < (a.length : Int) := by omega
        have HE := hid_ (show decide (a = b) = true from decide_eq_true (List.ext_getElem HL.out (fun j h1 h2 => by
          have := HAll.out j (by omega)
          rw [getD_at h1, getD_at h2] at this
          exact this)))
        go_wp2_with fail
        go_ret
        rw [HE.out]
        exact ⟨rfl, HBl.out⟩
  · have q0 : ((a.length : Int) != (b.length : Int)) = true := by
      rw [bne_iff_ne]
      intro h
      exact hl (by omega)
    have HE := hid_ (show decide (a = b) = false from decide_eq_false (fun h => hl (by rw [h])))
    clear hl
    go_enter Tryz.func28, Tryz.ntmps28
    go_wp2_with fail
    go_ret
    rw [HE.out]
    exact ⟨rfl, Below.refl _ _⟩
set_option maxHeartbeats 4000000 in
set_option maxRecDepth 100000 in
theorem kinds_c {mv kv : Value} {m : Tr.Md} {ks : List Int} (hm : ModAt w mv m) (hk : RowAt w kv ks.length (ints ks)) (hla : ks.length ≤ 1000000000) : Calls Tryz.prog 27 #[mv, kv] w fun e w' => e = .returned (.bool (decide (m.nodes.map (·.kind) = ks))) ∧ Below w.heap.size w w' := by
  obtain ⟨iv, tv, fv, nv, _, rfl, hi, ht, ⟨fx, _, hf, _⟩, nx, hn1, hn2, _⟩ := hm
  obtain ⟨A1, c1, rfl⟩ := hi.form
  obtain ⟨A2, c2, rfl⟩ := ht.form
  obtain ⟨A3, c3, rfl⟩ := hf.form
  obtain ⟨A4, c4, rfl⟩ := hn2.form
  obtain ⟨A5, c5, rfl⟩ := hk.form
  have hnl : nx.length = m.nodes.length := by rw [← hn1, List.length_map]
  have HKd := hid_ (show ∀ i (h : i < m.nodes.length), (flatN nx)[i * 6]? = some (.int .i64 m.nodes[i].kind) from fun i h => by
    have h2 : i < nx.length := by omega
    have h3 := flatN_getA nx i h2 0 (by omega)
    rw [Nat.add_zero] at h3
    rw [h3]
    have : m.nodes[i] = nx[i].1 := by
      have : (nx.map (·.1))[i]? = some m.nodes[i] := by rw [hn1]; exact List.getElem?_eq_getElem h
      rw [List.getElem?_map, List.getElem?_eq_getElem h2] at this
      injection this with this
      exact this.symm
    rw [this]
    rfl)
  have HN := hid_ (hn2.below (below_alloc w (.cells #[.string (st m.name), .slice A1 m.imports.length c1, .slice A2 m.types.length c2, .slice A3 m.fns.length c3, .slice A4 m.nodes.length c4] 31)))
  have HK := hid_ (hk.below (below_alloc w (.cells #[.string (st m.name), .slice A1 m.imports.length c1, .slice A2 m.types.length c2, .slice A3 m.fns.length c3, .slice A4 m.nodes.length c4] 31)))
  have HB0 := hid_ (below_alloc w (.cells #[.string (st m.name), .slice A1 m.imports.length c1, .slice A2 m.types.length c2, .slice A3 m.fns.length c3, .slice A4 m.nodes.length c4] 31))
  have n0 : (w.alloc (.cells #[.string (st m.name), .slice A1 m.imports.length c1, .slice A2 m.types.length c2, .slice A3 m.fns.length c3, .slice A4 m.nodes.length c4] 31)).cell? ⟨w.heap.size, 4, none⟩ = some (.slice A4 m.nodes.length c4) := (Blk.new w 31 #[.string (st m.name), .slice A1 m.imports.length c1, .slice A2 m.types.length c2, .slice A3 m.fns.length c3, .slice A4 m.nodes.length c4]).cell 4
  clear hi ht hf hn1 hn2 hk hnl
  by_cases hl : m.nodes.length = ks.length
  · have q0 : ((m.nodes.length : Int) != (ks.length : Int)) = false := by simp [hl]
    have HL := hid_ hl
    clear hl
    go_enter Tryz.func27, Tryz.ntmps27
    go_wp2_with fail
    generalize w.alloc (.cells #[.string (st m.name), .slice A1 m.imports.length c1, .slice A2 m.types.length c2, .slice A3 m.fns.length c3, .slice A4 m.nodes.length c4] 31) = W at *
    go_loopg [5] (ks.length + 1) (fun g v wr => ∃ i : Nat, v = .int .i64 i ∧ i ≤ ks.length ∧ (∀ j, j < i → (m.nodes.map (·.kind)).getD j 0 = ks.getD j 0) ∧ Below W.heap.size W wr ∧ ks.length - i + 1 ≤ g)
    case atStart => exact ⟨0, rfl, by omega, fun j h => by omega, Below.refl _ _, by omega⟩
    case round =>
      obtain ⟨i, rfl, hi, hall, hb, hg⟩ := hrel
      have HAll := hid_ hall
      have HBl := hid_ hb
      have n1 := below_cell hb n0
      clear hall hb
      by_cases hlt : i < ks.length
      · have b0 : (0 : Int) ≤ (i : Int) := by omega
        have b1 : (i : Int) < (ks.length : Int) := by omega
        have hltm : i < m.nodes.length := by have := HL.out; omega
        have b2 : (i : Int) < (m.nodes.length : Int) := by omega
        obtain ⟨x1, o1, d1, hx1, hc1⟩ := (HN.out.below HBl.out).get (by omega)
        obtain ⟨x2, o2, d2, hx2, hc2⟩ := (HK.out.below HBl.out).get (by omega)
        injection hx1 with hx1 _ hy1
        injection hx2 with hx2 _ hy2
        have hp1 := hc1 (i * 6) _ (HKd.out i hltm)
        have hp2 := hc2 i _ (ints_at hlt)
        have e1 : (m.nodes.map (·.kind)).getD i 0 = m.nodes[i].kind := by rw [getD_at (by rw [List.length_map]; exact hltm)]; simp
        have e2 := getD_at hlt 0
        clear hc1 hc2
        subst hx1 hx2 hy1 hy2
        by_cases he : m.nodes[i].kind = ks[i]
        · have q0 : (m.nodes[i].kind != ks[i]) = false := by simp [he]
          have HE := hid_ (show ∀ j, j < i + 1 → (m.nodes.map (·.kind)).getD j 0 = ks.getD j 0 from fun j hj => by
            by_cases hji : j = i
            · subst hji; rw [e1, e2, he]
            · exact HAll.out j (by omega))
          clear he e1 e2
          go_wp2_with fail
          go_quiet (fail)
          go_wp2_with fail
          go_roundg (gk - 1)
          case rel => exact ⟨i + 1, by go_num, by omega, HE.out, by first | exact HBl.out | exact HBl.out.drew | exact bdrewN HBl.out _, by omega⟩
          case measure => omega
        · have q0 : (m.nodes[i].kind != ks[i]) = true := by simp [he]
          have HE := hid_ (show decide (m.nodes.map (·.kind) = ks) = false from decide_eq_false (fun h => he (by rw [← e1, ← e2, h])))
          clear he e1 e2
          go_wp2_with fail
          go_quiet (fail)
          go_wp2_with fail
          go_ret
          rw [HE.out]
          exact ⟨rfl, HB0.out.trans ((by first | exact HBl.out | exact HBl.out.drew | exact bdrewN HBl.out _ : Below W.heap.size W _).mono HB0.out.size)⟩
      · have b1 : ¬ (i : Int) < (ks.length : Int) := by omega
        have HE := hid_ (show decide (m.nodes.map (·.kind) = ks) = true from decide_eq_true (List.ext_getElem (by rw [List.length_map]; exact HL.out) (fun j h1 h2 => by
          have := HAll.out j (by omega)
          rw [getD_at h1, getD_at h2] at this
          exact this)))
        go_wp2_with fail
        go_ret
        rw [HE.out]
        exact ⟨rfl, HB0.out.trans (HBl.out.mono HB0.out.size)⟩
  · have q0 : ((m.nodes.length : Int) != (ks.length : Int)) = true := by
      rw [bne_iff_ne]
      intro h
      exact hl (by omega)
    have HE := hid_ (show decide (m.nodes.map (·.kind) = ks) = false from decide_eq_false (fun h => hl (by rw [← h, List.length_map])))
    clear hl
    go_enter Tryz.func27, Tryz.ntmps27
    go_wp2_with fail
    go_ret
    rw [HE.out]
    exact ⟨rfl, HB0.out⟩
end
end Go.Proofs.YtmgjmagniefhoaaGreatDoor

/- A module's parts, opened; wrong. Conditions: those that each theorem names. -/
namespace Go.Proofs.YtmgjmagniefhoaaGreatDoor
open Go.RowKit Go.Maps
section
variable {w w' : World}
/-- A module's parts, wherever they lie. -/
structure ModO (w : World) (m : Tr.Md) (Ai At Af An : Option Addr) : Prop where
  im : ∀ i (h : i < m.imports.length), ∃ b off, Ai = some ⟨b, off, none⟩ ∧ w.cell? ⟨b, off + i, none⟩ = some (.string (st m.imports[i]))
  ty : ∀ i (h : i < m.types.length), ∃ b off, At = some ⟨b, off, none⟩ ∧ w.cell? ⟨b, off + i * 2, none⟩ = some (.string (st m.types[i].name)) ∧ w.cell? ⟨b, off + i * 2 + 1, none⟩ = some (.int .i64 m.types[i].type)
  fn : ∀ i (h : i < m.fns.length), ∃ b off vv pv, Af = some ⟨b, off, none⟩ ∧ w.cell? ⟨b, off + i * 5, none⟩ = some (.string (st m.fns[i].name)) ∧ w.cell? ⟨b, off + i * 5 + 1, none⟩ = some vv ∧ w.cell? ⟨b, off + i * 5 + 2, none⟩ = some pv ∧ w.cell? ⟨b, off + i * 5 + 3, none⟩ = some (.int .i64 m.fns[i].ret) ∧ w.cell? ⟨b, off + i * 5 + 4, none⟩ = some (.int .i64 m.fns[i].body) ∧
    RowAt w vv m.fns[i].vars.length (flatV m.fns[i].vars) ∧ RowAt w pv m.fns[i].params.length (flatV m.fns[i].params)
  nd : ∀ i (h : i < m.nodes.length), ∃ b off kv lv, An = some ⟨b, off, none⟩ ∧ w.cell? ⟨b, off + i * 6, none⟩ = some (.int .i64 m.nodes[i].kind) ∧ w.cell? ⟨b, off + i * 6 + 1, none⟩ = some (.int .i64 m.nodes[i].num) ∧ w.cell? ⟨b, off + i * 6 + 2, none⟩ = some (.string (st m.nodes[i].mod)) ∧ w.cell? ⟨b, off + i * 6 + 3, none⟩ = some (.string (st m.nodes[i].name)) ∧
    w.cell? ⟨b, off + i * 6 + 4, none⟩ = some kv ∧ w.cell? ⟨b, off + i * 6 + 5, none⟩ = some lv ∧ RowAt w kv m.nodes[i].keys.length (strs m.nodes[i].keys) ∧ RowAt w lv m.nodes[i].l.length (ints m.nodes[i].l)
theorem ModO.below {m : Tr.Md} {Ai At Af An : Option Addr} (h : ModO w m Ai At Af An) (hb : Below w.heap.size w w') : ModO w' m Ai At Af An := by
  refine ⟨fun i hi => ?_, fun i hi => ?_, fun i hi => ?_, fun i hi => ?_⟩
  · obtain ⟨b, off, h1, h2⟩ := h.im i hi
    exact ⟨b, off, h1, below_cell hb h2⟩
  · obtain ⟨b, off, h1, h2, h3⟩ := h.ty i hi
    exact ⟨b, off, h1, below_cell hb h2, below_cell hb h3⟩
  · obtain ⟨b, off, vv, pv, h1, h2, h3, h4, h5, h6, h7, h8⟩ := h.fn i hi
    exact ⟨b, off, vv, pv, h1, below_cell hb h2, below_cell hb h3, below_cell hb h4, below_cell hb h5, below_cell hb h6, h7.below hb, h8.below hb⟩
  · obtain ⟨b, off, kv, lv, h1, h2, h3, h4, h5, h6, h7, h8, h9⟩ := h.nd i hi
    exact ⟨b, off, kv, lv, h1, below_cell hb h2, below_cell hb h3, below_cell hb h4, below_cell hb h5, below_cell hb h6, below_cell hb h7, h8.below hb, h9.below hb⟩
theorem flatV_at : ∀ (l : List Tr.Vr) (i : Nat) (h : i < l.length) (j : Nat), j < 2 → (flatV l)[i * 2 + j]? = [.string (st l[i].name), .int .i64 l[i].type][j]?
  | x :: l, 0, h, j, hj => by
    show (_ :: _ :: flatV l)[0 * 2 + j]? = _
    match j, hj with
    | 0, _ => rfl
    | 1, _ => rfl
  | x :: l, i + 1, h, j, hj => by
    have e : flatV (x :: l) = [.string (st x.name), .int .i64 x.type] ++ flatV l := rfl
    rw [e, List.getElem?_append_right (by show 2 ≤ _; omega)]
    have e2 : (i + 1) * 2 + j - ([.string (st x.name), .int .i64 x.type] : List Value).length = i * 2 + j := by show (i + 1) * 2 + j - 2 = _; omega
    rw [e2, flatV_at l i (by simpa using h) j hj]
    simp
theorem flatF_at : ∀ (l : List Fx) (i : Nat) (h : i < l.length) (j : Nat), j < 5 → (flatF l)[i * 5 + j]? = (cellF l[i])[j]?
  | x :: l, 0, h, j, hj => by
    have e : flatF (x :: l) = cellF x ++ flatF l := rfl
    rw [e, List.getElem?_append_left (by show 0 * 5 + j < 5; omega)]
    simp
  | x :: l, i + 1, h, j, hj => by
    have e : flatF (x :: l) = cellF x ++ flatF l := rfl
    rw [e, List.getElem?_append_right (by show 5 ≤ _; omega)]
    have e2 : (i + 1) * 5 + j - (cellF x).length = i * 5 + j := by show (i + 1) * 5 + j - 5 = _; omega
    rw [e2, flatF_at l i (by simpa using h) j hj]
    simp
theorem map_at {α β : Type} {f : α → β} {xs : List α} {ys : List β} (h : xs.map f = ys) (i : Nat) (hi : i < ys.length) : ∃ hx : i < xs.length, ys[i] = f xs[i] := by
  subst h
  rw [List.length_map] at hi
  exact ⟨hi, by simp⟩
theorem ModAt.open {v : Value} {m : Tr.Md} (h : ModAt w v m) : ∃ Ai ci At ct Af cf An cn, v = .agg #[.string (st m.name), .slice Ai m.imports.length ci, .slice At m.types.length ct, .slice Af m.fns.length cf, .slice An m.nodes.length cn] ∧ ModO w m Ai At Af An := by
  obtain ⟨iv, tv, fv, nv, _, rfl, h1, h2, ⟨fx, f1, f2, f3⟩, nx, n1, n2, n3⟩ := h
  obtain ⟨A1, c1, rfl⟩ := h1.form
  obtain ⟨A2, c2, rfl⟩ := h2.form
  obtain ⟨A3, c3, rfl⟩ := f2.form
  obtain ⟨A4, c4, rfl⟩ := n2.form
  refine ⟨A1, c1, A2, c2, A3, c3, A4, c4, rfl, fun i hi => ?_, fun i hi => ?_, fun i hi => ?_, fun i hi => ?_⟩
  · obtain ⟨b, off, c, e, hc⟩ := h1.get (by omega)
    injection e with e _ _
    exact ⟨b, off, e, hc i _ (by unfold strs; rw [List.getElem?_map, List.getElem?_eq_getElem hi]; rfl)⟩
  · obtain ⟨b, off, c, e, hc⟩ := h2.get (by omega)
    injection e with e _ _
    exact ⟨b, off, e, hc (i * 2) _ (flatV_at _ i hi 0 (by omega)), by rw [Nat.add_assoc]; exact hc (i * 2 + 1) _ (flatV_at _ i hi 1 (by omega))⟩
  · obtain ⟨b, off, c, e, hc⟩ := f2.get (by omega)
    injection e with e _ _
    obtain ⟨hx, ex⟩ := map_at f1 i hi
    rw [ex]
    refine ⟨b, off, fx[i].2.1, fx[i].2.2, e, hc (i * 5) _ (flatF_at _ i hx 0 (by omega)), ?_, ?_, ?_, ?_, (f3 _ (List.getElem_mem hx)).1, (f3 _ (List.getElem_mem hx)).2⟩
    · rw [Nat.add_assoc]; exact hc (i * 5 + 1) _ (flatF_at _ i hx 1 (by omega))
    · rw [Nat.add_assoc]; exact hc (i * 5 + 2) _ (flatF_at _ i hx 2 (by omega))
    · rw [Nat.add_assoc]; exact hc (i * 5 + 3) _ (flatF_at _ i hx 3 (by omega))
    · rw [Nat.add_assoc]; exact hc (i * 5 + 4) _ (flatF_at _ i hx 4 (by omega))
  · obtain ⟨b, off, c, e, hc⟩ := n2.get (by omega)
    injection e with e _ _
    obtain ⟨hx, ex⟩ := map_at n1 i hi
    rw [ex]
    refine ⟨b, off, nx[i].2.1, nx[i].2.2, e, hc (i * 6) _ (flatN_getA _ i hx 0 (by omega)), ?_, ?_, ?_, ?_, ?_, (n3 _ (List.getElem_mem hx)).1, (n3 _ (List.getElem_mem hx)).2⟩
    · rw [Nat.add_assoc]; exact hc (i * 6 + 1) _ (flatN_getA _ i hx 1 (by omega))
    · rw [Nat.add_assoc]; exact hc (i * 6 + 2) _ (flatN_getA _ i hx 2 (by omega))
    · rw [Nat.add_assoc]; exact hc (i * 6 + 3) _ (flatN_getA _ i hx 3 (by omega))
    · rw [Nat.add_assoc]; exact hc (i * 6 + 4) _ (flatN_getA _ i hx 4 (by omega))
    · rw [Nat.add_assoc]; exact hc (i * 6 + 5) _ (flatN_getA _ i hx 5 (by omega))
set_option maxHeartbeats 4000000 in
set_option maxRecDepth 100000 in
theorem wrong_c (hv : Env w) (s : ByteArray) (hs : s.size ≤ 1000000000) (n er : Int) (hp : parseR s = (Tr.Md.none, n, er)) : Calls Tryz.prog 29 #[.string s, .int .i64 n, .int .i64 er] w fun e w' => e = .returned (.bool true) ∧ Below w.heap.size w w' := by
  have HP := hid_ (parse_c hv s hs)
  have HE := hid_ hp
  clear hv hp
  go_enter Tryz.func29, Tryz.ntmps29
  go_wp2_with fail
  refine HP.out.mono ?_
  rintro e w1 ⟨v, hm, he, hb⟩
  rw [HE.out] at hm he
  subst he
  obtain ⟨Ai, ci, At, ct, Af, cf, An, cn, hv, ho⟩ := hm.open
  have hv : v = .agg #[.string ⟨#[]⟩, .slice Ai 0 ci, .slice At 0 ct, .slice Af 0 cf, .slice An 0 cn] := hv
  subst hv
  have HB := hid_ (hb.trans ((below_alloc w1 (.cells #[.string ⟨#[]⟩, .slice Ai 0 ci, .slice At 0 ct, .slice Af 0 cf, .slice An 0 cn] 31)).mono hb.size))
  have hbk := Blk.new w1 31 #[.string ⟨#[]⟩, .slice Ai 0 ci, .slice At 0 ct, .slice Af 0 cf, .slice An 0 cn]
  have n0 : (w1.alloc (.cells #[.string ⟨#[]⟩, .slice Ai 0 ci, .slice At 0 ct, .slice Af 0 cf, .slice An 0 cn] 31)).cell? ⟨w1.heap.size, 0, none⟩ = some (.string ⟨#[]⟩) := hbk.cell 0
  have n1 : (w1.alloc (.cells #[.string ⟨#[]⟩, .slice Ai 0 ci, .slice At 0 ct, .slice Af 0 cf, .slice An 0 cn] 31)).cell? ⟨w1.heap.size, 1, none⟩ = some (.slice Ai 0 ci) := hbk.cell 1
  have n2 : (w1.alloc (.cells #[.string ⟨#[]⟩, .slice Ai 0 ci, .slice At 0 ct, .slice Af 0 cf, .slice An 0 cn] 31)).cell? ⟨w1.heap.size, 2, none⟩ = some (.slice At 0 ct) := hbk.cell 2
  have n3 : (w1.alloc (.cells #[.string ⟨#[]⟩, .slice Ai 0 ci, .slice At 0 ct, .slice Af 0 cf, .slice An 0 cn] 31)).cell? ⟨w1.heap.size, 3, none⟩ = some (.slice Af 0 cf) := hbk.cell 3
  have n4 : (w1.alloc (.cells #[.string ⟨#[]⟩, .slice Ai 0 ci, .slice At 0 ct, .slice Af 0 cf, .slice An 0 cn] 31)).cell? ⟨w1.heap.size, 4, none⟩ = some (.slice An 0 cn) := hbk.cell 4
  clear hm ho hb hbk
  go_wp2_with fail
  go_ret
  exact ⟨rfl, HB.out⟩
end
end Go.Proofs.YtmgjmagniefhoaaGreatDoor
