/- The laws' small functions: kinds, wrong, works. Conditions: those that each theorem names. -/
import Derived.Test.YtmpdobpnnejmmaaDoorJb
import Derived.Deep.DeepCutAuto
import Derived.Deep.CutBlock
namespace Go.Proofs.YtmpdobpnnejmmaaDoor
open Go.RowKit Go.Maps

/-- What Words answers, in one form. -/
def wordsR (s : ByteArray) : List Lx.Wd × Int × Int := if 65536 < s.size then ([], 0, 5) else match Lx.cut (bl s) with
  | .error a => ([], (a : Int), 20)
  | .ok ws => (ws ++ [endW s], 0, 0)
theorem cutF_few (n : Nat) : ∀ (f : Nat) (l : List UInt8) (ws : List Lx.Wd), Lx.cutF n f l = .ok ws → ws.length ≤ f
  | 0, _, ws, h => by
    injection h with h
    subst h
    simp
  | f + 1, l, ws, h => by
    unfold Lx.cutF at h
    split at h
    · injection h with h
      subst h
      simp
    · split at h
      · cases h
      · split at h
        · cases h
        · rename_i he
          injection h with h
          subst h
          have := cutF_few n f _ _ he
          simp only [List.length_cons]
          omega
theorem wordsR_few (s : ByteArray) : (wordsR s).1.length ≤ s.size + 2 := by
  unfold wordsR
  split
  · simp
  · split
    · simp
    · rename_i ws h
      have := cutF_few _ _ _ _ h
      rw [bl_len] at this
      simp only [List.length_append, List.length_cons, List.length_nil]
      omega
theorem WsAt.nil (w : World) : WsAt w (.slice none 0 0) [] := ⟨none, 0, rfl, fun _ => rfl, fun b off n h => by cases h⟩
theorem WsAt.below {w w' : World} {v : Value} {ws : List Lx.Wd} (h : WsAt w v ws) (hb : Below w.heap.size w w') : WsAt w' v ws := by
  obtain ⟨A, c, rfl, hn, hA⟩ := h
  refine ⟨A, c, rfl, hn, fun b off n e => ?_⟩
  obtain ⟨rfl, h2⟩ := hA b off n e
  refine ⟨rfl, fun j hj k hk => ?_⟩
  have h3 := h2 j hj k hk
  have h4 : (cellW ws[j])[k]? = some ((cellW ws[j])[k]'(by show k < 4; exact hk)) := List.getElem?_eq_getElem _
  rw [h4] at h3 ⊢
  exact below_cell hb h3
theorem words_uni {s : ByteArray} {w w' : World} {e : Ending} (h : WordsP s w e w') : ∃ v, WsAt w' v (wordsR s).1 ∧ e = .returned (.tuple #[v, .int .i64 (wordsR s).2.1, .int .i64 (wordsR s).2.2]) ∧ Below w.heap.size w w' := by
  obtain ⟨hb, h⟩ := h
  rcases h with ⟨h1, rfl⟩ | ⟨h1, a, h2, rfl⟩ | ⟨h1, ws, A, c, h2, rfl, h3⟩
  · have e : wordsR s = ([], 0, 5) := if_pos h1
    rw [e]
    exact ⟨_, WsAt.nil _, rfl, hb⟩
  · have e : wordsR s = ([], (a : Int), 20) := by
      unfold wordsR
      rw [if_neg (by omega), h2]
    rw [e]
    exact ⟨_, WsAt.nil _, rfl, hb⟩
  · have e : wordsR s = (ws ++ [endW s], 0, 0) := by
      unfold wordsR
      rw [if_neg (by omega), h2]
    rw [e]
    exact ⟨_, own_ws h3, rfl, hb⟩
theorem lex_WordsU {w : World} (hv : Env w) (s : ByteArray) (hs : s.size ≤ 1000000000) : Calls Tryd.prog 10 #[.string s] w fun e w' => ∃ v, WsAt w' v (wordsR s).1 ∧ e = .returned (.tuple #[v, .int .i64 (wordsR s).2.1, .int .i64 (wordsR s).2.2]) ∧ Below w.heap.size w w' :=
  (lex_Words hv s hs).mono fun _ _ h => words_uni h

set_option maxHeartbeats 1000000 in
set_option maxRecDepth 100000 in
theorem law_wrong {w : World} (hv : Env w) (s : ByteArray) (hs : s.size ≤ 1000000000) (n : Int) (hw : wordsR s = ([], n, 20)) : Calls Tryd.prog 42 #[.string s, .int .i64 n] w fun e w' => e = .returned (.bool true) ∧ Below w.heap.size w w' := by
  have HV := hid_ hv
  clear hv
  go_enter Tryd.func42, Tryd.ntmps42
  go_wp2_with fail
  refine (lex_WordsU HV.out s hs).mono ?_
  rw [hw]
  rintro e w2 ⟨v, hws, rfl, hb⟩
  obtain ⟨A, c, rfl, _, _⟩ := hws
  have HB := hid_ hb
  clear hb
  go_wp2_with fail
  go_ret
  exact ⟨rfl, HB.out⟩

set_option maxHeartbeats 4000000 in
set_option maxRecDepth 100000 in
theorem law_kinds {w : World} (hv : Env w) (s : ByteArray) (hs : s.size ≤ 1000000000) {ws : List Lx.Wd} (hw : wordsR s = (ws, 0, 0)) {p1 p2 c1 c2 : Nat} (hk : ∀ j u, (ws.map fun x => Value.int .i64 x.kind)[j]? = some u → w.cell? ⟨p1, j, none⟩ = some u) (ht : ∀ j u, (ws.map fun x => Value.string (st x.text))[j]? = some u → w.cell? ⟨p2, j, none⟩ = some u) :
    Calls Tryd.prog 41 #[.string s, .slice (some ⟨p1, 0, none⟩) ws.length c1, .slice (some ⟨p2, 0, none⟩) ws.length c2] w fun e w' => e = .returned (.bool true) ∧ Below w.heap.size w w' := by
  have HV := hid_ hv
  have HK := hid_ hk
  have HT := hid_ ht
  clear hv hk ht
  go_enter Tryd.func41, Tryd.ntmps41
  go_wp2_with fail
  refine (lex_WordsU HV.out s hs).mono ?_
  rw [hw]
  rintro e w2 ⟨v, hws, rfl, hb⟩
  obtain ⟨A, c, rfl, hn, hA⟩ := hws
  have HB := hid_ hb
  clear hb
  dsimp only at hn hA ⊢
  go_wp2_with fail
  have hfew : ws.length ≤ s.size + 2 := by
    have := wordsR_few s
    rw [hw] at this
    exact this
  go_loopw [10] (fun v wr => Below w2.heap.size w2 wr ∧ ∃ k : Nat, v = .int .i64 k ∧ k ≤ ws.length) (fun v _ => ws.length - (intOf v).toNat)
  case atStart => exact ⟨Below.refl _ _, 0, rfl, by omega⟩
  case round =>
    obtain ⟨hbw, k, rfl, hkl⟩ := hrel
    have HBw := hid_ hbw
    by_cases hlt : k < ws.length
    · have b0 : (0 : Int) ≤ (k : Int) := by omega
      have b1 : (k : Int) < (ws.length : Int) := by omega
      cases A with
      | none => have := hn rfl; subst this; simp at hlt
      | some a =>
        obtain ⟨b, off, n⟩ := a
        obtain ⟨rfl, hcx⟩ := hA b off n rfl
        have x0 : wr.cell? ⟨b, off + k * 4, none⟩ = some (.int .i64 ws[k].kind) := below_cell hbw (hcx k hlt 0 (by omega))
        have x1 : wr.cell? ⟨b, off + k * 4 + 1, none⟩ = some (.string (st ws[k].text)) := below_cell hbw (hcx k hlt 1 (by omega))
        have y0 : wr.cell? ⟨p1, k, none⟩ = some (.int .i64 ws[k].kind) := below_cell hbw (below_cell HB.out (HK.out k _ (by rw [List.getElem?_map, List.getElem?_eq_getElem hlt]; rfl)))
        have y1 : wr.cell? ⟨p2, k, none⟩ = some (.string (st ws[k].text)) := below_cell hbw (below_cell HB.out (HT.out k _ (by rw [List.getElem?_map, List.getElem?_eq_getElem hlt]; rfl)))
        clear hbw hn hA hcx
        go_wp2_with fail
        go_region
        go_wp2_with fail
        go_roundw
        case rel => exact ⟨HBw.out.trans ((Below.refl _ _).drew.mono HBw.out.size), k + 1, by go_num, by omega⟩
        case measure => simp [intOf]; omega
    · have b1 : ¬ (k : Int) < (ws.length : Int) := by omega
      clear hbw
      go_wp2_with fail
      go_ret
      exact ⟨rfl, HB.out.trans (HBw.out.mono HB.out.size)⟩

theorem blk_list {w : World} {g : Nat} {t : TypeId} {l : List Value} (h : Blk w g t l.toArray) (j : Nat) (u : Value) (hu : l[j]? = some u) : w.cell? ⟨g, j, none⟩ = some u := (h.cell j).trans (by rw [List.getElem?_toArray]; exact hu)
theorem blk_new1 (w : World) (o : Obj) (t : TypeId) (cs : Array Value) : Blk ((w.alloc o).alloc (.cells cs t)) (w.heap.size + 1) t cs := by
  have h := Blk.new (w.alloc o) t cs
  rw [show (w.alloc o).heap.size = w.heap.size + 1 by simp] at h
  exact h
/-- The texts of works, and what they are cut into. -/
def works1 : List UInt8 := [108, 101, 116, 32, 120, 49, 32, 61, 32, 39, 97, 10, 35, 32, 110, 111]
def works2 : List UInt8 := [60, 58, 60, 61, 61, 58, 32, 44, 32, 97, 58, 58, 66]
def worksW1 : List Lx.Wd := [⟨5, [108, 101, 116], 0, 0⟩, ⟨1, [120, 49], 0, 4⟩, ⟨6, [61], 0, 7⟩, ⟨4, [97], 0, 9⟩, ⟨7, [], 0, 16⟩]
def worksW2 : List Lx.Wd := [⟨6, [60, 58], 0, 0⟩, ⟨6, [60], 0, 2⟩, ⟨6, [61, 61], 0, 3⟩, ⟨6, [58], 0, 5⟩, ⟨6, [44], 0, 7⟩, ⟨1, [97], 0, 9⟩, ⟨6, [58, 58], 0, 10⟩, ⟨2, [66], 0, 12⟩, ⟨7, [], 0, 13⟩]
def oddL : List (List UInt8) := [[48, 49], [49, 97], [50, 49, 52, 55, 52, 56, 51, 54, 52, 56], [97, 66], [65, 95], [39], [39, 65], [95], [64]]
theorem works1_is : wordsR (st works1) = (worksW1, 0, 0) := by kernel_rfl
theorem works2_is : wordsR (st works2) = (worksW2, 0, 0) := by kernel_rfl
theorem odd_is : ∀ k, k < 9 → wordsR (st (oddL.getD k [])) = ([], 0, 20)
  | 0, _ => by kernel_rfl
  | 1, _ => by kernel_rfl
  | 2, _ => by kernel_rfl
  | 3, _ => by kernel_rfl
  | 4, _ => by kernel_rfl
  | 5, _ => by kernel_rfl
  | 6, _ => by kernel_rfl
  | 7, _ => by kernel_rfl
  | 8, _ => by kernel_rfl
  | k + 9, h => absurd h (by omega)
theorem odd_size : ∀ k, (st (oddL.getD k [])).size ≤ 1000000000 := by
  intro k
  rw [st_size]
  rcases Nat.lt_or_ge k 9 with hk | hk
  · have h : k = 0 ∨ k = 1 ∨ k = 2 ∨ k = 3 ∨ k = 4 ∨ k = 5 ∨ k = 6 ∨ k = 7 ∨ k = 8 := by omega
    rcases h with rfl | rfl | rfl | rfl | rfl | rfl | rfl | rfl | rfl <;> decide
  · rw [List.getD_eq_getElem?_getD, List.getElem?_eq_none (by exact hk)]; decide

set_option maxHeartbeats 4000000 in
set_option maxRecDepth 100000 in
theorem law_works {w : World} (hv : Env w) : Calls Tryd.prog 19 #[] w fun e w' => e = .returned (.bool true) ∧ Below w.heap.size w w' := by
  have HV := hid_ hv
  clear hv
  go_enter Tryd.func19, Tryd.ntmps19
  go_wp2_with fail
  refine (lex_WordsU HV.out (st works1) (by decide)).mono ?_
  rw [works1_is]
  rintro e w2 ⟨v, hws, rfl, hb⟩
  obtain ⟨A, c, rfl, hn, hA⟩ := hws
  have HB := hid_ hb
  clear hb
  dsimp only at hn hA ⊢
  cases A with
  | none => have := hn rfl; cases this
  | some a =>
    obtain ⟨b, off, n⟩ := a
    obtain ⟨rfl, hcx⟩ := hA b off n rfl
    have x1 : w2.cell? ⟨b, off + 1 * 4 + 3, none⟩ = some (.int .i64 4) := hcx 1 (by decide) 3 (by omega)
    have x3 : w2.cell? ⟨b, off + 3 * 4 + 3, none⟩ = some (.int .i64 9) := hcx 3 (by decide) 3 (by omega)
    have x4 : w2.cell? ⟨b, off + 4 * 4 + 3, none⟩ = some (.int .i64 16) := hcx 4 (by decide) 3 (by omega)
    have q5 : worksW1.length = 5 := rfl
    rw [q5]
    clear hcx hA hn
    go_wp2_with fail
    refine (law_kinds (ws := worksW1) (p1 := w2.heap.size) (p2 := w2.heap.size + 1) (c1 := 5) (c2 := 5) (HV.out.below (HB.out.trans ((((Below.refl _ _).alloc (Nat.le_refl _) _).alloc (by simp) _).mono HB.out.size))) (st works1) (by decide) works1_is (fun j u hu => blk_list ((Blk.new w2 _ _).alloc _) j u hu) (fun j u hu => blk_list (blk_new1 w2 _ _ _) j u hu)).mono ?_
    rintro e w3 ⟨rfl, hb3⟩
    have HB3 := hid_ (HB.out.trans (((((Below.refl w2.heap.size w2).alloc (Nat.le_refl _) _).alloc (by simp) _).trans (hb3.mono (by simp; omega))).mono HB.out.size))
    clear hb3
    go_wp2_with fail
    refine (law_kinds (ws := worksW2) (p1 := w3.heap.size) (p2 := w3.heap.size + 1) (c1 := 9) (c2 := 9) (HV.out.below (HB3.out.trans ((((Below.refl _ _).alloc (Nat.le_refl _) _).alloc (by simp) _).mono HB3.out.size))) (st works2) (by decide) works2_is (fun j u hu => blk_list ((Blk.new w3 _ _).alloc _) j u hu) (fun j u hu => blk_list (blk_new1 w3 _ _ _) j u hu)).mono ?_
    rintro e w4 ⟨rfl, hb4⟩
    have HB4 := hid_ (HB3.out.trans (((((Below.refl w3.heap.size w3).alloc (Nat.le_refl _) _).alloc (by simp) _).trans (hb4.mono (by simp; omega))).mono HB3.out.size))
    clear hb4
    go_wp2_with fail
    have HO := hid_ (Blk.new w4 9 (oddL.map fun k => Value.string (st k)).toArray)
    have HVo := hid_ (HV.out.below (HB4.out.trans (((Below.refl _ _).alloc (Nat.le_refl _) (.cells (oddL.map fun k => Value.string (st k)).toArray 9)).mono HB4.out.size)))
    clear x1 x3 x4
    have eW : ∃ W, W = w4.alloc (.cells (oddL.map fun k => Value.string (st k)).toArray 9) := ⟨_, rfl⟩
    obtain ⟨W, eW⟩ := eW
    have eW2 : w4.alloc (.cells #[.string ⟨#[48, 49]⟩, .string ⟨#[49, 97]⟩, .string ⟨#[50, 49, 52, 55, 52, 56, 51, 54, 52, 56]⟩, .string ⟨#[97, 66]⟩, .string ⟨#[65, 95]⟩, .string ⟨#[39]⟩, .string ⟨#[39, 65]⟩, .string ⟨#[95]⟩, .string ⟨#[64]⟩] 9) = W := eW.symm
    rw [eW2]
    rw [← eW] at HO HVo
    have HBW := hid_ (show Below w.heap.size w W from by rw [eW]; exact HB4.out.trans (((Below.refl _ _).alloc (Nat.le_refl _) _).mono HB4.out.size))
    clear eW eW2
    go_loopw [7] (fun v wr => Below W.heap.size W wr ∧ ∃ k : Nat, v = .int .i64 k ∧ k ≤ 9) (fun v _ => 9 - (intOf v).toNat)
    case atStart => exact ⟨Below.refl _ _, 0, rfl, by omega⟩
    case round =>
      obtain ⟨hbw, k, rfl, hkl⟩ := hrel
      have HBw := hid_ hbw
      by_cases hlt : k < 9
      · have b0 : (0 : Int) ≤ (k : Int) := by omega
        have b1 : (k : Int) < 9 := by omega
        have y0 : wr.cell? ⟨w4.heap.size, k, none⟩ = some (.string (st (oddL.getD k []))) := below_cell hbw (blk_list HO.out k _ (by rw [List.getElem?_map, List.getD_eq_getElem?_getD, List.getElem?_eq_getElem (show k < oddL.length from hlt)]; rfl))
        clear hbw
        go_wp2_with fail
        refine (law_wrong (HVo.out.below HBw.out) _ (odd_size k) 0 (odd_is k hlt)).mono ?_
        rintro e w5 ⟨rfl, hb5⟩
        have HB5 := hid_ (HBw.out.trans (hb5.mono HBw.out.size))
        clear hb5
        go_wp2_with fail
        go_roundw
        case rel => exact ⟨HB5.out, k + 1, by go_num, by omega⟩
        case measure => simp [intOf]; omega
      · have b1 : ¬ (k : Int) < 9 := by omega
        clear hbw
        go_wp2_with fail
        go_ret
        exact ⟨rfl, HBW.out.trans (HBw.out.mono HBW.out.size)⟩
end Go.Proofs.YtmpdobpnnejmmaaDoor
