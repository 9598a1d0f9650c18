/- Words joined: the document's Join. Conditions: those that each theorem names. -/
import Derived.Test.YtmpdobpnnejmmaaDoorJa
import Derived.Lib.AppendStr
namespace Go.Proofs.YtmpdobpnnejmmaaDoor
open Go.RowKit Go.Maps Go.Lib

theorem Tryd.infoB : (Tryd.prog.info? 5).map (fun i => (i.zero, i.size, i.bytes)) = some (some (.int .u8 0), 1, 1) := by kernel_rfl
def octs (l : List UInt8) : List Value := l.map fun c => .int .u8 c.toNat
def lim (k : Nat) : Nat := k * 1002
theorem lim_next (k : Nat) : lim (k + 1) = lim k + 1002 := Nat.succ_mul k 1002
theorem lim_le {k : Nat} (h : k ≤ 1000) : lim k ≤ 1002000 := Nat.mul_le_mul_right 1002 h
theorem strCells_st (t : List UInt8) : strCells (st t) = octs t := by
  unfold strCells octs
  rfl
theorem part_ne {x : Lx.Wd} {t : List UInt8} (h : Lx.part x = some t) : t ≠ [] := by
  unfold Lx.part at h
  split at h
  · cases h
  · split at h
    · injection h with h; subst h; simp
    · split at h
      · cases h
      · injection h with h; subst h; assumption
theorem join_next (L : List (List UInt8)) (t : List UInt8) : Lib.join (L ++ [t]) [32] = if L = [] then t else Lib.join L [32] ++ 32 :: t := by
  cases L with
  | nil => simp [Lib.join_one]
  | cons x r =>
    rw [if_neg (by simp), List.cons_append, Lib.join_cons, Lib.join_cons]
    simp [Lib.joinTail]
theorem join_empty {L : List (List UInt8)} (h : ∀ t ∈ L, t ≠ []) : Lib.join L [32] = [] ↔ L = [] := by
  cases L with
  | nil => simp [Lib.join_nil]
  | cons x r =>
    have := h x List.mem_cons_self
    rw [Lib.join_cons]
    simp [this]
/-- The document's loop. -/
structure RJ (w wr : World) (ws : List Lx.Wd) (k : Nat) (v : Value) : Prop where
  own : wr.ownsRow w.heap.size 5 1 v (Lx.joinL (ws.take k)).length (octs (Lx.joinL (ws.take k)))
  bel : Below w.heap.size w wr
  len : (Lx.joinL (ws.take k)).length ≤ lim k

section
variable {w wr w1 w2 : World} {ws : List Lx.Wd} {k : Nat} {v v1 v2 : Value} {t : List UInt8}
theorem RJ.skip (h : RJ w wr ws k v) (hk : k < ws.length) (hp : Lx.part ws[k] = none) (hb : Below wr.heap.size wr w2) : RJ w w2 ws (k + 1) v := by
  have e : Lx.joinL (ws.take (k + 1)) = Lx.joinL (ws.take k) := by unfold Lx.joinL; rw [take_next ws hk, Lx.parts_snoc, hp]; simp
  refine ⟨?_, h.bel.trans (hb.mono h.bel.size), by rw [e, lim_next]; have := h.len; omega⟩
  rw [e]
  exact own_kp h.own (Kp.of_below hb fun _ => False) (fun _ _ h => h)
theorem RJ.skipb (h : RJ w wr ws k v) (hb : Below wr.heap.size wr w2) : RJ w w2 ws k v :=
  ⟨own_kp h.own (Kp.of_below hb fun _ => False) (fun _ _ h => h), h.bel.trans (hb.mono h.bel.size), h.len⟩
theorem RJ.next_is (hk : k < ws.length) (hp : Lx.part ws[k] = some t) : Lx.joinL (ws.take (k + 1)) = if Lx.joinL (ws.take k) = [] then t else Lx.joinL (ws.take k) ++ 32 :: t := by
  have hne : ∀ t ∈ Lx.parts (ws.take k), t ≠ [] := fun t ht => by
    obtain ⟨x, _, hx⟩ := List.mem_filterMap.1 ht
    exact part_ne hx
  unfold Lx.joinL
  rw [take_next ws hk, Lx.parts_snoc, hp, Option.toList_some, join_next]
  by_cases h : Lx.parts (ws.take k) = []
  · rw [if_pos h, if_pos ((join_empty hne).2 h)]
  · rw [if_neg h, if_neg (fun e => h ((join_empty hne).1 e))]
theorem RJ.first (h : RJ w wr ws k v) (hk : k < ws.length) (hp : Lx.part ws[k] = some t) (ht : t.length ≤ 1001) (he : Lx.joinL (ws.take k) = []) (hg : wr.grownBy w2 v.ownBlock) (hown : w2.ownsRow w.heap.size 5 1 v2 ((Lx.joinL (ws.take k)).length + (st t).size) (octs (Lx.joinL (ws.take k)) ++ strCells (st t))) : RJ w w2 ws (k + 1) v2 := by
  have e := RJ.next_is hk hp
  rw [if_pos he] at e
  refine ⟨?_, h.bel.trans (((Kp.refl (fun q => w.heap.size ≤ q) _).grown hg (fun k hk => .inl (own_base h.own hk))).toBelow h.bel.size (fun q hq e => by omega)), by rw [e, lim_next]; omega⟩
  rw [e]
  rw [he, strCells_st, st_size] at hown
  simpa [octs] using hown
theorem RJ.more (h : RJ w wr ws k v) (hk : k < ws.length) (hp : Lx.part ws[k] = some t) (ht : t.length ≤ 1001) (he : Lx.joinL (ws.take k) ≠ []) (hg : wr.grownBy w1 v.ownBlock) (hown1 : w1.ownsRow w.heap.size 5 1 v1 ((Lx.joinL (ws.take k)).length + 1) (octs (Lx.joinL (ws.take k)) ++ [.int .u8 32]))
    (hg2 : w1.grownBy w2 v1.ownBlock) (hown : w2.ownsRow w.heap.size 5 1 v2 ((Lx.joinL (ws.take k)).length + 1 + (st t).size) (octs (Lx.joinL (ws.take k)) ++ [.int .u8 32] ++ strCells (st t))) : RJ w w2 ws (k + 1) v2 := by
  have e := RJ.next_is hk hp
  rw [if_neg he] at e
  have hsz : w.heap.size ≤ w1.heap.size := Nat.le_trans h.bel.size hg.size
  refine ⟨?_, (h.bel.trans (((Kp.refl (fun q => w.heap.size ≤ q) _).grown hg (fun k hk => .inl (own_base h.own hk))).toBelow h.bel.size (fun q hq e => by omega))).trans (((Kp.refl (fun q => w.heap.size ≤ q) _).grown hg2 (fun k hk => .inl (own_base hown1 hk))).toBelow hsz (fun q hq e => by omega)), by rw [e, List.length_append, List.length_cons, lim_next]; have := h.len; omega⟩
  rw [e]
  rw [strCells_st, st_size] at hown
  rw [List.length_append, List.length_cons, show (Lx.joinL (ws.take k)).length + (t.length + 1) = (Lx.joinL (ws.take k)).length + 1 + t.length by omega]
  have e2 : octs (Lx.joinL (ws.take k) ++ 32 :: t) = octs (Lx.joinL (ws.take k)) ++ [.int .u8 32] ++ octs t := by unfold octs; simp
  rw [e2]
  exact hown
end
theorem conv_octs {W : World} {B : Nat} {A : Option Addr} {d : Nat} {L : List UInt8} (h : W.ownsRow B 5 1 (.slice A L.length d) L.length (octs L)) : (convert 40 9 (.slice A L.length d)).run Tryd.prog W = .ok (.string (st L)) W := by
  obtain ⟨h1, h2, h3, h4, h5⟩ := own_parts h
  cases A with
  | none =>
    obtain ⟨e0, _⟩ := h1 rfl
    have eL : L = [] := List.length_eq_zero_iff.1 e0
    subst eL
    exact run_convert_bytes_nil W 40 5 Tryd.underlying40 Tryd.underlying5 _ _ 9 Tryd.underlying9
  | some ad =>
    obtain ⟨g, rfl⟩ := h4 ad rfl
    refine run_convert_bytes_back W 40 9 5 ⟨g, 0, none⟩ d L Tryd.underlying40 Tryd.underlying5 Tryd.underlying9 fun j hj => ?_
    rw [show (⟨g, 0, none⟩ : Addr).add j = ⟨g, j, none⟩ from (add_plain g 0 j).trans (by rw [Nat.zero_add])]
    refine own_cell h j _ ?_
    unfold octs
    rw [List.getElem?_map, List.getElem?_eq_getElem hj]
    rfl

set_option maxHeartbeats 4000000 in
set_option maxRecDepth 100000 in
theorem ref_Join {w : World} {v : Value} {ws : List Lx.Wd} (h : WsAt w v ws) (hl : ws.length ≤ 1000) (ht : ∀ x ∈ ws, x.text.length ≤ 1000) : Calls Tryd.prog 22 #[v] w fun e w' => e = .returned (.string (st (Lx.joinL ws))) ∧ Below w.heap.size w w' := by
  obtain ⟨A, c, rfl, hn, hA⟩ := h
  obtain ⟨i0, hi0, hz0, hz1, hz2⟩ := info_parts Tryd.infoB
  go_enter Tryd.func22, Tryd.ntmps22
  go_wp2_with fail
  go_loopg [3, 4] (ws.length + 1) (fun g t3 t4 wr => ∃ (k : Nat) (v : Value), t3 = v ∧ t4 = .int .i64 k ∧ k ≤ ws.length ∧ ws.length + 1 - k ≤ g ∧ RJ w wr ws k v)
  case atStart => exact ⟨0, _, rfl, rfl, by omega, by omega, World.ownsRow_nil _ _ _ _, Below.refl _ _, Nat.zero_le _⟩
  case round =>
    obtain ⟨k, v, rfl, rfl, hk, hg, hJ⟩ := hrel
    obtain ⟨B, d, rfl⟩ := own_form hJ.own
    have HJ := hid_ hJ
    have hbw := hJ.bel
    have hln := Nat.le_trans hJ.len (lim_le (by omega))
    clear hJ
    by_cases hlt : k < ws.length
    · have b0 : (0 : Int) ≤ (k : Int) := by omega
      have b1 : (k : Int) < (ws.length : Int) := by omega
      have htx := ht ws[k] (List.getElem_mem hlt)
      cases A with
      | none => have := hn rfl; subst this; simp at hlt
      | some a =>
        obtain ⟨b, off, n⟩ := a
        obtain ⟨rfl, hcx⟩ := hA b off n rfl
        have x0 : wr.cell? ⟨b, off + k * 4, none⟩ = some (.int .i64 ws[k].kind) := below_cell hbw (hcx k hlt 0 (by omega))
        have x1 : wr.cell? ⟨b, off + k * 4 + 1, none⟩ = some (.string (st ws[k].text)) := below_cell hbw (hcx k hlt 1 (by omega))
        have HP := hid_ (show Lx.part ws[k] = _ from rfl)
        clear hbw
        by_cases p7 : ws[k].kind = 7
        · have HN := hid_ (HP.out.trans (if_pos p7))
          go_wp2_with fail
          go_roundg (gk - 1)
          case rel => exact ⟨k + 1, _, rfl, by go_num, by omega, by omega, HJ.out.skip hlt HN.out (Below.refl _ _)⟩
          case measure => omega
        · have HN := hid_ (HP.out.trans (if_neg p7))
          by_cases p4 : ws[k].kind = 4
          · have HN2 := hid_ (HN.out.trans (if_pos p4))
            have q9 := quote_st ws[k].text
            have q8 : ¬ (9223372036854775807 < 1 + (st ws[k].text).size) := by rw [st_size]; omega
            have q0 := str_some (t := 39 :: ws[k].text) (by simp)
            have hsz9 : (st (39 :: ws[k].text)).size ≤ 1001 := by rw [st_size]; first | omega | (simp only [List.length_cons]; omega)
            have htl : (39 :: ws[k].text).length ≤ 1001 := by rw [← st_size]; exact hsz9
            have HTl := hid_ htl
            have HSz := hid_ HJ.out.bel.size
            clear htl
            by_cases hz : Lx.joinL (ws.take k) = []
            · have HFi := hid_ (fun w2 v2 => RJ.first (w2 := w2) (v2 := v2) HJ.out hlt HN2.out HTl.out hz)
              have HOw := hid_ HJ.out.own
              have z9 : (Lx.joinL (ws.take k)).length = 0 := by rw [hz]; rfl
              generalize hnn : (Lx.joinL (ws.take k)).length = nn at *
              have z0 : ¬ ((0 : Int) < (nn : Int)) := by omega
              have HZ9 := hid_ z9
              clear z9 hnn
              skip
              have HM := hid_ (show nn + (st (39 :: ws[k].text)).size ≤ maxLen by unfold maxLen; omega)
              have HM2 := hid_ (show nn + (st (39 :: ws[k].text)).size ≤ 140737488355328 by omega)
              clear hz
              go_wp2_with (first | (at_builtin; go_loud (refine wpList_append_own_string _ rfl (.tmp 41) (.tmp 42) 40 9 rfl w.heap.size 5 i0 Tryd.underlying40 Tryd.underlying9 hi0 hz0 hz1 hz2 (.slice B nn d) nn _ rfl HOw.out (st (39 :: ws[k].text)) rfl HM.out HM2.out HSz.out ?_); intro v2 w2 hown hgrow hnil; clear hnil) | fail)
              have HNx := hid_ (HFi.out _ _ hgrow hown)
              go_roundg (gk - 1)
              case rel => exact ⟨k + 1, _, rfl, by go_num, by omega, by omega, HNx.out⟩
              case measure => omega
            · have HOA := hid_ ((HJ.out.skipb ((Below.refl _ _).alloc (Nat.le_refl _) (.cells #[.int .u8 32] 5))))
              have HMo := hid_ (fun w1 w2 v1 v2 => RJ.more (w1 := w1) (w2 := w2) (v1 := v1) (v2 := v2) HOA.out hlt HN2.out HTl.out hz)
              have HOw := hid_ HOA.out.own
              have HBz := hid_ HOA.out.bel.size
              have z9 := List.length_pos_iff.2 hz
              generalize hnn : (Lx.joinL (ws.take k)).length = nn at *
              have z0 : (0 : Int) < (nn : Int) := by omega
              clear z9 hnn HOA
              skip
              have HM := hid_ (show nn + 1 + (st (39 :: ws[k].text)).size ≤ maxLen by unfold maxLen; omega)
              have HM2 := hid_ (show nn + 1 + (st (39 :: ws[k].text)).size ≤ 140737488355328 by omega)
              have HM3 := hid_ (show nn + 1 ≤ maxLen by unfold maxLen; omega)
              have HM4 := hid_ (show (nn + 1) * 1 ≤ 140737488355328 by omega)
              have HNw := hid_ (show ∀ ad, some (⟨wr.heap.size, 0, none⟩ : Addr) = some ad → ∀ (j : Nat) u, [Value.int .u8 32][j]? = some u → (wr.alloc (.cells #[.int .u8 32] 5)).cell? (ad.add j) = some u from fun ad had => by
                injection had with had
                subst had
                exact World.news_of_block (heap_alloc_new _ _))
              clear hz
              go_wp2_with (first | (at_builtin; (refine wpList_append_any rfl (.tmp 38) (.tmp 39) 40 rfl w.heap.size 5 i0 _ 1 1 Tryd.underlying40 hi0 hz0 hz1 hz2 rfl (by omega) (.slice B nn d) nn _ rfl HOw.out (some ⟨wr.heap.size, 0, none⟩) 1 1 [.int .u8 32] rfl rfl (fun h => by cases h) HNw.out (by simp [Value.oneCell']) HM3.out HM4.out HBz.out ?_); intro A1 c1 w1 hown1 hgrow1 hat; clear hat) | (at_builtin; go_loud (refine wpList_append_own_string _ rfl (.tmp 41) (.tmp 42) 40 9 rfl w.heap.size 5 i0 Tryd.underlying40 Tryd.underlying9 hi0 hz0 hz1 hz2 (.slice A1 (nn + 1) c1) (nn + 1) _ rfl hown1 (st (39 :: ws[k].text)) rfl HM.out HM2.out (Nat.le_trans HBz.out hgrow1.size) ?_); intro v2 w2 hown hgrow hnil; clear hnil) | fail)
              have HNx := hid_ (HMo.out _ _ _ _ hgrow1 hown1 hgrow hown)
              go_roundg (gk - 1)
              case rel => exact ⟨k + 1, _, rfl, by go_num, by omega, by omega, HNx.out⟩
              case measure => omega
          · have HN2 := hid_ (HN.out.trans (if_neg p4))
            by_cases pt : ws[k].text = []
            · have HN3 := hid_ (HN2.out.trans (if_pos pt))
              have q0 := str_none pt
              clear pt
              go_wp2_with fail
              go_roundg (gk - 1)
              case rel => exact ⟨k + 1, _, rfl, by go_num, by omega, by omega, HJ.out.skip hlt HN3.out (Below.refl _ _)⟩
              case measure => omega
            · have HN3 := hid_ (HN2.out.trans (if_neg pt))
              have q0 := str_some pt
              clear pt
              have hsz9 : (st (ws[k].text)).size ≤ 1001 := by rw [st_size]; first | omega | (simp only [List.length_cons]; omega)
              have htl : (ws[k].text).length ≤ 1001 := by rw [← st_size]; exact hsz9
              have HTl := hid_ htl
              have HSz := hid_ HJ.out.bel.size
              clear htl
              by_cases hz : Lx.joinL (ws.take k) = []
              · have HFi := hid_ (fun w2 v2 => RJ.first (w2 := w2) (v2 := v2) HJ.out hlt HN3.out HTl.out hz)
                have HOw := hid_ HJ.out.own
                have z9 : (Lx.joinL (ws.take k)).length = 0 := by rw [hz]; rfl
                generalize hnn : (Lx.joinL (ws.take k)).length = nn at *
                have z0 : ¬ ((0 : Int) < (nn : Int)) := by omega
                have HZ9 := hid_ z9
                clear z9 hnn
                skip
                have HM := hid_ (show nn + (st (ws[k].text)).size ≤ maxLen by unfold maxLen; omega)
                have HM2 := hid_ (show nn + (st (ws[k].text)).size ≤ 140737488355328 by omega)
                clear hz
                go_wp2_with (first | (at_builtin; go_loud (refine wpList_append_own_string _ rfl (.tmp 41) (.tmp 42) 40 9 rfl w.heap.size 5 i0 Tryd.underlying40 Tryd.underlying9 hi0 hz0 hz1 hz2 (.slice B nn d) nn _ rfl HOw.out (st (ws[k].text)) rfl HM.out HM2.out HSz.out ?_); intro v2 w2 hown hgrow hnil; clear hnil) | fail)
                have HNx := hid_ (HFi.out _ _ hgrow hown)
                go_roundg (gk - 1)
                case rel => exact ⟨k + 1, _, rfl, by go_num, by omega, by omega, HNx.out⟩
                case measure => omega
              · have HOA := hid_ ((HJ.out.skipb ((Below.refl _ _).alloc (Nat.le_refl _) (.cells #[.int .u8 32] 5))))
                have HMo := hid_ (fun w1 w2 v1 v2 => RJ.more (w1 := w1) (w2 := w2) (v1 := v1) (v2 := v2) HOA.out hlt HN3.out HTl.out hz)
                have HOw := hid_ HOA.out.own
                have HBz := hid_ HOA.out.bel.size
                have z9 := List.length_pos_iff.2 hz
                generalize hnn : (Lx.joinL (ws.take k)).length = nn at *
                have z0 : (0 : Int) < (nn : Int) := by omega
                clear z9 hnn HOA
                skip
                have HM := hid_ (show nn + 1 + (st (ws[k].text)).size ≤ maxLen by unfold maxLen; omega)
                have HM2 := hid_ (show nn + 1 + (st (ws[k].text)).size ≤ 140737488355328 by omega)
                have HM3 := hid_ (show nn + 1 ≤ maxLen by unfold maxLen; omega)
                have HM4 := hid_ (show (nn + 1) * 1 ≤ 140737488355328 by omega)
                have HNw := hid_ (show ∀ ad, some (⟨wr.heap.size, 0, none⟩ : Addr) = some ad → ∀ (j : Nat) u, [Value.int .u8 32][j]? = some u → (wr.alloc (.cells #[.int .u8 32] 5)).cell? (ad.add j) = some u from fun ad had => by
                  injection had with had
                  subst had
                  exact World.news_of_block (heap_alloc_new _ _))
                clear hz
                go_wp2_with (first | (at_builtin; (refine wpList_append_any rfl (.tmp 38) (.tmp 39) 40 rfl w.heap.size 5 i0 _ 1 1 Tryd.underlying40 hi0 hz0 hz1 hz2 rfl (by omega) (.slice B nn d) nn _ rfl HOw.out (some ⟨wr.heap.size, 0, none⟩) 1 1 [.int .u8 32] rfl rfl (fun h => by cases h) HNw.out (by simp [Value.oneCell']) HM3.out HM4.out HBz.out ?_); intro A1 c1 w1 hown1 hgrow1 hat; clear hat) | (at_builtin; go_loud (refine wpList_append_own_string _ rfl (.tmp 41) (.tmp 42) 40 9 rfl w.heap.size 5 i0 Tryd.underlying40 Tryd.underlying9 hi0 hz0 hz1 hz2 (.slice A1 (nn + 1) c1) (nn + 1) _ rfl hown1 (st (ws[k].text)) rfl HM.out HM2.out (Nat.le_trans HBz.out hgrow1.size) ?_); intro v2 w2 hown hgrow hnil; clear hnil) | fail)
                have HNx := hid_ (HMo.out _ _ _ _ hgrow1 hown1 hgrow hown)
                go_roundg (gk - 1)
                case rel => exact ⟨k + 1, _, rfl, by go_num, by omega, by omega, HNx.out⟩
                case measure => omega
    · have b1 : ¬ (k : Int) < (ws.length : Int) := by omega
      have hkl : k = ws.length := by omega
      subst hkl
      have hjo := HJ.out.own
      have hjn := hln
      rw [List.take_of_length_le (Nat.le_refl _)] at hjo hjn
      have HBl := hid_ HJ.out.bel
      have HO := hid_ hjo
      rw [List.take_of_length_le (Nat.le_refl _)]
      have qc := conv_octs hjo
      clear hjo hln
      go_wp2_with fail
      go_ret
      exact ⟨rfl, HBl.out⟩
end Go.Proofs.YtmpdobpnnejmmaaDoor
