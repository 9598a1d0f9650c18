/- Words joined: the program's Join. Conditions: those that each theorem names. -/
import Derived.Test.YtmpdobpnnejmmaaDoorRj
import Derived.Test.YtmpdobpnnejmmaaDoorShelf
import Derived.WalkMore
import Derived.Deep.LoopGhost
namespace Go.Proofs.YtmpdobpnnejmmaaDoor
open Go.RowKit Go.Maps

def Lx.part (x : Lx.Wd) : Option Lx.Bs := if x.kind = 7 then none else if x.kind = 4 then some (39 :: x.text) else if x.text = [] then none else some x.text
def Lx.parts (l : List Lx.Wd) : List Lx.Bs := l.filterMap Lx.part
def Lx.joinL (l : List Lx.Wd) : Lx.Bs := Lib.join (Lx.parts l) [32]
theorem Lx.parts_snoc (l : List Lx.Wd) (x : Lx.Wd) : Lx.parts (l ++ [x]) = Lx.parts l ++ (Lx.part x).toList := by
  unfold Lx.parts
  rw [List.filterMap_append]
  cases h : Lx.part x <;> simp [h]
theorem take_next {α : Type} (l : List α) {k : Nat} (h : k < l.length) : l.take (k + 1) = l.take k ++ [l[k]] := by
  rw [List.take_add_one, List.getElem?_eq_getElem h]
  rfl
theorem flat_at : ∀ (ws : List Lx.Wd) (j : Nat) (h : j < ws.length) (k : Nat), k < 4 → (flatW ws)[j * 4 + k]? = (cellW ws[j])[k]?
  | x :: ws, 0, _, k, hk => by
    show (cellW x ++ flatW ws)[0 * 4 + k]? = _
    rw [Nat.zero_mul, Nat.zero_add, List.getElem?_append_left (by show k < 4; exact hk)]
    rfl
  | x :: ws, j + 1, h, k, hk => by
    show (cellW x ++ flatW ws)[(j + 1) * 4 + k]? = _
    rw [List.getElem?_append_right (by show 4 ≤ _; omega), show (j + 1) * 4 + k - (cellW x).length = j * 4 + k from by show _ - 4 = _; omega]
    exact flat_at ws j (by simpa using h) k hk
theorem own_ws {w : World} {B : Nat} {v : Value} {ws : List Lx.Wd} (h : WsOwn w B v ws) : WsAt w v ws := by
  obtain ⟨A, c, rfl⟩ := own_form h
  refine ⟨A, c, rfl, fun e => ?_, fun b off n e => ?_⟩
  · subst e
    rcases h.2 with ⟨_, h0⟩ | ⟨g, cap, _, hv, _⟩
    · exact List.length_eq_zero_iff.1 h0
    · cases hv
  · subst e
    have hz : off = 0 ∧ n = none := by
      rcases h.2 with ⟨hv, _⟩ | ⟨g, cap, _, hv, _⟩
      · cases hv
      · injection hv with hv _ _
        injection hv with hv
        injection hv with _ h2 h3
        exact ⟨h2, h3⟩
    obtain ⟨rfl, rfl⟩ := hz
    refine ⟨rfl, fun j hj k hk => ?_⟩
    have e : (flatW ws)[j * 4 + k]? = (cellW ws[j])[k]? := flat_at ws j hj k hk
    rw [← e, Nat.zero_add]
    obtain ⟨u, hu⟩ : ∃ u, (flatW ws)[j * 4 + k]? = some u := by
      rw [e]
      exact ⟨(cellW ws[j])[k]'(by show k < 4; exact hk), List.getElem?_eq_getElem _⟩
    rw [hu]
    exact own_cell h _ _ hu

theorem Tryd.infoS : (Tryd.prog.info? 9).map (fun i => (i.zero, i.size, i.bytes)) = some (some (.string ⟨#[]⟩), 1, 16) := by kernel_rfl
def strs (l : List (List UInt8)) : List Value := l.map fun t => .string (st t)
theorem strs_snoc (l : List (List UInt8)) (t : List UInt8) : strs l ++ [.string (st t)] = strs (l ++ [t]) := by unfold strs; rw [List.map_append]; rfl
theorem parts_le (l : List Lx.Wd) : (Lx.parts l).length ≤ l.length := List.length_filterMap_le _ _
theorem quote_st (t : List UInt8) : (⟨#[39]⟩ : ByteArray) ++ st t = st (39 :: t) := by
  apply bl_inj
  rw [bl_st]
  show (ByteArray.append _ _).data.toList = _
  simp [ByteArray.append, st]
theorem str_none {t : List UInt8} (h : t = []) : (st t).toList.isEmpty = true := by rw [ByteArray.toList_eq, show (st t).data.toList = t from bl_st t, h]; rfl
theorem str_some {t : List UInt8} (h : t ≠ []) : (st t).toList.isEmpty = false := by
  rw [ByteArray.toList_eq, show (st t).data.toList = t from bl_st t]
  cases t with
  | nil => exact absurd rfl h
  | cons _ _ => rfl
/-- The loop of Join. -/
structure JR (w wr : World) (ws : List Lx.Wd) (k : Nat) (v : Value) : Prop where
  own : wr.ownsRow w.heap.size 9 1 v (Lx.parts (ws.take k)).length (strs (Lx.parts (ws.take k)))
  bel : Below w.heap.size w wr
theorem JR.skip {w wr : World} {ws : List Lx.Wd} {k : Nat} {v : Value} (h : JR w wr ws k v) (hk : k < ws.length) (hp : Lx.part ws[k] = none) {w2 : World} (hb : Below wr.heap.size wr w2) : JR w w2 ws (k + 1) v := by
  have e : Lx.parts (ws.take (k + 1)) = Lx.parts (ws.take k) := by rw [take_next ws hk, Lx.parts_snoc, hp]; simp
  refine ⟨?_, h.bel.trans (hb.mono h.bel.size)⟩
  rw [e]
  exact own_kp h.own (Kp.of_below hb fun _ => False) (fun _ _ h => h)
theorem JR.add {w wr : World} {ws : List Lx.Wd} {k : Nat} {v v' : Value} {t : List UInt8} (h : JR w wr ws k v) (hk : k < ws.length) (hp : Lx.part ws[k] = some t) {w2 : World} (hg : wr.grownBy w2 v.ownBlock) (hown : w2.ownsRow w.heap.size 9 1 v' ((Lx.parts (ws.take k)).length + 1) (strs (Lx.parts (ws.take k)) ++ [.string (st t)])) : JR w w2 ws (k + 1) v' := by
  have e : Lx.parts (ws.take (k + 1)) = Lx.parts (ws.take k) ++ [t] := by rw [take_next ws hk, Lx.parts_snoc, hp]; rfl
  refine ⟨?_, h.bel.trans (((Kp.refl (fun q => w.heap.size ≤ q) _).grown hg (fun k hk => .inl (own_base h.own hk))).toBelow h.bel.size (fun q hq e => by omega))⟩
  rw [e, List.length_append, ← strs_snoc]
  exact hown
theorem JR.below {w wr : World} {ws : List Lx.Wd} {k : Nat} {v : Value} (h : JR w wr ws k v) {w2 : World} (hb : Below wr.heap.size wr w2) : JR w w2 ws k v :=
  ⟨own_kp h.own (Kp.of_below hb fun _ => False) (fun _ _ h => h), h.bel.trans (hb.mono h.bel.size)⟩

theorem lens_le : ∀ L : List (List UInt8), (∀ t ∈ L, t.length ≤ 1001) → Lib.lens L ≤ L.length * 1001
  | [], _ => by simp [Lib.lens]
  | x :: L, h => by
    have h1 := lens_le L (fun t ht => h t (List.mem_cons_of_mem _ ht))
    have h2 := h x List.mem_cons_self
    simp only [Lib.lens, List.map_cons, List.sum_cons, List.length_cons] at h1 ⊢
    omega
theorem join_strs {W : World} {B : Nat} {v : Value} {L : List (List UInt8)} (h : W.ownsRow B 9 1 v L.length (strs L)) (hl : L.length ≤ 1000) (ht : ∀ t ∈ L, t.length ≤ 1001) :
    Calls Tryd.prog 43 #[v, .string ⟨#[32]⟩] W fun e w' => e = .returned (.string (st (Lib.join L [32]))) ∧ Below W.heap.size W w' := by
  obtain ⟨A, c, rfl⟩ := own_form h
  obtain ⟨h1, h2, h3, h4, h5⟩ := own_parts h
  cases A with
  | none =>
    obtain ⟨e0, _⟩ := h1 rfl
    have eL : L = [] := List.length_eq_zero_iff.1 e0
    subst eL
    refine (Tryd.strings_Join_none none c ⟨#[32]⟩ W).mono ?_
    rintro e w' ⟨rfl, rfl⟩
    exact ⟨rfl, Below.refl _ _⟩
  | some ad =>
    obtain ⟨g, rfl⟩ := h4 ad rfl
    have em : ((L.map st).map (·.data.toList)) = L := by
      rw [List.map_map]
      exact (List.map_congr_left (fun t _ => bl_st t)).trans (List.map_id _)
    have hb : (Lib.join L [32]).length ≤ 140737488355328 := by
      cases L with
      | nil => simp [Lib.join_nil]
      | cons x r =>
        rw [Lib.join_length]
        have := lens_le (x :: r) ht
        simp only [List.length_cons, List.length_nil] at this hl ⊢
        omega
    have := Tryd.strings_Join g 0 c (L.map st) ⟨#[32]⟩ W (fun j x hx => by
      rw [Nat.zero_add]
      refine own_cell h j _ ?_
      unfold strs
      rw [List.getElem?_map] at hx ⊢
      cases hj : L[j]? with
      | none => rw [hj] at hx; cases hx
      | some t => rw [hj] at hx; injection hx with hx; rw [← hx]; rfl) (h5 g rfl) (by rw [List.length_map]; omega) (by rw [List.length_map]; exact h2) (by rw [em]; exact hb)
    rw [List.length_map, em] at this
    exact this
theorem part_le {x : Lx.Wd} {t : List UInt8} (h : Lx.part x = some t) : t.length ≤ x.text.length + 1 := by
  unfold Lx.part at h
  split at h
  · cases h
  · split at h
    · injection h with h; subst h; simp
    · split at h
      · cases h
      · injection h with h; subst h; omega

set_option maxHeartbeats 4000000 in
set_option maxRecDepth 100000 in
theorem lex_Join {w : World} {v : Value} {ws : List Lx.Wd} (h : WsAt w v ws) (hl : ws.length ≤ 1000) (ht : ∀ x ∈ ws, x.text.length ≤ 1000) : Calls Tryd.prog 21 #[v] w fun e w' => e = .returned (.string (st (Lx.joinL ws))) ∧ Below w.heap.size w w' := by
  obtain ⟨A, c, rfl, hn, hA⟩ := h
  obtain ⟨i0, hi0, hz0, hz1, hz2⟩ := info_parts Tryd.infoS
  go_enter Tryd.func21, Tryd.ntmps21
  go_wp2_with fail
  go_loopg [3, 8] (ws.length + 1) (fun g t3 t8 wr => ∃ (k : Nat) (v : Value), t3 = v ∧ t8 = .int .i64 k ∧ k ≤ ws.length ∧ ws.length + 1 - k ≤ g ∧ JR w wr ws k v)
  case atStart => exact ⟨0, _, rfl, rfl, by omega, by omega, World.ownsRow_nil _ _ _ _, Below.refl _ _⟩
  case round =>
    obtain ⟨k, v, rfl, rfl, hk, hg, hJ⟩ := hrel
    obtain ⟨B, d, rfl⟩ := own_form hJ.own
    have HJ := hid_ hJ
    have hbw := hJ.bel
    have hpl := parts_le (ws.take k)
    rw [List.length_take] at hpl
    clear hJ
    by_cases hlt : k < ws.length
    · have b0 : (0 : Int) ≤ (k : Int) := by omega
      have b1 : (k : Int) < (ws.length : Int) := by omega
      have htx := ht ws[k] (List.getElem_mem hlt)
      cases A with
      | none => have := hn rfl; subst this; simp at hlt
      | some a =>
        obtain ⟨b, off, n⟩ := a
        obtain ⟨rfl, hcx⟩ := hA b off n rfl
        have x0 : wr.cell? ⟨b, off + k * 4, none⟩ = some (.int .i64 ws[k].kind) := below_cell hbw (hcx k hlt 0 (by omega))
        have x1 : wr.cell? ⟨b, off + k * 4 + 1, none⟩ = some (.string (st ws[k].text)) := below_cell hbw (hcx k hlt 1 (by omega))
        have x2 : wr.cell? ⟨b, off + k * 4 + 2, none⟩ = some (.int .i64 ws[k].num) := below_cell hbw (hcx k hlt 2 (by omega))
        have x3 : wr.cell? ⟨b, off + k * 4 + 3, none⟩ = some (.int .i64 ws[k].pos) := below_cell hbw (hcx k hlt 3 (by omega))
        have HP := hid_ (show Lx.part ws[k] = _ from rfl)
        have hkf : ((Lx.parts (ws.take k)).length + 1) * 16 ≤ 140737488355328 := by omega
        have HM := hid_ (show (Lx.parts (ws.take k)).length + 1 ≤ maxLen by unfold maxLen; omega)
        clear hbw
        by_cases p7 : ws[k].kind = 7
        · have HN := hid_ (HP.out.trans (if_pos p7))
          go_wp2_with fail
          go_roundg (gk - 1)
          case rel => exact ⟨k + 1, _, rfl, by go_num, by omega, by omega, HJ.out.skip hlt HN.out ((Below.refl _ _).alloc (Nat.le_refl _) _)⟩
          case measure => omega
        · have HN := hid_ (HP.out.trans (if_neg p7))
          by_cases p4 : ws[k].kind = 4
          · have HN2 := hid_ (HN.out.trans (if_pos p4))
            have q9 := quote_st ws[k].text
            have q8 : ¬ (9223372036854775807 < 1 + (st ws[k].text).size) := by rw [st_size]; omega
            obtain ⟨W, hW⟩ : ∃ W, W = (wr.alloc (.cells #[.int .i64 4, .string (st ws[k].text), .int .i64 ws[k].num, .int .i64 ws[k].pos] 30)).alloc (.cells #[.string (st (39 :: ws[k].text))] 9) := ⟨_, rfl⟩
            have hW2 : Below wr.heap.size wr W := by rw [hW]; exact ((Below.refl _ _).alloc (Nat.le_refl _) _).alloc (by simp) _
            have HWW := hid_ (HJ.out.below hW2)
            have HSz := hid_ HWW.out.bel.size
            have HNw := hid_ (show ∀ ad, some (⟨wr.heap.size + 1, 0, none⟩ : Addr) = some ad → ∀ (j : Nat) u, [Value.string (st (39 :: ws[k].text))][j]? = some u → W.cell? (ad.add j) = some u from fun ad had => by
              injection had with had
              subst had
              rw [hW]
              have := World.news_of_block (heap_alloc_new (wr.alloc (.cells #[.int .i64 4, .string (st ws[k].text), .int .i64 ws[k].num, .int .i64 ws[k].pos] 30)) (.cells #[.string (st (39 :: ws[k].text))] 9))
              simpa using this)
            rw [hW] at HNw HWW HSz
            clear hW hW2
            go_wp2_with (first | (at_builtin; go_loud (refine wpList_append_any rfl (.tmp 20) (.tmp 24) 37 rfl w.heap.size 9 i0 _ 1 16 Tryd.underlying37 hi0 hz0 hz1 hz2 rfl (by omega) (.slice B (Lx.parts (ws.take k)).length d) (Lx.parts (ws.take k)).length _ rfl HWW.out.own (some ⟨wr.heap.size + 1, 0, none⟩) 1 1 [.string (st (39 :: ws[k].text))] rfl rfl (fun h => by cases h) HNw.out (by simp [Value.oneCell']) HM.out (by omega) HSz.out ?_); intro A1 c1 w1 hown hgrow hat; clear hat) | fail)
            have HNx := hid_ (HWW.out.add hlt HN2.out hgrow hown)
            go_roundg (gk - 1)
            case rel => exact ⟨k + 1, _, rfl, by go_num, by omega, by omega, HNx.out⟩
            case measure => omega
          · have HN2 := hid_ (HN.out.trans (if_neg p4))
            by_cases pt : ws[k].text = []
            · have HN3 := hid_ (HN2.out.trans (if_pos pt))
              have q0 := str_none pt
              clear pt
              go_wp2_with fail
              go_roundg (gk - 1)
              case rel => exact ⟨k + 1, _, rfl, by go_num, by omega, by omega, HJ.out.skip hlt HN3.out ((Below.refl _ _).alloc (Nat.le_refl _) _)⟩
              case measure => omega
            · have HN3 := hid_ (HN2.out.trans (if_neg pt))
              have q0 := str_some pt
              clear pt
              obtain ⟨W, hW⟩ : ∃ W, W = (wr.alloc (.cells #[.int .i64 ws[k].kind, .string (st ws[k].text), .int .i64 ws[k].num, .int .i64 ws[k].pos] 30)).alloc (.cells #[.string (st (ws[k].text))] 9) := ⟨_, rfl⟩
              have hW2 : Below wr.heap.size wr W := by rw [hW]; exact ((Below.refl _ _).alloc (Nat.le_refl _) _).alloc (by simp) _
              have HWW := hid_ (HJ.out.below hW2)
              have HSz := hid_ HWW.out.bel.size
              have HNw := hid_ (show ∀ ad, some (⟨wr.heap.size + 1, 0, none⟩ : Addr) = some ad → ∀ (j : Nat) u, [Value.string (st (ws[k].text))][j]? = some u → W.cell? (ad.add j) = some u from fun ad had => by
                injection had with had
                subst had
                rw [hW]
                have := World.news_of_block (heap_alloc_new (wr.alloc (.cells #[.int .i64 ws[k].kind, .string (st ws[k].text), .int .i64 ws[k].num, .int .i64 ws[k].pos] 30)) (.cells #[.string (st (ws[k].text))] 9))
                simpa using this)
              rw [hW] at HNw HWW HSz
              clear hW hW2
              go_wp2_with (first | (at_builtin; go_loud (refine wpList_append_any rfl (.tmp 30) (.tmp 33) 37 rfl w.heap.size 9 i0 _ 1 16 Tryd.underlying37 hi0 hz0 hz1 hz2 rfl (by omega) (.slice B (Lx.parts (ws.take k)).length d) (Lx.parts (ws.take k)).length _ rfl HWW.out.own (some ⟨wr.heap.size + 1, 0, none⟩) 1 1 [.string (st (ws[k].text))] rfl rfl (fun h => by cases h) HNw.out (by simp [Value.oneCell']) HM.out (by omega) HSz.out ?_); intro A1 c1 w1 hown hgrow hat; clear hat) | fail)
              have HNx := hid_ (HWW.out.add hlt HN3.out hgrow hown)
              go_roundg (gk - 1)
              case rel => exact ⟨k + 1, _, rfl, by go_num, by omega, by omega, HNx.out⟩
              case measure => omega
    · have b1 : ¬ (k : Int) < (ws.length : Int) := by omega
      have hkl : k = ws.length := by omega
      subst hkl
      have hjo := HJ.out.own
      rw [List.take_of_length_le (Nat.le_refl _)] at hjo hpl
      have HO := hid_ hjo
      have HBl := hid_ HJ.out.bel
      have HJn := hid_ (join_strs hjo (by omega) (fun t htm => by
        obtain ⟨x, hx, hp⟩ := List.mem_filterMap.1 htm
        have := part_le hp
        have := ht x hx
        omega))
      rw [List.take_of_length_le (Nat.le_refl _)]
      clear hjo
      go_wp2_with fail
      refine HJn.out.mono ?_
      rintro e w2 ⟨rfl, hb2⟩
      have HB2 := hid_ hb2
      clear hb2
      go_wp2_with fail
      go_ret
      exact ⟨rfl, HBl.out.trans (HB2.out.mono HBl.out.size)⟩
end Go.Proofs.YtmpdobpnnejmmaaDoor
