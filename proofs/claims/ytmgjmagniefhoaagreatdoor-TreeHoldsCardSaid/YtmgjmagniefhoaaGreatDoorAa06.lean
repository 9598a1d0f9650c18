/- What stands in these texts of the proof: Ja Gd Wu. Conditions: those that each theorem names. -/
import Derived.Test.YtmgjmagniefhoaaGreatDoorAa05
import Derived.Test.YtmgjmagniefhoaaGreatDoorAa02
import Derived.WalkMore
import Derived.Deep.LoopGhost
import Derived.Test.YtmgjmagniefhoaaGreatDoorAa04
/- Words joined: the program's Join. Conditions: those that each theorem names. -/
namespace Go.Proofs.YtmgjmagniefhoaaGreatDoor
open Go.RowKit Go.Maps

def Lx.part (x : Lx.Wd) : Option Lx.Bs := if x.kind = 7 then none else if x.kind = 4 then some (39 :: x.text) else if x.text = [] then none else some x.text
def Lx.parts (l : List Lx.Wd) : List Lx.Bs := l.filterMap Lx.part
def Lx.joinL (l : List Lx.Wd) : Lx.Bs := Lib.join (Lx.parts l) [32]
theorem Lx.parts_snoc (l : List Lx.Wd) (x : Lx.Wd) : Lx.parts (l ++ [x]) = Lx.parts l ++ (Lx.part x).toList := by
  unfold Lx.parts
  rw [List.filterMap_append]
  cases h : Lx.part x <;> simp [h]
theorem take_next {α : Type} (l : List α) {k : Nat} (h : k < l.length) : l.take (k + 1) = l.take k ++ [l[k]] := by
  rw [List.take_add_one, List.getElem?_eq_getElem h]
  rfl
theorem flat_at : ∀ (ws : List Lx.Wd) (j : Nat) (h : j < ws.length) (k : Nat), k < 4 → (flatW ws)[j * 4 + k]? = (cellW ws[j])[k]?
  | x :: ws, 0, _, k, hk => by
    show (cellW x ++ flatW ws)[0 * 4 + k]? = _
    rw [Nat.zero_mul, Nat.zero_add, List.getElem?_append_left (by show k < 4; exact hk)]
    rfl
  | x :: ws, j + 1, h, k, hk => by
    show (cellW x ++ flatW ws)[(j + 1) * 4 + k]? = _
    rw [List.getElem?_append_right (by show 4 ≤ _; omega), show (j + 1) * 4 + k - (cellW x).length = j * 4 + k from by show _ - 4 = _; omega]
    exact flat_at ws j (by simpa using h) k hk
theorem own_ws {w : World} {B : Nat} {v : Value} {ws : List Lx.Wd} (h : WsOwn w B v ws) : WsAt w v ws := by
  obtain ⟨A, c, rfl⟩ := own_form h
  refine ⟨A, c, rfl, fun e => ?_, fun b off n e => ?_⟩
  · subst e
    rcases h.2 with ⟨_, h0⟩ | ⟨g, cap, _, hv, _⟩
    · exact List.length_eq_zero_iff.1 h0
    · cases hv
  · subst e
    have hz : off = 0 ∧ n = none := by
      rcases h.2 with ⟨hv, _⟩ | ⟨g, cap, _, hv, _⟩
      · cases hv
      · injection hv with hv _ _
        injection hv with hv
        injection hv with _ h2 h3
        exact ⟨h2, h3⟩
    obtain ⟨rfl, rfl⟩ := hz
    refine ⟨rfl, fun j hj k hk => ?_⟩
    have e : (flatW ws)[j * 4 + k]? = (cellW ws[j])[k]? := flat_at ws j hj k hk
    rw [← e, Nat.zero_add]
    obtain ⟨u, hu⟩ : ∃ u, (flatW ws)[j * 4 + k]? = some u := by
      rw [e]
      exact ⟨(cellW ws[j])[k]'(by show k < 4; exact hk), List.getElem?_eq_getElem _⟩
    rw [hu]
    exact own_cell h _ _ hu

theorem own_none {w : World} {base : Nat} {e : TypeId} {size n d : Nat} {B : Option Addr} {xs : List Value} (h : w.ownsRow base e size (.slice B n d) n xs) : B = none → n = 0 ∧ d = 0 := by
  rintro rfl
  rcases h.2 with ⟨hv, h0⟩ | ⟨g, cap, _, hv, _⟩
  · injection hv with _ _ h3
    exact ⟨h0, h3⟩
  · cases hv
theorem own_news {w : World} {base : Nat} {e : TypeId} {size n d : Nat} {B : Option Addr} {xs : List Value} (h : w.ownsRow base e size (.slice B n d) n xs) : ∀ ad, B = some ad → ∀ j u, xs[j]? = some u → w.cell? (ad.add j) = some u := by
  rintro ad rfl j u hu
  rcases h.2 with ⟨hv, _⟩ | ⟨g, cap, _, hv, _⟩
  · cases hv
  · injection hv with hv _ _
    injection hv with hv
    subst hv
    rw [add_at]
    exact own_cell h j u hu
theorem Tryz.infoS : (Tryz.prog.info? 9).map (fun i => (i.zero, i.size, i.bytes)) = some (some (.string ⟨#[]⟩), 1, 16) := by kernel_rfl
def strs (l : List (List UInt8)) : List Value := l.map fun t => .string (st t)
theorem strs_snoc (l : List (List UInt8)) (t : List UInt8) : strs l ++ [.string (st t)] = strs (l ++ [t]) := by unfold strs; rw [List.map_append]; rfl
theorem parts_le (l : List Lx.Wd) : (Lx.parts l).length ≤ l.length := List.length_filterMap_le _ _
theorem quote_st (t : List UInt8) : (⟨#[39]⟩ : ByteArray) ++ st t = st (39 :: t) := by
  apply bl_inj
  rw [bl_st]
  show (ByteArray.append _ _).data.toList = _
  simp [ByteArray.append, st]
theorem str_none {t : List UInt8} (h : t = []) : (st t).toList.isEmpty = true := by rw [ByteArray.toList_eq, show (st t).data.toList = t from bl_st t, h]; rfl
theorem str_some {t : List UInt8} (h : t ≠ []) : (st t).toList.isEmpty = false := by
  rw [ByteArray.toList_eq, show (st t).data.toList = t from bl_st t]
  cases t with
  | nil => exact absurd rfl h
  | cons _ _ => rfl
/-- The loop of Join. -/
structure JR (w wr : World) (ws : List Lx.Wd) (k : Nat) (v : Value) : Prop where
  own : wr.ownsRow w.heap.size 9 1 v (Lx.parts (ws.take k)).length (strs (Lx.parts (ws.take k)))
  bel : Below w.heap.size w wr
theorem JR.skip {w wr : World} {ws : List Lx.Wd} {k : Nat} {v : Value} (h : JR w wr ws k v) (hk : k < ws.length) (hp : Lx.part ws[k] = none) {w2 : World} (hb : Below wr.heap.size wr w2) : JR w w2 ws (k + 1) v := by
  have e : Lx.parts (ws.take (k + 1)) = Lx.parts (ws.take k) := by rw [take_next ws hk, Lx.parts_snoc, hp]; simp
  refine ⟨?_, h.bel.trans (hb.mono h.bel.size)⟩
  rw [e]
  exact own_kp h.own (Kp.of_below hb fun _ => False) (fun _ _ h => h)
theorem JR.add {w wr : World} {ws : List Lx.Wd} {k : Nat} {v v' : Value} {t : List UInt8} (h : JR w wr ws k v) (hk : k < ws.length) (hp : Lx.part ws[k] = some t) {w2 : World} (hg : wr.grownBy w2 v.ownBlock) (hown : w2.ownsRow w.heap.size 9 1 v' ((Lx.parts (ws.take k)).length + 1) (strs (Lx.parts (ws.take k)) ++ [.string (st t)])) : JR w w2 ws (k + 1) v' := by
  have e : Lx.parts (ws.take (k + 1)) = Lx.parts (ws.take k) ++ [t] := by rw [take_next ws hk, Lx.parts_snoc, hp]; rfl
  refine ⟨?_, h.bel.trans (((Kp.refl (fun q => w.heap.size ≤ q) _).grown hg (fun k hk => .inl (own_base h.own hk))).toBelow h.bel.size (fun q hq e => by omega))⟩
  rw [e, List.length_append, ← strs_snoc]
  exact hown
theorem JR.below {w wr : World} {ws : List Lx.Wd} {k : Nat} {v : Value} (h : JR w wr ws k v) {w2 : World} (hb : Below wr.heap.size wr w2) : JR w w2 ws k v :=
  ⟨own_kp h.own (Kp.of_below hb fun _ => False) (fun _ _ h => h), h.bel.trans (hb.mono h.bel.size)⟩

theorem lens_le : ∀ L : List (List UInt8), (∀ t ∈ L, t.length ≤ 1001) → Lib.lens L ≤ L.length * 1001
  | [], _ => by simp [Lib.lens]
  | x :: L, h => by
    have h1 := lens_le L (fun t ht => h t (List.mem_cons_of_mem _ ht))
    have h2 := h x List.mem_cons_self
    simp only [Lib.lens, List.map_cons, List.sum_cons, List.length_cons] at h1 ⊢
    omega
theorem join_strs {W : World} {B : Nat} {v : Value} {L : List (List UInt8)} (h : W.ownsRow B 9 1 v L.length (strs L)) (hl : L.length ≤ 1000) (ht : ∀ t ∈ L, t.length ≤ 1001) :
    Calls Tryz.prog 60 #[v, .string ⟨#[32]⟩] W fun e w' => e = .returned (.string (st (Lib.join L [32]))) ∧ Below W.heap.size W w' := by
  obtain ⟨A, c, rfl⟩ := own_form h
  obtain ⟨h1, h2, h3, h4, h5⟩ := own_parts h
  cases A with
  | none =>
    obtain ⟨e0, _⟩ := h1 rfl
    have eL : L = [] := List.length_eq_zero_iff.1 e0
    subst eL
    refine (Tryz.strings_Join_none none c ⟨#[32]⟩ W).mono ?_
    rintro e w' ⟨rfl, rfl⟩
    exact ⟨rfl, Below.refl _ _⟩
  | some ad =>
    obtain ⟨g, rfl⟩ := h4 ad rfl
    have em : ((L.map st).map (·.data.toList)) = L := by
      rw [List.map_map]
      exact (List.map_congr_left (fun t _ => bl_st t)).trans (List.map_id _)
    have hb : (Lib.join L [32]).length ≤ 140737488355328 := by
      cases L with
      | nil => simp [Lib.join_nil]
      | cons x r =>
        rw [Lib.join_length]
        have := lens_le (x :: r) ht
        simp only [List.length_cons, List.length_nil] at this hl ⊢
        omega
    have := Tryz.strings_Join g 0 c (L.map st) ⟨#[32]⟩ W (fun j x hx => by
      rw [Nat.zero_add]
      refine own_cell h j _ ?_
      unfold strs
      rw [List.getElem?_map] at hx ⊢
      cases hj : L[j]? with
      | none => rw [hj] at hx; cases hx
      | some t => rw [hj] at hx; injection hx with hx; rw [← hx]; rfl) (h5 g rfl) (by rw [List.length_map]; omega) (by rw [List.length_map]; exact h2) (by rw [em]; exact hb)
    rw [List.length_map, em] at this
    exact this
theorem part_le {x : Lx.Wd} {t : List UInt8} (h : Lx.part x = some t) : t.length ≤ x.text.length + 1 := by
  unfold Lx.part at h
  split at h
  · cases h
  · split at h
    · injection h with h; subst h; simp
    · split at h
      · cases h
      · injection h with h; subst h; omega

set_option maxHeartbeats 4000000 in
set_option maxRecDepth 100000 in
theorem lex_Join {w : World} {v : Value} {ws : List Lx.Wd} (h : WsAt w v ws) (hl : ws.length ≤ 1000) (ht : ∀ x ∈ ws, x.text.length ≤ 1000) : Calls Tryz.prog 26 #[v] w fun e w' => e = .returned (.string (st (Lx.joinL ws))) ∧ Below w.heap.size w w' := by
  obtain ⟨A, c, rfl, hn, hA⟩ := h
  obtain ⟨i0, hi0, hz0, hz1, hz2⟩ := info_parts Tryz.infoS
  go_enter Tryz.func26, Tryz.ntmps26
  go_wp2_with fail
  go_loopg [3, 8] (ws.length + 1) (fun g t3 t8 wr => ∃ (k : Nat) (v : Value), t3 = v ∧ t8 = .int .i64 k ∧ k ≤ ws.length ∧ ws.length + 1 - k ≤ g ∧ JR w wr ws k v)
  case atStart => exact ⟨0, _, rfl, rfl, by omega, by omega, World.ownsRow_nil _ _ _ _, Below.refl _ _⟩
  case round =>
    obtain ⟨k, v, rfl, rfl, hk, hg, hJ⟩ := hrel
    obtain ⟨B, d, rfl⟩ := own_form hJ.own
    have HJ := hid_ hJ
    have hbw := hJ.bel
    have hpl := parts_le (ws.take k)
    rw [List.length_take] at hpl
    clear hJ
    by_cases hlt : k < ws.length
    · have b0 : (0 : Int) ≤ (k : Int) := by omega
      have b1 : (k : Int) < (ws.length : Int) := by omega
      have htx := ht ws[k] (List.getElem_mem hlt)
      cases A with
      | none => have := hn rfl; subst this; simp at hlt
      | some a =>
        obtain ⟨b, off, n⟩ := a
        obtain ⟨rfl, hcx⟩ := hA b off n rfl
        have x0 : wr.cell? ⟨b, off + k * 4, none⟩ = some (.int .i64 ws[k].kind) := below_cell hbw (hcx k hlt 0 (by omega))
        have x1 : wr.cell? ⟨b, off + k * 4 + 1, none⟩ = some (.string (st ws[k].text)) := below_cell hbw (hcx k hlt 1 (by omega))
        have x2 : wr.cell? ⟨b, off + k * 4 + 2, none⟩ = some (.int .i64 ws[k].num) := below_cell hbw (hcx k hlt 2 (by omega))
        have x3 : wr.cell? ⟨b, off + k * 4 + 3, none⟩ = some (.int .i64 ws[k].pos) := below_cell hbw (hcx k hlt 3 (by omega))
        have HP := hid_ (show Lx.part ws[k] = _ from rfl)
        have hkf : ((Lx.parts (ws.take k)).length + 1) * 16 ≤ 140737488355328 := by omega
        have HM := hid_ (show (Lx.parts (ws.take k)).length + 1 ≤ maxLen by unfold maxLen; omega)
        clear hbw
        by_cases p7 : ws[k].kind = 7
        · have HN := hid_ (HP.out.trans (if_pos p7))
          go_wp2_with fail
          go_roundg (gk - 1)
          case rel => exact ⟨k + 1, _, rfl, by go_num, by omega, by omega, HJ.out.skip hlt HN.out ((Below.refl _ _).alloc (Nat.le_refl _) _)⟩
          case measure => omega
        · have HN := hid_ (HP.out.trans (if_neg p7))
          by_cases p4 : ws[k].kind = 4
          · have HN2 := hid_ (HN.out.trans (if_pos p4))
            have q9 := quote_st ws[k].text
            have q8 : ¬ (9223372036854775807 < 1 + (st ws[k].text).size) := by rw [st_size]; omega
            obtain ⟨W, hW⟩ : ∃ W, W = (wr.alloc (.cells #[.int .i64 4, .string (st ws[k].text), .int .i64 ws[k].num, .int .i64 ws[k].pos] 88)).alloc (.cells #[.string (st (39 :: ws[k].text))] 9) := ⟨_, rfl⟩
            have hW2 : Below wr.heap.size wr W := by rw [hW]; exact ((Below.refl _ _).alloc (Nat.le_refl _) _).alloc (by simp) _
            have HWW := hid_ (HJ.out.below hW2)
            have HSz := hid_ HWW.out.bel.size
            have HNw := hid_ (show ∀ ad, some (⟨wr.heap.size + 1, 0, none⟩ : Addr) = some ad → ∀ (j : Nat) u, [Value.string (st (39 :: ws[k].text))][j]? = some u → W.cell? (ad.add j) = some u from fun ad had => by
              injection had with had
              subst had
              rw [hW]
              have := World.news_of_block (heap_alloc_new (wr.alloc (.cells #[.int .i64 4, .string (st ws[k].text), .int .i64 ws[k].num, .int .i64 ws[k].pos] 88)) (.cells #[.string (st (39 :: ws[k].text))] 9))
              simpa using this)
            rw [hW] at HNw HWW HSz
            clear hW hW2
            go_wp2_with (first | (at_builtin; go_loud (refine wpList_append_any rfl (.tmp 20) (.tmp 24) 26 rfl w.heap.size 9 i0 _ 1 16 Tryz.underlying26 hi0 hz0 hz1 hz2 rfl (by omega) (.slice B (Lx.parts (ws.take k)).length d) (Lx.parts (ws.take k)).length _ rfl HWW.out.own (some ⟨wr.heap.size + 1, 0, none⟩) 1 1 [.string (st (39 :: ws[k].text))] rfl rfl (fun h => by cases h) HNw.out (by simp [Value.oneCell']) HM.out (by omega) HSz.out ?_); intro A1 c1 w1 hown hgrow hat; clear hat) | fail)
            have HNx := hid_ (HWW.out.add hlt HN2.out hgrow hown)
            go_roundg (gk - 1)
            case rel => exact ⟨k + 1, _, rfl, by go_num, by omega, by omega, HNx.out⟩
            case measure => omega
          · have HN2 := hid_ (HN.out.trans (if_neg p4))
            by_cases pt : ws[k].text = []
            · have HN3 := hid_ (HN2.out.trans (if_pos pt))
              have q0 := str_none pt
              clear pt
              go_wp2_with fail
              go_roundg (gk - 1)
              case rel => exact ⟨k + 1, _, rfl, by go_num, by omega, by omega, HJ.out.skip hlt HN3.out ((Below.refl _ _).alloc (Nat.le_refl _) _)⟩
              case measure => omega
            · have HN3 := hid_ (HN2.out.trans (if_neg pt))
              have q0 := str_some pt
              clear pt
              obtain ⟨W, hW⟩ : ∃ W, W = (wr.alloc (.cells #[.int .i64 ws[k].kind, .string (st ws[k].text), .int .i64 ws[k].num, .int .i64 ws[k].pos] 88)).alloc (.cells #[.string (st (ws[k].text))] 9) := ⟨_, rfl⟩
              have hW2 : Below wr.heap.size wr W := by rw [hW]; exact ((Below.refl _ _).alloc (Nat.le_refl _) _).alloc (by simp) _
              have HWW := hid_ (HJ.out.below hW2)
              have HSz := hid_ HWW.out.bel.size
              have HNw := hid_ (show ∀ ad, some (⟨wr.heap.size + 1, 0, none⟩ : Addr) = some ad → ∀ (j : Nat) u, [Value.string (st (ws[k].text))][j]? = some u → W.cell? (ad.add j) = some u from fun ad had => by
                injection had with had
                subst had
                rw [hW]
                have := World.news_of_block (heap_alloc_new (wr.alloc (.cells #[.int .i64 ws[k].kind, .string (st ws[k].text), .int .i64 ws[k].num, .int .i64 ws[k].pos] 88)) (.cells #[.string (st (ws[k].text))] 9))
                simpa using this)
              rw [hW] at HNw HWW HSz
              clear hW hW2
              go_wp2_with (first | (at_builtin; go_loud (refine wpList_append_any rfl (.tmp 30) (.tmp 33) 26 rfl w.heap.size 9 i0 _ 1 16 Tryz.underlying26 hi0 hz0 hz1 hz2 rfl (by omega) (.slice B (Lx.parts (ws.take k)).length d) (Lx.parts (ws.take k)).length _ rfl HWW.out.own (some ⟨wr.heap.size + 1, 0, none⟩) 1 1 [.string (st (ws[k].text))] rfl rfl (fun h => by cases h) HNw.out (by simp [Value.oneCell']) HM.out (by omega) HSz.out ?_); intro A1 c1 w1 hown hgrow hat; clear hat) | fail)
              have HNx := hid_ (HWW.out.add hlt HN3.out hgrow hown)
              go_roundg (gk - 1)
              case rel => exact ⟨k + 1, _, rfl, by go_num, by omega, by omega, HNx.out⟩
              case measure => omega
    · have b1 : ¬ (k : Int) < (ws.length : Int) := by omega
      have hkl : k = ws.length := by omega
      subst hkl
      have hjo := HJ.out.own
      rw [List.take_of_length_le (Nat.le_refl _)] at hjo hpl
      have HO := hid_ hjo
      have HBl := hid_ HJ.out.bel
      have HJn := hid_ (join_strs hjo (by omega) (fun t htm => by
        obtain ⟨x, hx, hp⟩ := List.mem_filterMap.1 htm
        have := part_le hp
        have := ht x hx
        omega))
      rw [List.take_of_length_le (Nat.le_refl _)]
      clear hjo
      go_wp2_with fail
      refine HJn.out.mono ?_
      rintro e w2 ⟨rfl, hb2⟩
      have HB2 := hid_ hb2
      clear hb2
      go_wp2_with fail
      go_ret
      exact ⟨rfl, HBl.out.trans (HB2.out.mono HBl.out.size)⟩
end Go.Proofs.YtmgjmagniefhoaaGreatDoor

/- Words that may be: cut out of a text again. No program is walked here. -/
namespace Go.Proofs.YtmgjmagniefhoaaGreatDoor
namespace Lx

/-- What ends a word: the end, or a blank. -/
def Ends (r : Bs) : Prop := r = [] ∨ ∃ c r', r = c :: r' ∧ (c = 32 ∨ c = 10)
/-- A word that may be: what stands for it in a text is cut into it. -/
structure Good (x : Wd) : Prop where
  pos : x.pos = 0
  k7 : x.kind ≠ 7
  tne : x.text ≠ []
  few : x.text.length ≤ 20
  n35 : 35 ∉ shown x.kind x.text
  word : ∀ r, Ends r → word? (shown x.kind x.text ++ r) = some (x.kind, x.text, x.num, (shown x.kind x.text).length)
theorem Good.head {x : Wd} (h : Good x) : ∃ c r, shown x.kind x.text = c :: r ∧ c ≠ 32 ∧ c ≠ 10 ∧ c ≠ 35 := by
  have hw := h.word [] (.inl rfl)
  rw [List.append_nil] at hw
  cases hs : shown x.kind x.text with
  | nil => rw [hs] at hw; cases hw
  | cons c r =>
    have h35 := h.n35
    rw [hs] at hw h35
    refine ⟨c, r, rfl, ?_, ?_, fun e => h35 (by rw [e]; exact List.mem_cons_self)⟩
    · rintro rfl; cases hw
    · rintro rfl; cases hw
theorem ends_goes {r : Bs} (h : Ends r) : r.takeWhile goes = [] := by
  rcases h with rfl | ⟨c, r', rfl, rfl | rfl⟩ <;> rfl
theorem run_ends {t r : Bs} (ht : t.all goes = true) (h : Ends r) : (t ++ r).takeWhile goes = t := by
  rw [List.takeWhile_append_of_pos (fun a ha => List.all_eq_true.1 ht a ha), ends_goes h, List.append_nil]
theorem goes_sign {c : UInt8} (h : goes c = true) (l : Bs) : sign? (c :: l) = none := by
  cases hs : sign? (c :: l) with
  | none => rfl
  | some g =>
    exfalso
    have h3 : g.isPrefixOf (c :: l) = true := List.find?_some (p := fun g => List.isPrefixOf g (c :: l)) hs
    have h4 : g ∈ signsL := List.mem_of_find?_eq_some hs
    simp only [signsL, List.mem_cons, List.not_mem_nil, or_false] at h4
    rcases h4 with rfl | rfl | rfl | rfl | rfl | rfl | rfl | rfl | rfl | rfl | rfl | rfl | rfl | rfl | rfl | rfl <;>
      (simp only [List.isPrefixOf, Bool.and_eq_true, beq_iff_eq] at h3; rw [← h3.1] at h; exact absurd h (by decide))
theorem goes_35 {t : Bs} (h : t.all goes = true) : 35 ∉ t := fun hm => absurd (List.all_eq_true.1 h 35 hm) (by decide)
theorem goes_39 {c : UInt8} (h : goes c = true) : c ≠ 39 := by rintro rfl; exact absurd h (by decide)
/-- A word of letters and digits. -/
theorem plain_word {c : UInt8} {t : Bs} (ht : (c :: t).all goes = true) {r : Bs} (hr : Ends r) : word? (c :: t ++ r) = (if isKey (c :: t) = true then some (5, c :: t, 0, (c :: t).length) else
        if isName (c :: t) = true then some (1, c :: t, 0, (c :: t).length) else
        if isType (c :: t) = true then some (2, c :: t, 0, (c :: t).length) else
        if 0 ≤ number (c :: t) then some (3, c :: t, number (c :: t), (c :: t).length) else none) := by
  have hc : goes c = true := List.all_eq_true.1 ht c List.mem_cons_self
  have hr2 := run_ends ht hr
  unfold word?
  rw [List.cons_append] at hr2 ⊢
  rw [goes_sign hc]
  dsimp only
  rw [if_neg (goes_39 hc), hr2]
/-- Letters and digits, small. -/
def low (c : UInt8) : Bool := small c || digit c
theorem low_goes {c : UInt8} (h : low c = true) : goes c = true := by unfold low at h; unfold goes; rw [Bool.or_eq_true] at h; rcases h with h | h <;> simp [h]
theorem low_all {u : Bs} (h : u.all low = true) : u.all goes = true := List.all_eq_true.2 fun a ha => low_goes (List.all_eq_true.1 h a ha)
theorem low_tag {u : Bs} (h : u.all low = true) : (u.all fun c => small c || digit c || score c) = true := List.all_eq_true.2 fun a ha => by
  have := List.all_eq_true.1 h a ha
  unfold low at this
  rw [this]; rfl
theorem low_typ {u : Bs} (h : u.all low = true) : (u.all fun c => small c || great c || digit c) = true := List.all_eq_true.2 fun a ha => by
  have := List.all_eq_true.1 h a ha
  unfold low at this
  rw [Bool.or_eq_true] at this
  rcases this with h | h <;> simp [h]
theorem good_name {u : Bs} (h : u.all low = true) (hl : u.length ≤ 14) : Good ⟨1, 110 :: 95 :: u, 0, 0⟩ := by
  have hg : (110 :: 95 :: u).all goes = true := by
    rw [List.all_cons, List.all_cons, low_all h]; rfl
  have hs : shown 1 (110 :: 95 :: u) = 110 :: 95 :: u := rfl
  have hk : isKey (110 :: 95 :: u) = false := by
    unfold isKey keysL
    simp
  have ht : tagged (110 :: 95 :: u) = true := by
    unfold tagged formed
    have := low_tag h
    simp only [List.all_cons, this, List.length_cons, Bool.and_true, Bool.and_eq_true, decide_eq_true_eq]
    exact ⟨⟨by omega, by decide⟩, by decide⟩
  have hn : isName (110 :: 95 :: u) = true := by unfold isName; rw [ht, hk]; rfl
  refine ⟨rfl, by show (1 : Int) ≠ 7; decide, by simp, by simp only [List.length_cons]; omega, ?_, fun r hr => ?_⟩
  · show 35 ∉ shown 1 (110 :: 95 :: u)
    rw [hs]; exact goes_35 hg
  · show word? (shown 1 (110 :: 95 :: u) ++ r) = some (1, 110 :: 95 :: u, 0, (shown 1 (110 :: 95 :: u)).length)
    rw [hs, plain_word hg hr, hk, if_neg (by decide), if_pos hn]
theorem good_type {u : Bs} (h : u.all low = true) (hl : u.length ≤ 14) : Good ⟨2, 84 :: u, 0, 0⟩ := by
  have hg : (84 :: u).all goes = true := by
    rw [List.all_cons, low_all h]; rfl
  have hs : shown 2 (84 :: u) = 84 :: u := rfl
  have hk : isKey (84 :: u) = false := by
    unfold isKey keysL
    simp
  have hn : isName (84 :: u) = false := by
    unfold isName tagged formed
    simp only [show small 84 = false from rfl, Bool.and_false, Bool.false_and]
  have ht : isType (84 :: u) = true := by
    unfold isType formed
    have := low_typ h
    simp only [List.all_cons, this, List.length_cons, Bool.and_true, Bool.and_eq_true, decide_eq_true_eq]
    exact ⟨⟨by omega, by decide⟩, by decide⟩
  refine ⟨rfl, by show (2 : Int) ≠ 7; decide, by simp, by simp only [List.length_cons]; omega, ?_, fun r hr => ?_⟩
  · show 35 ∉ shown 2 (84 :: u)
    rw [hs]; exact goes_35 hg
  · show word? (shown 2 (84 :: u) ++ r) = some (2, 84 :: u, 0, (shown 2 (84 :: u)).length)
    rw [hs, plain_word hg hr, hk, hn, if_neg (by decide), if_neg (by decide), if_pos ht]
theorem good_tag {u : Bs} (h : u.all low = true) (hl : u.length ≤ 14) : Good ⟨4, 116 :: u, 0, 0⟩ := by
  have hg : (116 :: u).all goes = true := by
    rw [List.all_cons, low_all h]; rfl
  have hs : shown 4 (116 :: u) = 39 :: 116 :: u := rfl
  have ht : tagged (116 :: u) = true := by
    unfold tagged formed
    have := low_tag h
    simp only [List.all_cons, this, List.length_cons, Bool.and_true, Bool.and_eq_true, decide_eq_true_eq]
    exact ⟨⟨by omega, by decide⟩, by decide⟩
  refine ⟨rfl, by show (4 : Int) ≠ 7; decide, by simp, by simp only [List.length_cons]; omega, ?_, fun r hr => ?_⟩
  · show 35 ∉ shown 4 (116 :: u)
    rw [hs]
    intro hm
    rcases List.mem_cons.1 hm with h1 | h1
    · exact absurd h1 (by decide)
    · exact goes_35 hg h1
  · show word? (shown 4 (116 :: u) ++ r) = some (4, 116 :: u, 0, (shown 4 (116 :: u)).length)
    have hr2 := run_ends hg hr
    rw [hs, List.cons_append]
    unfold word?
    rw [show sign? (39 :: (116 :: u ++ r)) = none from rfl]
    dsimp only
    rw [if_pos rfl, hr2, if_pos ht]
    rfl
theorem digit_first {t : Bs} (h : t.all digit = true) (hne : t ≠ []) : isKey t = false ∧ isName t = false ∧ isType t = false ∧ ∃ c r, t = c :: r := by
  cases t with
  | nil => exact absurd rfl hne
  | cons c r =>
    have hc : digit c = true := List.all_eq_true.1 h c List.mem_cons_self
    have hd := digit_iff.1 hc
    have hsm : small c = false := by unfold small; exact decide_eq_false (by omega)
    have hgr : great c = false := by unfold great; exact decide_eq_false (by omega)
    refine ⟨?_, ?_, ?_, c, r, rfl⟩
    · cases hk : isKey (c :: r) with
      | false => rfl
      | true =>
        exfalso
        unfold isKey at hk
        obtain ⟨k, hm, he⟩ := List.any_eq_true.1 hk
        have he2 : k = c :: r := of_decide_eq_true he
        subst he2
        simp only [keysL, List.mem_cons, List.not_mem_nil, or_false, List.cons.injEq] at hm
        rcases hm with h | h | h | h | h | h | h | h | h | h | h | h | h | h | h | h | h | h <;> (rw [h.1] at hc; exact absurd hc (by decide))
    · unfold isName tagged formed
      simp only [hsm, Bool.and_false, Bool.false_and]
    · unfold isType formed
      simp only [hgr, Bool.and_false, Bool.false_and]
theorem good_num {n : Nat} (h : n ≤ 2147483647) (hlen : (Lib.decDigits n).length ≤ 20) : Good ⟨3, Lib.decDigits n, n, 0⟩ := by
  obtain ⟨d1, d2, d3, d4⟩ := dec_facts n
  have hnum : number (Lib.decDigits n) = n := number_of (by omega) (by omega) (by unfold Lib.itoa; rw [if_neg (by omega)]; simp)
  have hg : (Lib.decDigits n).all goes = true := List.all_eq_true.2 fun a ha => by
    have := List.all_eq_true.1 d2 a ha
    unfold goes
    simp [this]
  obtain ⟨f1, f2, f3, c, r, f4⟩ := digit_first d2 d1
  have hs : shown 3 (Lib.decDigits n) = Lib.decDigits n := rfl
  refine ⟨rfl, by show (3 : Int) ≠ 7; decide, d1, hlen, ?_, fun q hr => ?_⟩
  · show 35 ∉ shown 3 (Lib.decDigits n)
    rw [hs]; exact goes_35 hg
  · show word? (shown 3 (Lib.decDigits n) ++ q) = some (3, Lib.decDigits n, (n : Int), (shown 3 (Lib.decDigits n)).length)
    rw [hs]
    rw [f4] at f1 f2 f3 hg hnum ⊢
    rw [plain_word hg hr, f1, f2, f3, if_neg (by decide), if_neg (by decide), if_neg (by decide), hnum, if_pos (by omega)]
theorem good_key {t : Bs} (h : t ∈ keysL) : Good ⟨5, t, 0, 0⟩ := by
  have hk : isKey t = true := List.any_eq_true.2 ⟨t, h, decide_eq_true rfl⟩
  have h2 : t.all goes = true ∧ t.length ≤ 20 := by
    simp only [keysL, List.mem_cons, List.not_mem_nil, or_false] at h
    rcases h with rfl | rfl | rfl | rfl | rfl | rfl | rfl | rfl | rfl | rfl | rfl | rfl | rfl | rfl | rfl | rfl | rfl | rfl <;> exact ⟨by decide, by decide⟩
  have hs : shown 5 t = t := rfl
  refine ⟨rfl, by show (5 : Int) ≠ 7; decide, isKey_ne hk, h2.2, ?_, fun r hr => ?_⟩
  · show 35 ∉ shown 5 t
    rw [hs]; exact goes_35 h2.1
  · show word? (shown 5 t ++ r) = some (5, t, 0, (shown 5 t).length)
    rw [hs]
    cases t with
    | nil => exact absurd rfl (isKey_ne hk)
    | cons c t => rw [plain_word h2.1 hr, if_pos hk]
theorem good_sign {t : Bs} (h : t ∈ signsL) : Good ⟨6, t, 0, 0⟩ := by
  have hs : shown 6 t = t := rfl
  simp only [signsL, List.mem_cons, List.not_mem_nil, or_false] at h
  refine ⟨rfl, by show (6 : Int) ≠ 7; decide, ?_, ?_, ?_, fun r hr => ?_⟩
  · rcases h with rfl | rfl | rfl | rfl | rfl | rfl | rfl | rfl | rfl | rfl | rfl | rfl | rfl | rfl | rfl | rfl <;> exact List.cons_ne_nil _ _
  · rcases h with rfl | rfl | rfl | rfl | rfl | rfl | rfl | rfl | rfl | rfl | rfl | rfl | rfl | rfl | rfl | rfl <;> decide
  · rcases h with rfl | rfl | rfl | rfl | rfl | rfl | rfl | rfl | rfl | rfl | rfl | rfl | rfl | rfl | rfl | rfl <;> decide
  · show word? (shown 6 t ++ r) = some (6, t, 0, (shown 6 t).length)
    rw [hs]
    have hsg : sign? (t ++ r) = some t := by
      rcases hr with rfl | ⟨c, r', rfl, rfl | rfl⟩ <;> rcases h with rfl | rfl | rfl | rfl | rfl | rfl | rfl | rfl | rfl | rfl | rfl | rfl | rfl | rfl | rfl | rfl <;> rfl
    unfold word?
    rw [hsg]

/-- The words of a text that is made of words, each behind blanks. -/
theorem cutF_good (n : Nat) : ∀ (f : Nat) (l : Bs) (xs : List Wd) (pads : List Bs), xs.length < f → (∀ x ∈ xs, Good x) → pads.length = xs.length →
    (∃ tail : Bs, skip false tail = [] ∧ Ends tail ∧ l = (List.zipWith (fun p x => p ++ shown x.kind x.text) pads xs).flatten ++ tail) →
    (∀ p ∈ pads, ∀ q, (∃ c r, q = c :: r ∧ c ≠ 32 ∧ c ≠ 10 ∧ c ≠ 35) → skip false (p ++ q) = q) → (∀ p ∈ pads.drop 1, ∀ q, Ends (p ++ q)) →
    ∃ ws, cutF n f l = .ok ws ∧ ws.map (fun x => (x.kind, x.text, x.num)) = xs.map (fun x => (x.kind, x.text, x.num))
  | 0, _, _, _, h, _, _, _, _, _ => absurd h (Nat.not_lt_zero _)
  | f + 1, l, [], pads, _, _, hp, ⟨tail, ht, _, hl⟩, _, _ => by
    have e : pads = [] := List.length_eq_zero_iff.1 hp
    subst e
    simp at hl
    subst hl
    refine ⟨[], ?_, rfl⟩
    unfold cutF
    rw [ht]
  | f + 1, l, x :: xs, [], _, _, hp, _, _, _ => by simp at hp
  | f + 1, l, x :: xs, p :: pads, hf, hg, hp, ⟨tail, ht, hte, hl⟩, hsk, hen => by
    have hx := hg x List.mem_cons_self
    obtain ⟨c, r, hc, hc2⟩ := hx.head
    obtain ⟨rest, hrest⟩ : ∃ rest, rest = (List.zipWith (fun p x => p ++ shown x.kind x.text) pads xs).flatten ++ tail := ⟨_, rfl⟩
    have hl2 : l = p ++ (shown x.kind x.text ++ rest) := by
      rw [hl, hrest, List.zipWith_cons_cons, List.flatten_cons]
      simp only [List.append_assoc]
    have hends : Ends rest := by
      rw [hrest]
      cases pads with
      | nil => simp; exact hte
      | cons q pads =>
        cases xs with
        | nil => simp at hp
        | cons y ys =>
          rw [List.zipWith_cons_cons, List.flatten_cons]
          simp only [List.append_assoc]
          exact hen q (by simp) _
    have hskip : skip false l = shown x.kind x.text ++ rest := by
      rw [hl2]
      exact hsk p List.mem_cons_self _ ⟨c, r ++ rest, by rw [hc]; rfl, hc2⟩
    have hword := hx.word rest hends
    obtain ⟨ws, h1, h2⟩ := cutF_good n f rest xs pads (by simpa using hf) (fun y hy => hg y (List.mem_cons_of_mem _ hy)) (by simpa using hp) ⟨tail, ht, hte, hrest⟩
      (fun q hq => hsk q (List.mem_cons_of_mem _ hq)) (fun q hq => hen q (by
        simp only [List.drop_succ_cons, List.drop_zero]
        exact List.mem_of_mem_drop hq))
    refine ⟨⟨x.kind, x.text, x.num, n - (shown x.kind x.text ++ rest).length⟩ :: ws, ?_, ?_⟩
    · unfold cutF
      rw [hskip]
      have e2 : shown x.kind x.text ++ rest = c :: (r ++ rest) := by rw [hc]; rfl
      rw [e2] at hword ⊢
      dsimp only
      rw [hword]
      dsimp only
      have e3 : (c :: (r ++ rest)).drop (shown x.kind x.text).length = rest := by rw [← e2, List.drop_left]
      rw [e3, h1]
    · rw [List.map_cons, List.map_cons, h2]
end Lx
end Go.Proofs.YtmgjmagniefhoaaGreatDoor

/- Words in one form; what words they are. Conditions: those that each theorem names. -/
namespace Go.Proofs.YtmgjmagniefhoaaGreatDoor
open Go.RowKit Go.Maps

/-- What Words answers, in one form. -/
def wordsR (s : ByteArray) : List Lx.Wd × Int × Int := if 65536 < s.size then ([], 0, 5) else match Lx.cut (bl s) with
  | .error a => ([], (a : Int), 20)
  | .ok ws => (ws ++ [endW s], 0, 0)
theorem cutF_few (n : Nat) : ∀ (f : Nat) (l : List UInt8) (ws : List Lx.Wd), Lx.cutF n f l = .ok ws → ws.length ≤ f
  | 0, _, ws, h => by
    injection h with h
    subst h
    simp
  | f + 1, l, ws, h => by
    unfold Lx.cutF at h
    split at h
    · injection h with h
      subst h
      simp
    · split at h
      · cases h
      · split at h
        · cases h
        · rename_i he
          injection h with h
          subst h
          have := cutF_few n f _ _ he
          simp only [List.length_cons]
          omega
theorem words_uni {s : ByteArray} {w w' : World} {e : Ending} (h : WordsP s w e w') : ∃ v, WsAt w' v (wordsR s).1 ∧ e = .returned (.tuple #[v, .int .i64 (wordsR s).2.1, .int .i64 (wordsR s).2.2]) ∧ Below w.heap.size w w' := by
  obtain ⟨hb, h⟩ := h
  rcases h with ⟨h1, rfl⟩ | ⟨h1, a, h2, rfl⟩ | ⟨h1, ws, A, c, h2, rfl, h3⟩
  · have e : wordsR s = ([], 0, 5) := if_pos h1
    rw [e]
    exact ⟨_, WsAt.nil _, rfl, hb⟩
  · have e : wordsR s = ([], (a : Int), 20) := by
      unfold wordsR
      rw [if_neg (by omega), h2]
    rw [e]
    exact ⟨_, WsAt.nil _, rfl, hb⟩
  · have e : wordsR s = (ws ++ [endW s], 0, 0) := by
      unfold wordsR
      rw [if_neg (by omega), h2]
    rw [e]
    exact ⟨_, own_ws h3, rfl, hb⟩
theorem lex_WordsU {w : World} (hv : Env w) (s : ByteArray) (hs : s.size ≤ 1000000000) : Calls Tryz.prog 25 #[.string s] w fun e w' => ∃ v, WsAt w' v (wordsR s).1 ∧ e = .returned (.tuple #[v, .int .i64 (wordsR s).2.1, .int .i64 (wordsR s).2.2]) ∧ Below w.heap.size w w' :=
  (lex_Words hv s hs).mono fun _ _ h => words_uni h
theorem word_ok {l : List UInt8} {k : Int} {t : List UInt8} {m : Int} {len : Nat} (h : Lx.word? l = some (k, t, m, len)) : k ≠ 7 ∧ t.length ≤ l.length + 2 := by
  unfold Lx.word? at h
  split at h
  · rename_i g hg
    injection h with h
    injection h with h1 h
    injection h with h2 h
    subst h1 h2
    have hm := List.mem_of_find?_eq_some hg
    have : ∀ g ∈ Lx.signsL, g.length ≤ 2 := by decide
    have := this g hm
    exact ⟨by decide, by omega⟩
  · split at h
    · cases h
    · rename_i c l' hs
      have ht : ∀ (p : UInt8 → Bool) (x : List UInt8), (x.takeWhile p).length ≤ x.length := fun p x => (List.takeWhile_sublist p).length_le
      split at h
      · split at h
        · injection h with h
          injection h with h1 h
          injection h with h2 h
          subst h1 h2
          have := ht Lx.goes l'
          exact ⟨by decide, by simp only [List.length_cons]; omega⟩
        · cases h
      · have := ht Lx.goes (c :: l')
        simp only [] at h
        split at h
        · injection h with h
          injection h with h1 h
          injection h with h2 h
          subst h1 h2
          exact ⟨by decide, by omega⟩
        · split at h
          · injection h with h
            injection h with h1 h
            injection h with h2 h
            subst h1 h2
            exact ⟨by decide, by omega⟩
          · split at h
            · injection h with h
              injection h with h1 h
              injection h with h2 h
              subst h1 h2
              exact ⟨by decide, by omega⟩
            · split at h
              · injection h with h
                injection h with h1 h
                injection h with h2 h
                subst h1 h2
                exact ⟨by decide, by omega⟩
              · cases h
theorem cutF_ok (n : Nat) : ∀ (f : Nat) (l : List UInt8) (ws : List Lx.Wd), Lx.cutF n f l = .ok ws → ∀ x ∈ ws, x.kind ≠ 7 ∧ x.text.length ≤ l.length + 2
  | 0, _, ws, h => by
    injection h with h
    subst h
    intro x hx
    cases hx
  | f + 1, l, ws, h => by
    unfold Lx.cutF at h
    split at h
    · injection h with h
      subst h
      intro x hx
      cases hx
    · rename_i c r hs
      have hl := skip_le false l
      rw [hs] at hl
      split at h
      · cases h
      · rename_i k t m len hw
        have hk := word_ok hw
        split at h
        · cases h
        · rename_i he
          injection h with h
          subst h
          have ih := cutF_ok n f _ _ he
          intro x hx
          rcases List.mem_cons.1 hx with rfl | hx
          · exact ⟨hk.1, by have := hk.2; show t.length ≤ _; omega⟩
          · have h2 := ih x hx
            refine ⟨h2.1, ?_⟩
            have h3 := h2.2
            rw [List.length_drop] at h3
            omega
/-- What words a text has. -/
theorem wordsR_ok {s : ByteArray} (h : (wordsR s).2.2 = 0) : s.size ≤ 65536 ∧ ∃ ws, Lx.cut (bl s) = .ok ws ∧ wordsR s = (ws ++ [endW s], 0, 0) ∧ ws.length ≤ s.size + 1 ∧ ∀ x ∈ ws, x.kind ≠ 7 ∧ x.text.length ≤ s.size + 2 := by
  unfold wordsR at h ⊢
  split at h
  · exact absurd h (by decide)
  · rename_i hs
    split at h
    · exact absurd (show (20 : Int) = 0 from h) (by decide)
    · rename_i ws hc
      have h1 := cutF_few _ _ _ _ hc
      have h2 := cutF_ok _ _ _ _ hc
      rw [bl_len] at h1 h2
      exact ⟨by omega, ws, hc, if_neg hs, h1, h2⟩
end Go.Proofs.YtmgjmagniefhoaaGreatDoor
