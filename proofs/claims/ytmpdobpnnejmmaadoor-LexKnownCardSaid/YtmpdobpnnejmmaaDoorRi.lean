/- The document's lex: words. Conditions: those that each theorem names. -/
import Derived.Test.YtmpdobpnnejmmaaDoorRg
import Derived.Test.YtmpdobpnnejmmaaDoorRh
import Derived.Test.YtmpdobpnnejmmaaDoorLm
namespace Go.Proofs.YtmpdobpnnejmmaaDoor
open Go.RowKit Go.Maps

/-- What holds behind the document's blanks. -/
structure RwR (w : World) (s : ByteArray) (wr : World) (j i : Nat) (ws : List Lx.Wd) (v : Value) : Prop where
  own : wr.ownsRow w.heap.size 30 4 v ws.length (flatW ws)
  bel : Below w.heap.size w wr
  cut : CutR s j ws
  pl : skipTo s j = i
  js : j ≤ s.size
  few : ws.length ≤ j
section
variable {w wr w3 w5 : World} {s : ByteArray} {j i : Nat} {ws : List Lx.Wd} {v : Value}
theorem RwR.below (h : RwR w s wr j i ws v) (hb : Below wr.heap.size wr w3) : RwR w s w3 j i ws v :=
  ⟨own_kp h.own (Kp.of_below hb fun _ => False) (fun _ _ h => h), h.bel.trans (hb.mono h.bel.size), h.cut, h.pl, h.js, h.few⟩
theorem RwR.next {v' : Value} {r : Int × List UInt8 × Int × Nat} (h : RwR w s wr j i ws v) (hlt : i < s.size) (hw : Lx.word? ((bl s).drop i) = some r) (hg : wr.grownBy w5 v.ownBlock) (hown : w5.ownsRow w.heap.size 30 4 v' (ws.length + 1) (flatW ws ++ cellW ⟨r.1, r.2.1, r.2.2.1, i⟩)) :
    RwR w s w5 (i + r.2.2.2) (skipTo s (i + r.2.2.2)) (ws ++ [⟨r.1, r.2.1, r.2.2.1, i⟩]) v' := by
  obtain ⟨c1, c2, c3⟩ := cut_word h.cut h.js h.pl hlt hw
  have hge := skipTo_ge s h.js
  have hpl := h.pl
  have hfew := h.few
  refine ⟨?_, h.bel.trans (((Kp.refl (fun q => w.heap.size ≤ q) _).grown hg (fun k hk => .inl (own_base h.own hk))).toBelow h.bel.size (fun q hq e => by omega)), c1, rfl, c2, by rw [List.length_append]; show ws.length + 1 ≤ _; omega⟩
  rw [List.length_append, flatW_append]
  have e : flatW [(⟨r.1, r.2.1, r.2.2.1, i⟩ : Lx.Wd)] = cellW ⟨r.1, r.2.1, r.2.2.1, i⟩ := by simp [flatW]
  rw [e]
  exact hown
end

set_option maxHeartbeats 8000000 in
set_option maxRecDepth 100000 in
theorem ref_Words (w : World) (s : ByteArray) (hs : s.size ≤ 1000000000) : Calls Tryd.prog 11 #[.string s] w (WordsP s w) := by
  by_cases hlong : 65536 < (s.size : Int)
  · have HL := hid_ hlong
    go_enter Tryd.func11, Tryd.ntmps11
    go_wp2_with fail
    try rw [Exit.noGoto_ret]
    go_ret3
    exact ⟨Below.refl _ _, .inl ⟨by have := HL.out; omega, rfl⟩⟩
  · obtain ⟨i0, hi0, hz0, hz1, hz2⟩ := info_parts Tryd.infoW
    have hs2 : s.size ≤ 65536 := by omega
    go_enter Tryd.func11, Tryd.ntmps11
    go_wp2_with fail
    refine (ref_blanks w s 0 hs (Nat.zero_le _)).mono ?_
    rintro e w' ⟨rfl, rfl⟩
    go_wp2_with fail
    go_loopg [5, 6] (s.size + 1) (fun g t5 t6 wr => ∃ (j i : Nat) (ws : List Lx.Wd) (v : Value), t5 = v ∧ t6 = .int .i64 i ∧ s.size + 1 - j ≤ g ∧ RwR w s wr j i ws v)
    case atStart => exact ⟨0, skipTo s 0, [], _, rfl, rfl, by omega, World.ownsRow_nil _ _ _ _, Below.refl _ _, cut_start s, rfl, Nat.zero_le _, Nat.zero_le _⟩
    case round =>
      obtain ⟨j, i, ws, v, rfl, rfl, hg, hW⟩ := hrel
      obtain ⟨A, c, rfl⟩ := own_form hW.own
      have HW := hid_ hW
      have hile : i ≤ s.size := by rw [← hW.pl]; exact skipTo_le _ _
      have hji : j ≤ i := by rw [← hW.pl]; exact skipTo_ge _ hW.js
      have hfew := hW.few
      clear hW
      by_cases hlt : i < s.size
      · have b0 : (0 : Int) ≤ (i : Int) := by omega
        have b1 : (i : Int) < (s.size : Int) := by omega
        have HRw := hid_ (ref_word wr s i hs hlt)
        go_wp2_with fail
        refine HRw.out.mono ?_
        rintro e w3 ⟨kd, tx, nm, ps, en, b, rfl, hr1, hr2, hb3⟩
        have HB3 := hid_ hb3
        clear hb3 HRw
        cases hwd : Lx.word? ((bl s).drop i) with
        | none =>
          obtain rfl := hr2 hwd
          have HErr := hid_ (cut_err HW.out.cut HW.out.pl hlt hwd)
          clear hr1 hr2 hwd
          go_wp2_with fail
          try rw [Exit.noGoto_ret]
          go_ret3
          exact ⟨HW.out.bel.trans ((HB3.out.alloc HB3.out.size _).mono HW.out.bel.size), .inr (.inl ⟨hs2, i, HErr.out, rfl⟩)⟩
        | some r =>
          obtain ⟨rfl, rfl, rfl, rfl, rfl, rfl⟩ := hr1 r hwd
          have HWord := hid_ hwd
          clear hr1 hr2 hwd
          obtain ⟨W, hW⟩ : ∃ W, W = (w3.alloc (.cells #[.int .i64 r.1, .string (st r.2.1), .int .i64 r.2.2.1, .int .i64 (i : Int)] 30)).alloc (.cells #[.int .i64 r.1, .string (st r.2.1), .int .i64 r.2.2.1, .int .i64 (i : Int)] 30) := ⟨_, rfl⟩
          have hW2 : Below wr.heap.size wr W := by rw [hW]; exact (HB3.out.alloc HB3.out.size _).alloc (by have := HB3.out.size; simp; omega) _
          have HWW := hid_ (HW.out.below hW2)
          have HNw := hid_ (show ∀ ad, some (⟨w3.heap.size + 1, 0, none⟩ : Addr) = some ad → ∀ (j : Nat) u, [Value.int .i64 r.1, .string (st r.2.1), .int .i64 r.2.2.1, .int .i64 (i : Int)][j]? = some u → W.cell? (ad.add j) = some u from fun ad had => by
            injection had with had
            subst had
            rw [hW]
            have := World.news_of_block (heap_alloc_new (w3.alloc (.cells #[.int .i64 r.1, .string (st r.2.1), .int .i64 r.2.2.1, .int .i64 (i : Int)] 30)) (.cells #[.int .i64 r.1, .string (st r.2.1), .int .i64 r.2.2.1, .int .i64 (i : Int)] 30))
            simpa using this)
          have HSz := hid_ HWW.out.bel.size
          rw [hW] at HNw HWW HSz
          have hfl : (ws.length + 1) * 40 ≤ 140737488355328 := by omega
          have HM := hid_ (show ws.length + 1 ≤ maxLen by unfold maxLen; omega)
          obtain ⟨_, c2', _⟩ := cut_word HW.out.cut HW.out.js HW.out.pl hlt HWord.out
          have HLe := hid_ c2'
          clear hW hW2 c2'
          go_wp2_with (first | (at_builtin; go_loud (refine wpList_append_any rfl (.tmp 29) (.tmp 31) 22 rfl w.heap.size 30 i0 _ 4 40 Tryd.underlying22 hi0 hz0 hz1 hz2 rfl (by omega) (.slice A ws.length c) ws.length _ rfl HWW.out.own (some ⟨w3.heap.size + 1, 0, none⟩) 1 1 [.int .i64 r.1, .string (st r.2.1), .int .i64 r.2.2.1, .int .i64 (i : Int)] rfl rfl (fun h => by cases h) HNw.out (by simp [Value.oneCell']) HM.out (by omega) HSz.out ?_); intro A1 c1 w1 hown hgrow hat; clear hat) | fail)
          have hn : (i : Int) + (r.2.2.2 : Int) = ((i + r.2.2.2 : Nat) : Int) := by omega
          rw [hn]
          refine (ref_blanks w1 s (i + r.2.2.2) hs HLe.out).mono ?_
          rintro e w' ⟨rfl, rfl⟩
          have HNx := hid_ (HWW.out.next hlt HWord.out hgrow hown)
          obtain ⟨_, c2', c3'⟩ := cut_word HW.out.cut HW.out.js HW.out.pl hlt HWord.out
          clear hgrow hown hn
          go_wp2_with fail
          go_roundg (gk - 1)
          case rel => exact ⟨_, _, _, _, rfl, rfl, by omega, HNx.out⟩
          case measure => omega
      · have b1 : ¬ (i : Int) < (s.size : Int) := by omega
        have hie : i = s.size := by omega
        obtain ⟨W, hW⟩ : ∃ W, W = (wr.alloc (.cells (cellW (endW s)).toArray 30)) := ⟨_, rfl⟩
        have hW2 : Below wr.heap.size wr W := by rw [hW]; exact (Below.refl _ _).alloc (Nat.le_refl _) _
        have HWW := hid_ (HW.out.below hW2)
        have HNw := hid_ (show ∀ ad, some (⟨wr.heap.size, 0, none⟩ : Addr) = some ad → ∀ (j : Nat) u, (cellW (endW s))[j]? = some u → W.cell? (ad.add j) = some u from fun ad had => by
          injection had with had
          subst had
          rw [hW]
          exact World.news_of_block (heap_alloc_new _ _))
        have HSz := hid_ HWW.out.bel.size
        have HM := hid_ (show ws.length + 1 ≤ maxLen by unfold maxLen; omega)
        have hfl : (ws.length + 1) * 40 ≤ 140737488355328 := by omega
        have HEnd := hid_ (cut_end HW.out.cut (HW.out.pl.trans hie))
        rw [hW] at HNw HWW HSz
        clear hW hW2
        go_wp2_with (first | (at_builtin; go_loud (refine wpList_append_any rfl (.tmp 36) (.tmp 40) 22 rfl w.heap.size 30 i0 _ 4 40 Tryd.underlying22 hi0 hz0 hz1 hz2 rfl (by omega) (.slice A ws.length c) ws.length _ rfl HWW.out.own (some ⟨wr.heap.size, 0, none⟩) 1 1 (cellW (endW s)) rfl rfl (fun h => by cases h) HNw.out (by simp [cellW, Value.oneCell']) HM.out (by omega) HSz.out ?_); intro A1 c1' w1 hown hgrow hat; clear hat) | fail)
        try rw [Exit.noGoto_ret]
        go_ret3
        refine ⟨?_, .inr (.inr ⟨hs2, ws, A1, c1', HEnd.out, rfl, ?_⟩)⟩
        · exact HWW.out.bel.trans (((Kp.refl (fun q => w.heap.size ≤ q) _).grown hgrow (fun k hk => .inl (own_base HWW.out.own hk))).toBelow HWW.out.bel.size (fun q hq e => by omega))
        · unfold WsOwn
          rw [List.length_append, flatW_append]
          have e : flatW [endW s] = cellW (endW s) := by simp [flatW]
          rw [e]
          exact hown
end Go.Proofs.YtmpdobpnnejmmaaDoor
