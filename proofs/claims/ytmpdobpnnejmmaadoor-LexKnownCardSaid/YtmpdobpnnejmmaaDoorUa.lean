/- LexJoins: the walk. Conditions: those that each theorem names. -/
import Derived.Test.YtmpdobpnnejmmaaDoorWb
import Derived.Test.YtmpdobpnnejmmaaDoorOp
namespace Go.Proofs.YtmpdobpnnejmmaaDoor
open Go.RowKit Go.Maps

def Lx.clip (x : Lx.Wd) : Lx.Wd := ⟨x.kind, x.text.take 40, x.num, x.pos⟩
/-- The loop of LexJoins. -/
structure InR (w wr : World) (xs : List Lx.Wd) (k : Nat) (v : Value) : Prop where
  own : wr.ownsRow w.heap.size 30 4 v k (flatW ((xs.take k).map Lx.clip))
  bel : Below w.heap.size w wr
theorem InR.below {w wr w2 : World} {xs : List Lx.Wd} {k : Nat} {v : Value} (h : InR w wr xs k v) (hb : Below wr.heap.size wr w2) : InR w w2 xs k v :=
  ⟨own_kp h.own (Kp.of_below hb fun _ => False) (fun _ _ h => h), h.bel.trans (hb.mono h.bel.size)⟩
theorem InR.add {w wr w2 : World} {xs : List Lx.Wd} {k : Nat} {v v' : Value} {news : List Value} (h : InR w wr xs k v) (hk : k < xs.length) (hg : wr.grownBy w2 v.ownBlock)
    (hown : w2.ownsRow w.heap.size 30 4 v' (k + 1) (flatW ((xs.take k).map Lx.clip) ++ news)) (e : news = cellW (Lx.clip xs[k])) : InR w w2 xs (k + 1) v' := by
  refine ⟨?_, h.bel.trans (((Kp.refl (fun q => w.heap.size ≤ q) _).grown hg (fun k hk => .inl (own_base h.own hk))).toBelow h.bel.size (fun q hq e => by omega))⟩
  rw [take_next xs hk, List.map_append, flatW_append]
  subst e
  have e2 : flatW ([xs[k]].map Lx.clip) = cellW (Lx.clip xs[k]) := by simp [flatW]
  rw [e2]
  exact hown
theorem clip_cut (t : List UInt8) : (st t).extract 0 (min (st t).size 40) = st (t.take 40) := by
  rw [extract_st, bl_st, List.drop_zero, Nat.sub_zero, st_size]
  congr 1
  rcases Nat.le_total t.length 40 with h | h
  · rw [Nat.min_eq_left h, List.take_of_length_le (Nat.le_refl _), List.take_of_length_le h]
  · rw [Nat.min_eq_right h]
theorem flatW_one : ∀ (l : List Lx.Wd), ∀ u ∈ flatW l, u.oneCell' = true := by
  intro l u hu
  obtain ⟨x, _, hx⟩ := List.mem_flatMap.1 hu
  simp only [cellW, List.mem_cons, List.not_mem_nil, or_false] at hx
  rcases hx with rfl | rfl | rfl | rfl <;> rfl
theorem own_none {w : World} {base : Nat} {e : TypeId} {size n d : Nat} {B : Option Addr} {xs : List Value} (h : w.ownsRow base e size (.slice B n d) n xs) : B = none → n = 0 ∧ d = 0 := by
  rintro rfl
  rcases h.2 with ⟨hv, h0⟩ | ⟨g, cap, _, hv, _⟩
  · injection hv with _ _ h3
    exact ⟨h0, h3⟩
  · cases hv
theorem own_news {w : World} {base : Nat} {e : TypeId} {size n d : Nat} {B : Option Addr} {xs : List Value} (h : w.ownsRow base e size (.slice B n d) n xs) : ∀ ad, B = some ad → ∀ j u, xs[j]? = some u → w.cell? (ad.add j) = some u := by
  rintro ad rfl j u hu
  rcases h.2 with ⟨hv, _⟩ | ⟨g, cap, _, hv, _⟩
  · cases hv
  · injection hv with hv _ _
    injection hv with hv
    subst hv
    rw [add_at]
    exact own_cell h j u hu
theorem own_empty (w : World) (base : Nat) (e : TypeId) (size : Nat) (hb : base ≤ w.heap.size) : (w.alloc (.cells #[] e)).ownsRow base e size (.slice (some ⟨w.heap.size, 0, none⟩) 0 0) 0 [] :=
  ⟨by simp, .inr ⟨w.heap.size, 0, #[], rfl, hb, heap_alloc_new _ _, Nat.le_refl _, Nat.zero_le _, by simp, by simp⟩⟩
theorem InR.at_ {w wr : World} {xs : List Lx.Wd} {k : Nat} {v : Value} (h : InR w wr xs k v) (hk : k ≤ xs.length) : WsOwn wr w.heap.size v ((xs.take k).map Lx.clip) := by
  have e : ((xs.take k).map Lx.clip).length = k := by simp; omega
  unfold WsOwn
  rw [e]
  exact h.own
set_option maxHeartbeats 4000000 in
set_option maxRecDepth 100000 in
theorem lexJoins_walk {w : World} (hv : Env w) {v : Value} {xs : List Lx.Wd} (hws : LsAt cellW 4 w v xs) (hfew : xs.length ≤ 100000000000000) : Calls Tryd.prog 5 #[v] w fun e w' => e = .returned (.bool true) ∧ Below w.heap.size w w' := by
  have HV := hid_ hv
  clear hv
  obtain ⟨A, c, rfl, hA⟩ := hws
  obtain ⟨i0, hi0, hz0, hz1, hz2⟩ := info_parts Tryd.infoW
  go_enter Tryd.func5, Tryd.ntmps5
  go_wp2_with fail
  go_loopg [3, 4] 201 (fun g t3 t4 wr => ∃ (k : Nat) (v : Value), t3 = v ∧ t4 = .int .i64 k ∧ k ≤ xs.length ∧ k ≤ 200 ∧ 201 - k ≤ g ∧ InR w wr xs k v)
  case atStart => exact ⟨0, _, rfl, rfl, by omega, by omega, by omega, World.ownsRow_nil _ _ _ _, Below.refl _ _⟩
  case round =>
    obtain ⟨k, v, rfl, rfl, hk, hk2, hg, hJ⟩ := hrel
    obtain ⟨B, d, rfl⟩ := own_form hJ.own
    have HJ := hid_ hJ
    have hbw := hJ.bel
    clear hJ
    by_cases hin : k < xs.length ∧ k < 200
    · obtain ⟨hlt, hlt2⟩ := hin
      have b0 : (0 : Int) ≤ (k : Int) := by omega
      have b1 : (k : Int) < (xs.length : Int) := by omega
      have b2 : (k : Int) < 200 := by omega
      obtain ⟨b, off, rfl, hcx⟩ := hA (by omega)
      have x0 : wr.cell? ⟨b, off + k * 4, none⟩ = some (.int .i64 xs[k].kind) := below_cell hbw (hcx k hlt 0 (by omega))
      have x1 : wr.cell? ⟨b, off + k * 4 + 1, none⟩ = some (.string (st xs[k].text)) := below_cell hbw (hcx k hlt 1 (by omega))
      have x2 : wr.cell? ⟨b, off + k * 4 + 2, none⟩ = some (.int .i64 xs[k].num) := below_cell hbw (hcx k hlt 2 (by omega))
      have x3 : wr.cell? ⟨b, off + k * 4 + 3, none⟩ = some (.int .i64 xs[k].pos) := below_cell hbw (hcx k hlt 3 (by omega))
      clear hbw
      have e0 : min ((st xs[k].text).size : Int) 40 = ((min (st xs[k].text).size 40 : Nat) : Int) := by omega
      obtain ⟨L, hL⟩ : ∃ L : List Value, L = [.int .i64 xs[k].kind, .string ((st xs[k].text).extract 0 (min (st xs[k].text).size 40)), .int .i64 xs[k].num, .int .i64 xs[k].pos] := ⟨_, rfl⟩
      have hL2 : L = cellW (Lx.clip xs[k]) := by rw [hL, clip_cut]; rfl
      have hL3 : ∀ u ∈ L, u.oneCell' = true := by rw [hL]; simp [Value.oneCell']
      have hL4 : L.length = 1 * 4 := by rw [hL]; rfl
      have hL5 : (#[.int .i64 xs[k].kind, .string ((st xs[k].text).extract 0 (min (st xs[k].text).size 40)), .int .i64 xs[k].num, .int .i64 xs[k].pos] : Array Value) = L.toArray := by rw [hL]
      have HL := hid_ (And.intro hL2 hL3)
      have HLr := hid_ (And.intro hL4 hL5)
      clear hL hL2 hL3 hL4 hL5 hA hcx
      have HM := hid_ (show k + 1 ≤ maxLen by unfold maxLen; omega)
      have hfl : (k + 1) * 40 ≤ 140737488355328 := by omega
      obtain ⟨W, hW⟩ : ∃ W, W = (wr.alloc (.cells L.toArray 30)).alloc (.cells L.toArray 30) := ⟨_, rfl⟩
      have hW2 : Below wr.heap.size wr W := by rw [hW]; exact ((Below.refl _ _).alloc (Nat.le_refl _) _).alloc (by simp) _
      have HWW := hid_ (HJ.out.below hW2)
      have HSz := hid_ HWW.out.bel.size
      have HNw := hid_ (show ∀ ad, some (⟨wr.heap.size + 1, 0, none⟩ : Addr) = some ad → ∀ (j : Nat) u, L[j]? = some u → W.cell? (ad.add j) = some u from fun ad had => by
        injection had with had
        subst had
        rw [hW]
        have := World.news_of_block (heap_alloc_new (wr.alloc (.cells L.toArray 30)) (.cells L.toArray 30))
        simpa using this)
      have HWe := hid_ hW
      clear hW hW2
      go_wp2_with (first | (at_builtin; rw [HLr.out.2, ← HWe.out]; go_loud (refine wpList_append_any rfl (.tmp 30) (.tmp 32) 22 rfl w.heap.size 30 i0 _ 4 40 Tryd.underlying22 hi0 hz0 hz1 hz2 rfl (by omega) (.slice B k d) k _ rfl HWW.out.own (some ⟨wr.heap.size + 1, 0, none⟩) 1 1 L rfl HLr.out.1 (fun h => by cases h) HNw.out HL.out.2 HM.out (by omega) HSz.out ?_); intro A1 c1 w1 hown hgrow hat; clear hat) | fail)
      have HNx := hid_ (HWW.out.add hlt hgrow hown HL.out.1)
      go_roundg (gk - 1)
      case rel => exact ⟨k + 1, _, rfl, by go_num, by omega, by omega, by omega, HNx.out⟩
      case measure => omega
    · have hex : (¬ k < xs.length) ∨ (k < xs.length ∧ ¬ k < 200) := by omega
      have HWi := hid_ (HJ.out.at_ hk)
      have hylen : ((xs.take k).map Lx.clip).length = k := by simp; omega
      have htx : ∀ x ∈ (xs.take k).map Lx.clip, x.text.length ≤ 1000 := by
        intro x hx
        obtain ⟨y, _, rfl⟩ := List.mem_map.1 hx
        show (y.text.take 40).length ≤ 1000
        rw [List.length_take]
        omega
      have HT := hid_ htx
      have HL := hid_ hylen
      have hfl : (0 + k) * 40 ≤ 140737488355328 := by omega
      have HM := hid_ (show 0 + k ≤ maxLen by unfold maxLen; omega)
      have hle := hbw.size
      have HO := hid_ (own_empty wr w.heap.size 30 4 hle)
      have HN0 := hid_ (own_none HJ.out.own)
      have HN1 := hid_ (own_news (own_kp HJ.out.own (Kp.of_below ((Below.refl wr.heap.size wr).alloc (Nat.le_refl _) (.cells #[] 30)) fun _ => False) (fun _ _ h => h)))
      have HSz := hid_ (Nat.le_trans hle (show wr.heap.size ≤ (wr.alloc (.cells #[] 30)).heap.size by simp))
      have HF := hid_ (And.intro (flatW_length ((xs.take k).map Lx.clip)) (flatW_one ((xs.take k).map Lx.clip)))
      have b0 : (0 : Int) ≤ (k : Int) := by omega
      clear htx hylen hbw hA
      rcases hex with h1 | ⟨h1, h2⟩
      case' inl => have b1 : ¬ (k : Int) < (xs.length : Int) := by omega
      case' inr =>
        have b1 : (k : Int) < (xs.length : Int) := by omega
        have b2 : ¬ (k : Int) < 200 := by omega
      all_goals
        go_wp2_with (first | (at_builtin; go_loud (refine wpList_append_any rfl (.tmp 34) (.tmp 35) 22 rfl w.heap.size 30 i0 _ 4 40 Tryd.underlying22 hi0 hz0 hz1 hz2 rfl (by omega) (.slice (some ⟨wr.heap.size, 0, none⟩) 0 0) 0 _ rfl HO.out B k d _ rfl (HF.out.1.trans (by rw [HL.out])) HN0.out HN1.out HF.out.2 HM.out hfl HSz.out ?_); intro A1 c1 w1 hown hgrow hat; clear hat) | fail)
        have hb1 : Below wr.heap.size wr w1 := (((Kp.refl (fun q => wr.heap.size ≤ q) wr).alloc (.cells #[] 30)).grown hgrow (fun q hq => .inl (by injection hq with hq; exact Nat.le_of_eq hq))).toBelow (Nat.le_refl _) (fun q hq e => by omega)
        have HAi := hid_ ((own_ws HWi.out).below hb1)
        have HAo := hid_ (own_ws (show WsOwn w1 w.heap.size (.slice A1 k c1) ((xs.take k).map Lx.clip) from by
          unfold WsOwn
          rw [HL.out]
          simpa using hown))
        have HB1 := hid_ (HJ.out.bel.trans (hb1.mono HJ.out.bel.size))
        clear hown hgrow hb1
        refine (lex_Join HAi.out (by rw [HL.out]; omega) HT.out).mono ?_
        rintro e w2 ⟨rfl, hb2⟩
        have HAi2 := hid_ (HAi.out.below hb2)
        have HAo2 := hid_ (HAo.out.below hb2)
        have HB2 := hid_ (HB1.out.trans (hb2.mono HB1.out.size))
        clear hb2
        go_wp2_with fail
        refine (ref_Join HAo2.out (by rw [HL.out]; omega) HT.out).mono ?_
        rintro e w3 ⟨rfl, hb3⟩
        have HS := hid_ (ref_same (HAi2.out.below hb3) (HAo2.out.below hb3) (by rw [HL.out]; omega))
        have HB3 := hid_ (HB2.out.trans (hb3.mono HB2.out.size))
        clear hb3
        go_wp2_with fail
        refine HS.out.mono ?_
        rintro e w4 ⟨rfl, hb4⟩
        have HB4 := hid_ (HB3.out.trans (hb4.mono HB3.out.size))
        clear hb4
        go_wp2_with fail
        refine (law_works (HV.out.below HB4.out)).mono ?_
        rintro e w5 ⟨rfl, hb5⟩
        have HB5 := hid_ (HB4.out.trans (hb5.mono HB4.out.size))
        clear hb5
        go_wp2_with fail
        go_ret
        exact ⟨rfl, HB5.out⟩
end Go.Proofs.YtmpdobpnnejmmaaDoor
