/- made: a word that may be. Conditions: those that each theorem names. -/
import Derived.Test.YtmpdobpnnejmmaaDoorBa
import Derived.Test.YtmpdobpnnejmmaaDoorGd
namespace Go.Proofs.YtmpdobpnnejmmaaDoor
open Go.RowKit Go.Maps

/-- What made answers. -/
def MadeP (w : World) (e : Ending) (w' : World) : Prop := (∃ x : Lx.Wd, Lx.Good x ∧ e = .returned (.agg (cellW x).toArray)) ∧ Below w.heap.size w w'
/-- The signs, as made lists them. -/
def signsM : List (List UInt8) := [[124], [123], [125], [40], [41], [91], [93], [44], [58], [58, 58], [46], [61], [61, 61], [43], [60], [60, 58]]
theorem signsM_in : ∀ k, k < 16 → signsM.getD k [] ∈ Lx.signsL := by
  intro k hk
  have h : k = 0 ∨ k = 1 ∨ k = 2 ∨ k = 3 ∨ k = 4 ∨ k = 5 ∨ k = 6 ∨ k = 7 ∨ k = 8 ∨ k = 9 ∨ k = 10 ∨ k = 11 ∨ k = 12 ∨ k = 13 ∨ k = 14 ∨ k = 15 := by omega
  rcases h with rfl | rfl | rfl | rfl | rfl | rfl | rfl | rfl | rfl | rfl | rfl | rfl | rfl | rfl | rfl | rfl <;> decide
theorem keysL_in : ∀ k, k < 18 → Lx.keysL.getD k [] ∈ Lx.keysL := by
  intro k hk
  have h : k < Lx.keysL.length := hk
  rw [List.getD_eq_getElem?_getD, List.getElem?_eq_getElem h]
  exact List.getElem_mem h
/-- The small letters and digits, as made lists them. -/
abbrev alnum : ByteArray := ⟨#[97, 98, 99, 100, 101, 102, 103, 104, 105, 106, 107, 108, 109, 110, 111, 112, 113, 114, 115, 116, 117, 118, 119, 120, 121, 122, 48, 49, 50, 51, 52, 53, 54, 55, 56, 57]⟩
structure MdR (W wr : World) (k : Nat) (u : List UInt8) (v : Value) : Prop where
  own : wr.ownsRow W.heap.size 5 1 v k (octs u)
  bel : Below W.heap.size W wr
  len : u.length = k
  low : u.all Lx.low = true
theorem MdR.below {W wr w2 : World} {k : Nat} {u : List UInt8} {v : Value} (h : MdR W wr k u v) (hb : Below wr.heap.size wr w2) : MdR W w2 k u v :=
  ⟨own_kp h.own (Kp.of_below hb fun _ => False) (fun _ _ h => h), h.bel.trans (hb.mono h.bel.size), h.len, h.low⟩
theorem MdR.add {W wr w2 : World} {k : Nat} {u : List UInt8} {v v' : Value} {c : UInt8} (h : MdR W wr k u v) (hg : wr.grownBy w2 v.ownBlock)
    (hown : w2.ownsRow W.heap.size 5 1 v' (k + 1) (octs u ++ [.int .u8 c.toNat])) (hc : Lx.low c = true) : MdR W w2 (k + 1) (u ++ [c]) v' := by
  refine ⟨?_, h.bel.trans (((Kp.refl (fun q => W.heap.size ≤ q) _).grown hg (fun k hk => .inl (own_base h.own hk))).toBelow h.bel.size (fun q hq e => by omega)), by simp [h.len], by simp [h.low, hc]⟩
  have e : octs (u ++ [c]) = octs u ++ [.int .u8 c.toNat] := by unfold octs; simp
  rw [e]
  exact hown
theorem news_one (w : World) (x : Value) (t : TypeId) : ∀ ad, some (⟨w.heap.size, 0, none⟩ : Addr) = some ad → ∀ (j : Nat) u, [x][j]? = some u → (w.alloc (.cells #[x] t)).cell? (ad.add j) = some u := by
  intro ad had j u hu
  injection had with had
  subst had
  exact World.news_of_block (heap_alloc_new w (.cells #[x] t)) j u hu
theorem alnum_low : ∀ (i : Nat) (h : i < alnum.size), Lx.low (alnum[i]'h) = true := by
  intro i h
  have h2 : i < 36 := h
  have h3 : ∀ i : Fin 36, Lx.low (alnum[i.1]'(i.2)) = true := by decide
  exact h3 ⟨i, h2⟩
theorem MadeP.mk_ {w W : World} {x : Lx.Wd} (hg : Lx.Good x) (hb : Below w.heap.size w W) : MadeP w (.returned (.agg (cellW x).toArray)) W := ⟨⟨x, hg, rfl⟩, hb⟩
theorem dec_len2 : ∀ (k n : Nat), 0 < k → n < 10 ^ k → (Lib.decDigits n).length ≤ k
  | 0, _, h, _ => absurd h (Nat.lt_irrefl _)
  | k + 1, n, _, h => by
    by_cases hs : n < 10
    · rw [dec_small hs]; simp
    · rw [dec_big hs, List.length_append]
      have hk : 0 < k := by
        rcases Nat.eq_zero_or_pos k with rfl | hk
        · simp at h; omega
        · exact hk
      have := dec_len2 k (n / 10) hk (by rw [Nat.pow_succ] at h; omega)
      simp only [List.length_cons, List.length_nil]
      omega
set_option maxHeartbeats 4000000 in
set_option maxRecDepth 100000 in
theorem made_c (w : World) (kind n : Int) (s : ByteArray) (hs : s.size ≤ maxLen) : Calls Tryd.prog 44 #[.int .i64 kind, .int .i64 n, .string s] w (MadeP w) := by
  obtain ⟨i0, hi0, hz0, hz1, hz2⟩ := info_parts Tryd.infoB
  have hs63 : s.size ≤ 9223372036854775807 := by unfold maxLen at hs; exact hs
  go_enter Tryd.func44, Tryd.ntmps44
  go_wp2_with fail
  obtain ⟨W, eW⟩ : ∃ W, W = ((w.alloc (.cells #[.int .i64 0, .string ⟨#[]⟩, .int .i64 0, .int .i64 0] 30)).alloc (.cells (Lx.keysL.map fun k => Value.string (st k)).toArray 9)).alloc (.cells (signsM.map fun k => Value.string (st k)).toArray 9) := ⟨_, rfl⟩
  have eW2 : ((w.alloc (.cells #[.int .i64 0, .string ⟨#[]⟩, .int .i64 0, .int .i64 0] 30)).alloc (.cells #[.string ⟨#[109, 111, 100, 117, 108, 101]⟩, .string ⟨#[105, 109, 112, 111, 114, 116]⟩, .string ⟨#[116, 121, 112, 101]⟩, .string ⟨#[102, 110]⟩, .string ⟨#[108, 101, 116]⟩, .string ⟨#[105, 110]⟩, .string ⟨#[105, 102]⟩, .string ⟨#[116, 104, 101, 110]⟩, .string ⟨#[101, 108, 115, 101]⟩, .string ⟨#[105, 115]⟩, .string ⟨#[97, 115]⟩, .string ⟨#[116, 114, 117, 101]⟩, .string ⟨#[102, 97, 108, 115, 101]⟩, .string ⟨#[110, 117, 108, 108]⟩, .string ⟨#[100, 121, 110]⟩, .string ⟨#[98, 111, 111, 108]⟩, .string ⟨#[105, 110, 116]⟩, .string ⟨#[114, 101, 99]⟩] 9)).alloc (.cells #[.string ⟨#[124]⟩, .string ⟨#[123]⟩, .string ⟨#[125]⟩, .string ⟨#[40]⟩, .string ⟨#[41]⟩, .string ⟨#[91]⟩, .string ⟨#[93]⟩, .string ⟨#[44]⟩, .string ⟨#[58]⟩, .string ⟨#[58, 58]⟩, .string ⟨#[46]⟩, .string ⟨#[61]⟩, .string ⟨#[61, 61]⟩, .string ⟨#[43]⟩, .string ⟨#[60]⟩, .string ⟨#[60, 58]⟩] 9) = W := eW.symm
  have HWb := hid_ (show Below w.heap.size w W from by rw [eW]; exact (((Below.refl _ _).alloc (Nat.le_refl _) _).alloc (by simp) _).alloc (by simp; omega) _)
  have HR := hid_ (show Blk W w.heap.size 30 #[.int .i64 0, .string ⟨#[]⟩, .int .i64 0, .int .i64 0] from by rw [eW]; exact ((Blk.new w _ _).alloc _).alloc _)
  have HK := hid_ (show Blk W (w.heap.size + 1) 9 (Lx.keysL.map fun k => Value.string (st k)).toArray from by rw [eW]; exact (blk_new1 w _ _ _).alloc _)
  have HG := hid_ (show Blk W (w.heap.size + 1 + 1) 9 (signsM.map fun k => Value.string (st k)).toArray from by
    rw [eW]
    have := blk_new1 (w.alloc (.cells #[.int .i64 0, .string ⟨#[]⟩, .int .i64 0, .int .i64 0] 30)) (.cells (Lx.keysL.map fun k => Value.string (st k)).toArray 9) 9 (signsM.map fun k => Value.string (st k)).toArray
    simpa using this)
  rw [eW2]
  clear eW eW2
  go_loopg [9, 10] 15 (fun g t9 t10 wr => ∃ (k : Nat) (u : List UInt8) (v : Value), t9 = v ∧ t10 = .int .i64 k ∧ k ≤ s.size ∧ k ≤ 14 ∧ 15 - k ≤ g ∧ MdR W wr k u v)
  case atStart => exact ⟨0, [], _, rfl, rfl, by omega, by omega, by omega, World.ownsRow_nil _ _ _ _, Below.refl _ _, rfl, rfl⟩
  case round =>
    obtain ⟨k, u, v, rfl, rfl, hk, hk2, hg, hJ⟩ := hrel
    obtain ⟨B, d, rfl⟩ := own_form hJ.own
    have HJ := hid_ hJ
    have hbw := hJ.bel
    clear hJ
    by_cases hin : k < s.size ∧ k < 14
    · obtain ⟨hlt, hlt2⟩ := hin
      have b0 : (0 : Int) ≤ (k : Int) := by omega
      have b1 : (k : Int) < (s.size : Int) := by omega
      have b2 : (k : Int) < 14 := by omega
      have t1 : ((s[k].toNat : Nat) : Int).tmod 36 = ((s[k].toNat % 36 : Nat) : Int) := by rw [Int.tmod_eq_emod_of_nonneg (by omega)]; omega
      have t0 : wrap64 ((s[k].toNat : Nat) : Int) = ((s[k].toNat : Nat) : Int) := by
        have := UInt8.toNat_lt s[k]
        unfold wrap64
        omega
      obtain ⟨m, hm⟩ : ∃ m, m = s[k].toNat % 36 := ⟨_, rfl⟩
      rw [← hm] at t1
      have hm36 : m < 36 := by omega
      have b3 : (0 : Int) ≤ (m : Int) := by omega
      have b4 : (m : Int) < 36 := by omega
      clear hm
      have HW2 := hid_ (fun x => HJ.out.below ((Below.refl wr.heap.size wr).alloc (Nat.le_refl _) (.cells #[x] 5)))
      have HM := hid_ (show k + 1 ≤ maxLen by unfold maxLen; omega)
      have hfl : (k + 1) * 1 ≤ 140737488355328 := by omega
      have HSz := hid_ (fun x => Nat.le_trans HJ.out.bel.size ((Below.refl wr.heap.size wr).alloc (Nat.le_refl _) (.cells #[x] 5)).size)
      clear hbw
      go_wp2_with (first | (at_builtin; go_loud (refine wpList_append_any rfl (.tmp 23) (.tmp 30) 40 rfl W.heap.size 5 i0 _ 1 1 Tryd.underlying40 hi0 hz0 hz1 hz2 rfl (by omega) (.slice B k d) k _ rfl (HW2.out _).own (some ⟨wr.heap.size, 0, none⟩) 1 1 [_] rfl rfl (fun h => by cases h) (news_one wr _ _) (by simp [Value.oneCell']) HM.out (by omega) (HSz.out _) ?_); intro A1 c1 w1 hown hgrow hat; clear hat) | fail)
      have HNx := hid_ ((HW2.out _).add hgrow hown (alnum_low _ _))
      go_roundg (gk - 1)
      case rel => exact ⟨k + 1, _, _, rfl, by go_num, by omega, by omega, by omega, HNx.out⟩
      case measure => omega
    · have hex : (¬ k < s.size) ∨ (k < s.size ∧ ¬ k < 14) := by omega
      have hul := HJ.out.len
      subst hul
      have qc := conv_octs HJ.out.own
      have hR := HR.out.kp (Kp.of_below HJ.out.bel (fun _ => False)) id
      have hK := HK.out.kp (Kp.of_below HJ.out.bel (fun _ => False)) id
      have hG := HG.out.kp (Kp.of_below HJ.out.bel (fun _ => False)) id
      have r0 : wr.cell? ⟨w.heap.size, 0, none⟩ = some (.int .i64 0) := hR.cell 0
      have r1 : wr.cell? ⟨w.heap.size, 1, none⟩ = some (.string ⟨#[]⟩) := hR.cell 1
      have r2 : wr.cell? ⟨w.heap.size, 2, none⟩ = some (.int .i64 0) := hR.cell 2
      have r3 : wr.cell? ⟨w.heap.size, 3, none⟩ = some (.int .i64 0) := hR.cell 3
      have f0 := hR.frozen 0
      have f1 := hR.frozen 1
      have f2 := hR.frozen 2
      have f3 := hR.frozen 3
      have HKc := hid_ (fun k u hu => blk_list hK k u hu)
      have HGc := hid_ (fun k u hu => blk_list hG k u hu)
      clear hR hK hG
      have b0 : (0 : Int) ≤ (u.length : Int) := by omega
      have HLow := hid_ (And.intro HJ.out.low hk2)
      have HB := hid_ (HWb.out.trans (HJ.out.bel.mono HWb.out.size))
      have q8 : ¬ (9223372036854775807 < 1 + (st u).size) := by rw [st_size]; omega
      have q9 : ¬ (9223372036854775807 < 2 + (st u).size) := by rw [st_size]; omega
      clear hbw HJ HWb HR HK HG
      rcases hex with h1 | ⟨h1, h2⟩
      case' inl => have b1 : ¬ (u.length : Int) < (s.size : Int) := by omega
      case' inr =>
        have b1 : (u.length : Int) < (s.size : Int) := by omega
        have b2 : ¬ (u.length : Int) < 14 := by omega
      all_goals
        go_wp2_with fail
        refine (bring_c wr kind 6 (by decide) (by decide)).mono ?_
        rintro e w2 ⟨⟨m, rfl, hm⟩, rfl⟩
        have hcs : m = 0 ∨ m = 1 ∨ m = 2 ∨ m = 3 ∨ m = 4 ∨ m = 5 := by omega
        rcases hcs with rfl | rfl | rfl | rfl | rfl | rfl
        · go_wp2_with fail
          refine bodyPost_ret (v := .agg #[.int .i64 1, .string (⟨#[110, 95]⟩ ++ st u), .int .i64 0, .int .i64 0]) (by simp [results, Tryd.results44, go_sem, r0, r1, r2, r3]) rfl ?_
          rw [show (⟨#[110, 95]⟩ : ByteArray) ++ st u = st (110 :: 95 :: u) from st_append [110, 95] u]
          exact MadeP.mk_ (Lx.good_name HLow.out.1 HLow.out.2) ((((HB.out.setCell (Nat.le_refl _) _).setCell (Nat.le_refl _) _).setCell (Nat.le_refl _) _).setCell (Nat.le_refl _) _)
        · go_wp2_with fail
          refine bodyPost_ret (v := .agg #[.int .i64 2, .string (⟨#[84]⟩ ++ st u), .int .i64 0, .int .i64 0]) (by simp [results, Tryd.results44, go_sem, r0, r1, r2, r3]) rfl ?_
          rw [show (⟨#[84]⟩ : ByteArray) ++ st u = st (84 :: u) from st_append [84] u]
          exact MadeP.mk_ (Lx.good_type HLow.out.1 HLow.out.2) ((((HB.out.setCell (Nat.le_refl _) _).setCell (Nat.le_refl _) _).setCell (Nat.le_refl _) _).setCell (Nat.le_refl _) _)
        · go_wp2_with fail
          refine (bring_c w2 n 2147483648 (by decide) (by decide)).mono ?_
          rintro e w3 ⟨⟨mm, rfl, hmm⟩, rfl⟩
          have HMM := hid_ (show mm ≤ 2147483647 by omega)
          clear hmm
          go_wp2_with fail
          refine (digits_c mm w3 HMM.out).mono ?_
          rintro e w4 ⟨rfl, dn, rfl⟩
          have g0 : (w3.drewN dn).cell? ⟨w.heap.size, 0, none⟩ = some (.int .i64 0) := r0
          have g1 : (w3.drewN dn).cell? ⟨w.heap.size, 1, none⟩ = some (.string ⟨#[]⟩) := r1
          have g2 : (w3.drewN dn).cell? ⟨w.heap.size, 2, none⟩ = some (.int .i64 0) := r2
          have g3 : (w3.drewN dn).cell? ⟨w.heap.size, 3, none⟩ = some (.int .i64 0) := r3
          have j0 : (w3.drewN dn).frozen? ⟨w.heap.size, 0, none⟩ = false := f0
          have j1 : (w3.drewN dn).frozen? ⟨w.heap.size, 1, none⟩ = false := f1
          have j2 : (w3.drewN dn).frozen? ⟨w.heap.size, 2, none⟩ = false := f2
          have j3 : (w3.drewN dn).frozen? ⟨w.heap.size, 3, none⟩ = false := f3
          have HB4 := hid_ (bdrewN HB.out dn)
          generalize w3.drewN dn = w4 at *
          go_wp2_with fail
          refine bodyPost_ret (v := .agg #[.int .i64 3, .string (st (Lib.decDigits mm)), .int .i64 mm, .int .i64 0]) (by simp [results, Tryd.results44, go_sem, g0, g1, g2, g3]) rfl ?_
          exact MadeP.mk_ (Lx.good_num HMM.out (Nat.le_trans (dec_len2 10 mm (by decide) (by have := HMM.out; omega)) (by decide))) ((((HB4.out.setCell (Nat.le_refl _) _).setCell (Nat.le_refl _) _).setCell (Nat.le_refl _) _).setCell (Nat.le_refl _) _)
        · go_wp2_with fail
          refine bodyPost_ret (v := .agg #[.int .i64 4, .string (⟨#[116]⟩ ++ st u), .int .i64 0, .int .i64 0]) (by simp [results, Tryd.results44, go_sem, r0, r1, r2, r3]) rfl ?_
          rw [show (⟨#[116]⟩ : ByteArray) ++ st u = st (116 :: u) from st_append [116] u]
          exact MadeP.mk_ (Lx.good_tag HLow.out.1 HLow.out.2) ((((HB.out.setCell (Nat.le_refl _) _).setCell (Nat.le_refl _) _).setCell (Nat.le_refl _) _).setCell (Nat.le_refl _) _)
        · go_wp2_with fail
          refine (bring_c w2 n 18 (by decide) (by decide)).mono ?_
          rintro e w3 ⟨⟨mm, rfl, hmm⟩, rfl⟩
          have hm18 : mm < 18 := by omega
          have c0 : w3.cell? ⟨w.heap.size + 1, mm, none⟩ = some (.string (st (Lx.keysL.getD mm []))) := HKc.out mm _ (by rw [List.getElem?_map, List.getD_eq_getElem?_getD, List.getElem?_eq_getElem (show mm < Lx.keysL.length from hm18)]; rfl)
          have c1 : (0 : Int) ≤ (mm : Int) := by omega
          go_wp2_with fail
          refine bodyPost_ret (v := .agg #[.int .i64 5, .string (st (Lx.keysL.getD mm [])), .int .i64 0, .int .i64 0]) (by simp [results, Tryd.results44, go_sem, r0, r1, r2, r3]) rfl ?_
          exact MadeP.mk_ (Lx.good_key (keysL_in mm hm18)) ((((HB.out.setCell (Nat.le_refl _) _).setCell (Nat.le_refl _) _).setCell (Nat.le_refl _) _).setCell (Nat.le_refl _) _)
        · go_wp2_with fail
          refine (bring_c w2 n 16 (by decide) (by decide)).mono ?_
          rintro e w3 ⟨⟨mm, rfl, hmm⟩, rfl⟩
          have hm16 : mm < 16 := by omega
          have c0 : w3.cell? ⟨w.heap.size + 1 + 1, mm, none⟩ = some (.string (st (signsM.getD mm []))) := HGc.out mm _ (by rw [List.getElem?_map, List.getD_eq_getElem?_getD, List.getElem?_eq_getElem (show mm < signsM.length from hm16)]; rfl)
          have c1 : (0 : Int) ≤ (mm : Int) := by omega
          go_wp2_with fail
          refine bodyPost_ret (v := .agg #[.int .i64 6, .string (st (signsM.getD mm [])), .int .i64 0, .int .i64 0]) (by simp [results, Tryd.results44, go_sem, r0, r1, r2, r3]) rfl ?_
          exact MadeP.mk_ (Lx.good_sign (signsM_in mm hm16)) ((((HB.out.setCell (Nat.le_refl _) _).setCell (Nat.le_refl _) _).setCell (Nat.le_refl _) _).setCell (Nat.le_refl _) _)
end Go.Proofs.YtmpdobpnnejmmaaDoor
