/- LexKnown: the walk. Conditions: those that each theorem names. -/
import Derived.Test.YtmpdobpnnejmmaaDoorWb
import Derived.Test.YtmpdobpnnejmmaaDoorUa
namespace Go.Proofs.YtmpdobpnnejmmaaDoor
open Go.RowKit Go.Maps

/-- The texts of the second loop. -/
def knownT : List (List UInt8) := [[], [97, 98, 99, 100, 101, 102, 103, 104, 105, 106, 107, 108, 109, 110, 111, 112], [97, 98, 99, 100, 101, 102, 103, 104, 105, 106, 107, 108, 109, 110, 111, 112, 113], [65, 98, 99, 100, 101, 102, 103, 104, 105, 106, 107, 108, 109, 110, 111, 112], [65, 97, 98, 99, 100, 101, 102, 103, 104, 105, 106, 107, 108, 109, 110, 111, 112], [39, 97, 98, 99, 100, 101, 102, 103, 104, 105, 106, 107, 108, 109, 110, 111, 112], [39, 97, 98, 99, 100, 101, 102, 103, 104, 105, 106, 107, 108, 109, 110, 111, 112, 113], [39, 108, 101, 116], [50, 49, 52, 55, 52, 56, 51, 54, 52, 55], [50, 49, 52, 55, 52, 56, 51, 54, 52, 56], [57, 57, 57, 57, 57, 57, 57, 57, 57, 57, 57, 57, 57, 57, 57, 57, 57, 57, 57, 57], [48, 48], [48], [97, 39, 98], [97, 46, 98, 46, 99], [123, 97, 58, 49, 125], [120, 60, 58, 121], [120, 60, 121], [61, 61, 61], [58, 58, 58, 58], [35, 32, 111, 110, 108, 121], [35]]
theorem known_len : ∀ k, (knownT.getD k []).length ≤ 20 := by
  intro k
  rw [List.getD_eq_getElem?_getD]
  cases h : knownT[k]? with
  | none => decide
  | some t =>
    have h2 : ∀ t ∈ knownT, t.length ≤ 20 := by decide
    exact h2 t (List.mem_of_getElem? h)
set_option maxRecDepth 100000 in
theorem knownT_is : (#[.string ⟨#[]⟩, .string ⟨#[97, 98, 99, 100, 101, 102, 103, 104, 105, 106, 107, 108, 109, 110, 111, 112]⟩, .string (⟨#[97, 98, 99, 100, 101, 102, 103, 104, 105, 106, 107, 108, 109, 110, 111, 112]⟩ ++ ⟨#[113]⟩), .string (⟨#[65]⟩ ++ ByteArray.extract ⟨#[97, 98, 99, 100, 101, 102, 103, 104, 105, 106, 107, 108, 109, 110, 111, 112]⟩ 1 16), .string (⟨#[65]⟩ ++ ⟨#[97, 98, 99, 100, 101, 102, 103, 104, 105, 106, 107, 108, 109, 110, 111, 112]⟩), .string (⟨#[39]⟩ ++ ⟨#[97, 98, 99, 100, 101, 102, 103, 104, 105, 106, 107, 108, 109, 110, 111, 112]⟩), .string (⟨#[39]⟩ ++ ⟨#[97, 98, 99, 100, 101, 102, 103, 104, 105, 106, 107, 108, 109, 110, 111, 112]⟩ ++ ⟨#[113]⟩), .string ⟨#[39, 108, 101, 116]⟩, .string ⟨#[50, 49, 52, 55, 52, 56, 51, 54, 52, 55]⟩, .string ⟨#[50, 49, 52, 55, 52, 56, 51, 54, 52, 56]⟩, .string ⟨#[57, 57, 57, 57, 57, 57, 57, 57, 57, 57, 57, 57, 57, 57, 57, 57, 57, 57, 57, 57]⟩, .string ⟨#[48, 48]⟩, .string ⟨#[48]⟩, .string ⟨#[97, 39, 98]⟩, .string ⟨#[97, 46, 98, 46, 99]⟩, .string ⟨#[123, 97, 58, 49, 125]⟩, .string ⟨#[120, 60, 58, 121]⟩, .string ⟨#[120, 60, 121]⟩, .string ⟨#[61, 61, 61]⟩, .string ⟨#[58, 58, 58, 58]⟩, .string ⟨#[35, 32, 111, 110, 108, 121]⟩, .string ⟨#[35]⟩] : Array Value) = (knownT.map fun t => Value.string (st t)).toArray := by kernel_rfl
theorem ls_new (W : World) (t : TypeId) (ws : List Lx.Wd) (c : Nat) : LsAt cellW 4 (W.alloc (.cells (flatW ws).toArray t)) (.slice (some ⟨W.heap.size, 0, none⟩) ws.length c) ws := by
  refine ⟨_, _, rfl, fun _ => ⟨_, _, rfl, fun j hj i hi => ?_⟩⟩
  rw [(Blk.new W t (flatW ws).toArray).cell, Nat.zero_add, List.getElem?_toArray]
  exact flat_at ws j hj i hi
/-- One byte of a slice as a text. -/
theorem conv_one (W : World) (o : UInt8) : (convert 40 9 (.slice (some ⟨W.heap.size, 0, none⟩) 1 1)).run Tryd.prog (W.alloc (.cells #[.int .u8 o.toNat] 5)) = .ok (.string (st [o])) (W.alloc (.cells #[.int .u8 o.toNat] 5)) := by
  refine run_convert_bytes_back _ 40 9 5 ⟨W.heap.size, 0, none⟩ 1 [o] Tryd.underlying40 Tryd.underlying5 Tryd.underlying9 fun j hj => ?_
  have hj0 : j = 0 := by simpa using hj
  subst hj0
  rw [add_at]
  exact (Blk.new W 5 #[.int .u8 o.toNat]).cell 0
theorem conv_rep {W : World} {g : Nat} {cs : Array Value} (hB : Blk W g 5 cs) (off n d : Nat) (h : ∀ j, j < n → cs[off + j]? = some (.int .u8 32)) : (convert 40 9 (.slice (some ⟨g, off, none⟩) n d)).run Tryd.prog W = .ok (.string (st (List.replicate n 32))) W := by
  have h1 := run_convert_bytes_back W 40 9 5 ⟨g, off, none⟩ d (List.replicate n 32) Tryd.underlying40 Tryd.underlying5 Tryd.underlying9 (fun j hj => by
    rw [List.length_replicate] at hj
    rw [add_pl, hB.cell, h j hj, List.getElem_replicate]
    rfl)
  rw [List.length_replicate] at h1
  exact h1
theorem skip_rep : ∀ n : Nat, Lx.skip false (List.replicate n 32) = []
  | 0 => rfl
  | n + 1 => by
    rw [List.replicate_succ]
    exact skip_rep n
theorem words_big (n : Nat) (h : 65536 < n) : wordsR (st (List.replicate n 32)) = ([], 0, 5) := by
  unfold wordsR
  rw [if_pos (by rw [st_size, List.length_replicate]; exact h)]
theorem words_rep (n : Nat) (h : n ≤ 65536) : wordsR (st (List.replicate n 32)) = ([endW (st (List.replicate n 32))], 0, 0) := by
  unfold wordsR
  rw [if_neg (by rw [st_size, List.length_replicate]; omega), bl_st]
  have e : Lx.cut (List.replicate n 32) = .ok [] := by
    unfold Lx.cut Lx.cutF
    rw [skip_rep]
  rw [e]
  rfl
/-- The loop that fills with blanks. -/
structure FiR (w0 wr : World) (g N k : Nat) : Prop where
  blk : ∃ cs, Blk wr g 5 cs ∧ cs.size = N ∧ ∀ j, j < k → cs[j]? = some (.int .u8 32)
  kp : Kp (fun q => q = g) w0 wr
theorem FiR.next {w0 wr : World} {g N k : Nat} (h : FiR w0 wr g N k) (hk : k < N) : FiR w0 (wr.setCell ⟨g, k, none⟩ (.int .u8 32)) g N (k + 1) := by
  obtain ⟨cs, h1, h2, h3⟩ := h.blk
  refine ⟨⟨_, h1.set_ k _, by simp [h2], fun j hj => ?_⟩, h.kp.setCell (.inl rfl) _⟩
  rw [Array.getElem?_setIfInBounds]
  by_cases e : k = j
  · subst e
    rw [if_pos rfl, if_pos (by omega)]
  · rw [if_neg e]
    exact h3 j (by omega)
set_option maxHeartbeats 4000000 in
set_option maxRecDepth 100000 in
theorem lexKnown_walk {w : World} (hv : Env w) : Calls Tryd.prog 9 #[] w fun e w' => e = .returned (.bool true) ∧ Below w.heap.size w w' := by
  have HV := hid_ hv
  clear hv
  go_enter Tryd.func9, Tryd.ntmps9
  go_wp2_with fail
  go_loopw [1, 2] (fun v1 _ wr => Below w.heap.size w wr ∧ ∃ k : Nat, v1 = .int .i64 k ∧ k ≤ 256) (fun v1 _ _ => 256 - (intOf v1).toNat)
  case atStart => exact ⟨Below.refl _ _, 0, rfl, by omega⟩
  case round =>
    obtain ⟨hbw, k, rfl, hk⟩ := hrel
    by_cases hlt : k < 256
    · have b0 : (0 : Int) ≤ (k : Int) := by omega
      have b1 : (k : Int) < 256 := by omega
      have HB := hid_ (hbw.trans (((Below.refl wr.heap.size wr).alloc (Nat.le_refl _) (.cells #[.int .u8 (UInt8.ofNat k).toNat] 5)).mono hbw.size))
      have ho : (UInt8.ofNat k).toNat = k := by simp; omega
      have qc := conv_one wr (UInt8.ofNat k)
      rw [ho] at qc HB
      have hs1 : (st [UInt8.ofNat k]).size = 1 := by rw [st_size]; rfl
      have w1 : IntKind.u8.wrap (k : Int) = (k : Int) := by unfold IntKind.wrap; simp [IntKind.bits, IntKind.signed]; omega
      generalize st [UInt8.ofNat k] = s at *
      clear ho hbw
      go_wp2_with fail
      refine (lexCuts_walk (HV.out.below HB.out) _).mono ?_
      rintro e wa ⟨rfl, hb⟩
      have HB := hid_ (HB.out.trans (hb.mono HB.out.size))
      clear hb
      go_wp2_with fail
      refine (lexCuts_walk (HV.out.below HB.out) _).mono ?_
      rintro e wa ⟨rfl, hb⟩
      have HB := hid_ (HB.out.trans (hb.mono HB.out.size))
      clear hb
      go_wp2_with fail
      refine (lexCuts_walk (HV.out.below HB.out) _).mono ?_
      rintro e wa ⟨rfl, hb⟩
      have HB := hid_ (HB.out.trans (hb.mono HB.out.size))
      clear hb
      go_wp2_with fail
      refine (lexCuts_walk (HV.out.below HB.out) _).mono ?_
      rintro e wa ⟨rfl, hb⟩
      have HB := hid_ (HB.out.trans (hb.mono HB.out.size))
      clear hb
      go_wp2_with fail
      refine (lexCuts_walk (HV.out.below HB.out) _).mono ?_
      rintro e wa ⟨rfl, hb⟩
      have HB := hid_ (HB.out.trans (hb.mono HB.out.size))
      clear hb
      go_wp2_with fail
      refine (lexCuts_walk (HV.out.below HB.out) _).mono ?_
      rintro e wa ⟨rfl, hb⟩
      have HB := hid_ (HB.out.trans (hb.mono HB.out.size))
      clear hb
      go_wp2_with fail
      refine (lexCuts_walk (HV.out.below HB.out) _).mono ?_
      rintro e wa ⟨rfl, hb⟩
      have HB := hid_ (HB.out.trans (hb.mono HB.out.size))
      clear hb
      go_wp2_with fail
      refine (lexCuts_walk (HV.out.below HB.out) _).mono ?_
      rintro e wa ⟨rfl, hb⟩
      have HB := hid_ (HB.out.trans (hb.mono HB.out.size))
      clear hb
      go_wp2_with fail
      refine (lexCuts_walk (HV.out.below HB.out) _).mono ?_
      rintro e wa ⟨rfl, hb⟩
      have HB := hid_ (HB.out.trans (hb.mono HB.out.size))
      clear hb
      go_wp2_with fail
      refine (lexCuts_walk (HV.out.below HB.out) _).mono ?_
      rintro e wa ⟨rfl, hb⟩
      have HB := hid_ (HB.out.trans (hb.mono HB.out.size))
      clear hb
      go_wp2_with fail
      refine (lexCuts_walk (HV.out.below HB.out) _).mono ?_
      rintro e wa ⟨rfl, hb⟩
      have HB := hid_ (HB.out.trans (hb.mono HB.out.size))
      clear hb
      go_wp2_with fail
      go_roundw
      case rel => exact ⟨HB.out, k + 1, by go_num, by omega⟩
      case measure => (simp [intOf] <;> omega)
    · have b1 : ¬ (k : Int) < 256 := by omega
      have HB := hid_ hbw
      clear hbw
      go_wp2_with fail
      rw [knownT_is]
      obtain ⟨W, eW⟩ : ∃ W, W = wr.alloc (.cells (knownT.map fun t => Value.string (st t)).toArray 9) := ⟨_, rfl⟩
      have HO := hid_ (show Blk W wr.heap.size 9 (knownT.map fun t => Value.string (st t)).toArray from by rw [eW]; exact Blk.new _ _ _)
      have HBW := hid_ (show Below w.heap.size w W from by rw [eW]; exact HB.out.trans (((Below.refl _ _).alloc (Nat.le_refl _) _).mono HB.out.size))
      rw [← eW]
      obtain ⟨ob, hob⟩ : ∃ ob, ob = wr.heap.size := ⟨_, rfl⟩
      rw [← hob] at HO ⊢
      clear eW HB hob
      clear b1 hlt hk
      go_loopw [5] (fun v1 wq => Below W.heap.size W wq ∧ ∃ k : Nat, v1 = .int .i64 k ∧ k ≤ 22) (fun v1 _ => 22 - (intOf v1).toNat)
      case atStart => exact ⟨Below.refl _ _, 0, rfl, by omega⟩
      case round =>
        obtain ⟨hbw, k, rfl, hk⟩ := hrel
        by_cases hlt : k < 22
        · have b0 : (0 : Int) ≤ (k : Int) := by omega
          have b1 : (k : Int) < 22 := by omega
          have x0 : W.cell? ⟨ob, k, none⟩ = some (.string (st (knownT.getD k []))) := blk_list HO.out k _ (by rw [List.getElem?_map, List.getD_eq_getElem?_getD, List.getElem?_eq_getElem (show k < knownT.length from hlt)]; rfl)
          have hsz : (st (knownT.getD k [])).size ≤ 20 := by rw [st_size]; exact known_len k
          have HLs := hid_ (fun W' : World => ls_new W' 30 [⟨4, knownT.getD k [], 0, 0⟩, ⟨k, knownT.getD k [], 0, 0⟩, ⟨7, knownT.getD k [], 0, 0⟩, ⟨0, [], 0, 0⟩] 4)
          generalize knownT.getD k [] = t at *
          have q1 : ¬ (9223372036854775807 < (st t).size + 1) := by omega
          have q2 : ¬ (9223372036854775807 < (st t).size + 1 + (st t).size) := by omega
          have q3 : ¬ (9223372036854775807 < (st t).size + (st t).size) := by omega
          have DK := hid_ (fun (W' : World) (h : Below W.heap.size W W') => (below_cell h x0 : W'.cell? ⟨ob, k, none⟩ = some (.string (st t))))
          have EV := hid_ (fun (W' : World) (h : Below W.heap.size W W') => HV.out.below (HBW.out.trans (h.mono HBW.out.size)))
          have c0 := DK.out _ hbw
          have RB := hid_ (hbw.trans ((Below.refl wr.heap.size wr).drew.mono hbw.size))
          clear hbw x0 hsz
          go_wp2_with fail
          go_region_held3 (fun W' => W'.cell? ⟨ob, k, none⟩ = some (.string (st t)))
            (first | exact DK.out _ RB.out | exact DK.out _ (RB.out.alloc RB.out.size _))
            (first
              | (go_at_call 3; refine (lexCuts_walk (EV.out _ RB.out) _).mono ?_; rintro e wa ⟨rfl, hb⟩; have RB := hid_ (RB.out.trans (hb.mono RB.out.size)))
              | (go_at_call 5; refine (lexJoins_walk (EV.out _ (RB.out.alloc RB.out.size _)) (HLs.out _) (by simp)).mono ?_; rintro e wa ⟨rfl, hb⟩; have RB := hid_ ((RB.out.alloc RB.out.size _).trans (hb.mono (RB.out.alloc RB.out.size _).size))))
          all_goals
            go_wp2_with fail
            go_roundw
            case rel => exact ⟨RB.out, k + 1, by go_num, by omega⟩
            case measure => (simp [intOf] <;> omega)
        · have b1 : ¬ (k : Int) < 22 := by omega
          obtain ⟨i0, hi0, hz0, hz1, hz2⟩ := info_parts Tryd.infoB
          obtain ⟨N, hN⟩ : ∃ N : Nat, N = 65537 := ⟨_, rfl⟩
          have hNi : (65537 : Int) = (N : Int) := by omega
          have HNi := hid_ hNi
          have HNb := hid_ (show i0.bytes * N ≤ 281474976710656 by rw [hz2]; omega)
          have HNm := hid_ (show N ≤ maxLen by unfold maxLen; omega)
          have HN := hid_ hN
          have HB := hid_ (HBW.out.trans (hbw.mono HBW.out.size))
          clear hN hNi hbw HO
          go_wp2_with (first | (at_make; go_loud (refine wpList_make_full _ rfl _ _ 40 rfl wr.heap.size 5 i0 (.int .u8 0) 1 Tryd.underlying40 hi0 hz0 hz1 .i64 .i64 65537 65537 N rfl rfl HNi.out HNi.out HNb.out HNm.out (Nat.le_refl _) ?_); intro w1 hown hgrow) | fail)
          obtain ⟨g, hgb, hg0⟩ : ∃ g, g = wr.heap.size ∧ w.heap.size ≤ g := ⟨_, rfl, HB.out.size⟩
          rw [← hgb] at hown ⊢
          have HF0 := hid_ (show FiR w1 w1 g N 0 from by
            rcases hown.2 with ⟨hv, _⟩ | ⟨g', cap, cur, hv, _, hh, _, _, hsz, _⟩
            · cases hv
            · injection hv with hv h1 h2
              injection hv with hv
              injection hv with hv
              subst hv
              exact ⟨⟨cur, hh, by rw [hsz, Nat.mul_one]; exact h2.symm, fun j hj => by omega⟩, Kp.refl _ _⟩)
          have HB1 := hid_ (show Below w.heap.size w w1 from HB.out.trans (((Kp.refl (fun _ => False) wr).grown hgrow (fun k hk => by cases hk)).toBelow HB.out.size (fun q hq e => e)))
          clear hown hgrow hgb b1 hk hlt
          go_loopw [7] (fun v wr => ∃ k : Nat, v = .int .i64 k ∧ k ≤ N ∧ FiR w1 wr g N k) (fun v _ => N - (intOf v).toNat)
          case atStart => exact ⟨0, rfl, by omega, HF0.out⟩
          case round =>
            obtain ⟨k, rfl, hk, hF⟩ := hrel
            have HF := hid_ hF
            by_cases hlt : k < N
            · have b0 : (0 : Int) ≤ (k : Int) := by omega
              have b1 : (k : Int) < (N : Int) := by omega
              have HNx := hid_ (hF.next hlt)
              obtain ⟨cs, h1, h2, _⟩ := hF.blk
              have c0 : wr.cell? ⟨g, k, none⟩ = some (cs[k]'(by omega)) := (h1.cell k).trans (Array.getElem?_eq_getElem _)
              have f0 := h1.frozen k
              generalize cs[k]'(by omega) = cv at c0
              have hkN : k + 1 ≤ 65537 := by have := HN.out; omega
              clear h1 h2 hF
              go_wp2_with fail
              go_roundw
              case rel => exact ⟨k + 1, by go_num, by omega, HNx.out⟩
              case measure => (simp [intOf] <;> omega)
            · have b1 : ¬ (k : Int) < (N : Int) := by omega
              have hkN : k = N := by omega
              subst hkN
              obtain ⟨cs, h1, h2, h3⟩ := hF.blk
              have q1 := conv_rep h1 0 k k (fun j hj => by rw [Nat.zero_add]; exact h3 j hj)
              have HBk := hid_ h1
              have H3 := hid_ h3
              have HB2 := hid_ (HB1.out.trans (hF.kp.toBelow HB1.out.size (fun q hq e => by omega)))
              have hS1 : (st (List.replicate k 32)).size ≤ 1000000000 := by rw [st_size, List.length_replicate]; have := HN.out; omega
              have HW1 := hid_ (words_big k (by have := HN.out; omega))
              have HW2 := hid_ (words_rep (k - 1) (by have := HN.out; omega))
              have hS2 : (st (List.replicate (k - 1) 32)).size ≤ 1000000000 := by rw [st_size, List.length_replicate]; have := HN.out; omega
              have hS3 : (((st (List.replicate (k - 1) 32)).size : Nat) : Int) = 65536 := by rw [st_size, List.length_replicate]; have := HN.out; omega
              have H3s := hid_ hS3
              generalize st (List.replicate k 32) = S1 at *
              obtain ⟨S2, hE2⟩ : ∃ S2, S2 = st (List.replicate (k - 1) 32) := ⟨_, rfl⟩
              have HE2 := hid_ hE2
              rw [← hE2] at HW2 hS2 H3s
              clear hE2
              clear hF h1 h2 h3 hS3
              go_wp2_with fail
              refine (lex_WordsU (HV.out.below HB2.out) S1 hS1).mono ?_
              rw [HW1.out]
              rintro e w5 ⟨v5, hws5, rfl, hb5⟩
              obtain ⟨A5, d5, rfl, _, _⟩ := hws5
              have HB5 := hid_ (HB2.out.trans (hb5.mono HB2.out.size))
              have hB5 := HBk.out.kp (Kp.of_below hb5 (fun _ => False)) id
              have q2 := conv_rep hB5 1 (k - 1) (k - 1) (fun j hj => H3.out (1 + j) (by omega))
              have n1 : ¬ (k = 1) := by have := HN.out; omega
              have n2 : 1 ≤ k := by have := HN.out; omega
              have n3 : (1 : Int) ≤ (k : Int) := by omega
              rw [← HE2.out] at q2
              clear hb5 hB5 q1
              go_wp2_with fail
              refine (lex_WordsU (HV.out.below HB5.out) S2 hS2).mono ?_
              rw [HW2.out]
              rintro e w6 ⟨v6, hws6, rfl, hb6⟩
              obtain ⟨A6, d6, rfl, hn6, hA6⟩ := hws6
              have HB6 := hid_ (HB5.out.trans (hb6.mono HB5.out.size))
              clear hb6 q2
              dsimp only at hn6 hA6 ⊢
              cases A6 with
              | none => have := hn6 rfl; simp at this
              | some ad =>
                obtain ⟨b6, off6, n6⟩ := ad
                obtain ⟨rfl, hc6⟩ := hA6 b6 off6 n6 rfl
                have y3 : w6.cell? ⟨b6, off6 + 3, none⟩ = some (.int .i64 65536) := by
                  have h1 := hc6 0 (by simp) 3 (by omega)
                  rw [Nat.zero_mul, Nat.add_zero] at h1
                  rw [h1]
                  show some (Value.int .i64 (((S2.size : Nat) : Int))) = _
                  rw [H3s.out]
                have HY := hid_ y3
                clear hn6 hA6 hc6 y3
                go_wp2_with fail
                refine (law_works (HV.out.below HB6.out)).mono ?_
                rintro e w7 ⟨rfl, hb7⟩
                have HB7 := hid_ (HB6.out.trans (hb7.mono HB6.out.size))
                have y3 := below_cell hb7 HY.out
                clear hb7
                go_wp2_with fail
                go_ret
                exact ⟨rfl, HB7.out⟩
end Go.Proofs.YtmpdobpnnejmmaaDoor
