/- The reference cache: its functions Get, Drop, Keys; the laws' has. Conditions: those that each theorem names. -/
import Derived.Test.YtogedbednfbkmaaId
namespace Go.Proofs.Ytogedbednfbkmaa
open Go.RowKit Go.Maps

section
variable {X : Nat → Prop} {w w' w1 : World} {mb : Nat} {c c2 : Cs}
set_option maxHeartbeats 1000000 in
set_option maxRecDepth 100000 in
/-- Drop. -/
theorem rdrop_c (h : Rm X w mb c) (hn : (c.S.map En.key).Nodup) (k : ByteArray) (hS : c.S.length ≤ 900) :
    Calls Try.prog 47 #[.pointer (some ⟨mb, 0, none⟩), .string k] w fun e w' => e = .returned (.bool (dropC c k).1) ∧ RmLeft X w mb (dropC c k).2 w' := by
  have HAt := hid_ (at_c h k (by omega))
  have HH := hid_ h
  have HN := hid_ hn
  clear h hn
  go_enter Try.func47, Try.ntmps47
  go_wp2_with fail
  refine HAt.out.mono ?_
  rintro e w' ⟨rfl, z, rfl, hz⟩
  have HZ := hid_ hz
  clear hz HAt
  rcases HZ.out with ⟨i, hi, hik, rfl⟩ | ⟨hno, rfl⟩
  · have b0 : ¬ (i : Int) < 0 := by omega
    have HOu := hid_ (rout_c HH.out hi (by omega))
    have HE := hid_ (outE_erase HN.out hi hik)
    have HD := hid_ (show (dropC c k).1 = true from hasE_iff.2 (by rw [← hik]; exact List.mem_map.2 ⟨_, List.getElem_mem hi, rfl⟩))
    clear hik
    go_wp2_with fail
    refine HOu.out.mono ?_
    rintro e w1 ⟨A1, c1, rfl, _, hl⟩
    rw [HE.out] at hl
    have HL := hid_ hl
    clear hl HOu
    go_wp2
    go_ret
    exact ⟨by rw [HD.out]; rfl, HL.out⟩
  · have HD := hid_ (show (dropC c k).1 = false from hno)
    have HL := hid_ (show RmLeft X w mb (dropC c k).2 w from by
      have e : (dropC c k).2 = c := by unfold dropC; rw [outE_none (hasE_not.1 hno)]
      rw [e]; exact HH.out.here)
    clear hno
    go_wp2
    go_ret
    exact ⟨by rw [HD.out]; rfl, HL.out⟩

set_option maxHeartbeats 1000000 in
set_option maxRecDepth 100000 in
/-- Get: there is none. -/
theorem rget_no (h : Rm X w mb c) (k : ByteArray) (hS : c.S.length ≤ 900) (hm : 0 ≤ c.missed ∧ c.missed ≤ 1000000) (hg : getE k c.S = none) :
    Calls Try.prog 46 #[.pointer (some ⟨mb, 0, none⟩), .string k] w fun e w' => e = .returned (.tuple #[.slice none 0 0, .bool false]) ∧ RmLeft X w mb (getC c k).2 w' := by
  have HAt := hid_ (at_c h k (by omega))
  have HH := hid_ h
  have HG := hid_ hg
  obtain ⟨A, cap, hB⟩ := h.head
  have c4 : w.cell? ⟨mb, 4, none⟩ = some (.int .i64 c.missed) := hB.cell 4
  have f4 := hB.frozen 4
  have q1 : IntKind.i64.wrap (c.missed + 1) = c.missed + 1 := IntWalk.i64_in _ (by omega)
  clear h hg hB
  go_enter Try.func46, Try.ntmps46
  go_wp2_with fail
  refine HAt.out.mono ?_
  rintro e w' ⟨rfl, z, rfl, hz⟩
  have HZ := hid_ hz
  clear hz HAt
  have hz2 : z = -1 := by
    rcases HZ.out with ⟨i, hi, hik, _⟩ | ⟨_, h⟩
    · have h1 : hasE k c.S = true := hasE_iff.2 (by rw [← hik]; exact List.mem_map.2 ⟨_, List.getElem_mem hi, rfl⟩)
      rw [getE_none_has HG.out] at h1
      cases h1
    · exact h
  subst hz2
  have HL := hid_ (show RmLeft X w mb (getC c k).2 (w.setCell ⟨mb, 4, none⟩ (.int .i64 (c.missed + 1))) from by
    have e : (getC c k).2 = { c with missed := c.missed + 1 } := by unfold getC; rw [HG.out]
    rw [e]
    exact HH.out.here.set_ 4 _ rfl (fun s => rfl))
  clear HZ
  go_wp2
  go_ret2
  exact ⟨rfl, HL.out⟩

set_option maxHeartbeats 2000000 in
set_option maxRecDepth 100000 in
/-- Get: there is one. -/
theorem rget_yes (h : Rm X w mb c) (ho : Ok c) (k : ByteArray) (hS : c.S.length ≤ 900) (hu : c.uses ≤ 1000000) {x : En} (hl : x.val.length ≤ 2000000000) (hg : getE k c.S = some x) :
    Calls Try.prog 46 #[.pointer (some ⟨mb, 0, none⟩), .string k] w fun e w' => ∃ A' c', e = .returned (.tuple #[.slice A' x.val.length c', .bool true]) ∧ RdB w' A' x.val.length c' x.val ∧ RmLeft X w mb (getC c k).2 w' := by
  have HAt := hid_ (at_c h k (by omega))
  have HH := hid_ h
  have HO := hid_ ho
  have HG := hid_ hg
  obtain ⟨A, cap, hB⟩ := h.head
  have c3 : w.cell? ⟨mb, 3, none⟩ = some (.int .i64 c.found) := hB.cell 3
  have f3 := hB.frozen 3
  have hfn := ho.fnd
  have q1 : IntKind.i64.wrap (c.found + 1) = c.found + 1 := IntWalk.i64_in _ (by omega)
  obtain ⟨hx, hxk⟩ := getE_some hg
  have HX := hid_ (And.intro hx hxk)
  clear h ho hg hB hx hxk
  go_enter Try.func46, Try.ntmps46
  go_wp2_with fail
  refine HAt.out.mono ?_
  rintro e w' ⟨rfl, z, rfl, hz⟩
  have HZ := hid_ hz
  clear hz HAt
  have hz2 : ∃ i : Nat, ∃ hi : i < c.S.length, c.S[i] = x ∧ z = i := by
    rcases HZ.out with ⟨i, hi, hik, h⟩ | ⟨h, _⟩
    · refine ⟨i, hi, ?_, h⟩
      have h1 := getE_of HO.out.gd.once (List.getElem_mem hi) hik
      rw [HG.out] at h1
      injection h1 with h1
      exact h1.symm
    · have h1 := getE_none h
      rw [HG.out] at h1
      cases h1
  obtain ⟨i, hi, hix, rfl⟩ := hz2
  have b0 : ¬ (i : Int) < 0 := by omega
  have HR1 := hid_ (show RmLeft X w mb { c with found := c.found + 1 } (w.setCell ⟨mb, 3, none⟩ (.int .i64 (c.found + 1))) from HH.out.here.set_ 3 _ rfl (fun s => rfl))
  have hOu := rout_c HR1.out.rm (i := i) hi (by show c.S.length ≤ 1000; omega)
  have e1 : ({ c with found := c.found + 1 } : Cs).S[i] = x := hix
  rw [e1] at hOu
  have HOu := hid_ hOu
  have HE := hid_ (show c.S.eraseIdx i = outE k c.S from outE_erase HO.out.gd.once hi (by rw [hix]; exact HX.out.2))
  have HC := hid_ (show getC c k = (some x.val, useE { c with found := c.found + 1 } x (outE k c.S)) by unfold getC; rw [HG.out])
  clear HZ hOu e1 hix
  go_wp2_with fail
  refine HOu.out.mono ?_
  rintro e w1 ⟨A1, c1, rfl, hv1, hl1⟩
  have hl2 := HR1.out.then_ hl1
  have e2 : ({ c with found := c.found + 1, S := c.S.eraseIdx i } : Cs) = { c with found := c.found + 1, S := outE k c.S } := by rw [HE.out]
  have HL2 := hid_ (show RmLeft X w mb { c with found := c.found + 1, S := outE k c.S } w1 by rw [← e2]; exact hl2)
  have hBw := HR1.out.rm.head
  have HV1 := hid_ (show Vl (fun q => X q ∨ w.heap.size ≤ q) w1 (.slice A1 x.val.length c1) x.val by
    obtain ⟨A2, c2, hB2⟩ := hBw
    exact hv1.kp hl1.kp (fun q cs _ hb e => hB2.ne_ hb (by decide) e.symm))
  clear hl1 hl2 e2 hBw hv1 HOu HR1
  have hok := HO.out.gd.ok x HX.out.1
  have hlev := HO.out.lev
  have HUs := hid_ (ruse_c (e := x) ((HL2.out.rm.below ((Below.refl _ w1).alloc (Nat.le_refl _) (.cells #[.string x.key, .slice A1 x.val.length c1, .int .i64 x.cost, .int .i64 x.worth, .int .i64 x.used] 85)))) (HV1.out.kp (Kp.of_below ((Below.refl _ w1).alloc (Nat.le_refl _) _) (fun _ => False)) (fun _ _ _ _ => id)) x.worth x.used (by show (outE k c.S).length ≤ 900; have := outE_len k c.S; omega) (fun y hy => (HO.out.gd.ok y (mem_outE.1 hy).1).2.2.2.2.2.2.2) (by have := HO.out.fnd; show 0 ≤ c.uses ∧ c.uses ≤ 1000000; omega) (by show 0 ≤ c.level ∧ c.level ≤ 1000000000000000; omega) ⟨hok.2.2.1, hok.2.2.2.1⟩)
  have HB4 := hid_ (Blk.new w1 85 #[.string x.key, .slice A1 x.val.length c1, .int .i64 x.cost, .int .i64 x.worth, .int .i64 x.used])
  have HVx := hid_ (HV1.out.kp (Kp.of_below ((Below.refl _ w1).alloc (Nat.le_refl _) (.cells #[.string x.key, .slice A1 x.val.length c1, .int .i64 x.cost, .int .i64 x.worth, .int .i64 x.used] 85)) (fun _ => False)) (fun _ _ _ _ => id))
  have HLb := hid_ (HL2.out.below ((Below.refl _ w1).alloc (Nat.le_refl _) (.cells #[.string x.key, .slice A1 x.val.length c1, .int .i64 x.cost, .int .i64 x.worth, .int .i64 x.used] 85)))
  clear hok hlev hfn
  go_wp2_with fail
  have hmb1 : mb ≠ w1.heap.size := by have := HL2.out.rm.lt; omega
  refine HUs.out.mono ?_
  rintro e w2 ⟨rfl, hl3⟩
  have hB5 := HB4.out.kp hl3.kp (fun e => hmb1 e.symm)
  have hbm := HLb.out.rm.head
  have hv5 : Vl (fun q => X q ∨ w.heap.size ≤ q) w2 (.slice A1 x.val.length c1) x.val := by
    obtain ⟨A2, c2, hB2⟩ := hbm
    exact HVx.out.kp hl3.kp (fun q cs _ hb e => hB2.ne_ hb (by decide) e.symm)
  have y1 : w2.cell? ⟨w1.heap.size, 1, none⟩ = some (.slice A1 x.val.length c1) := hB5.cell 1
  have hl4 : RmLeft X w mb (getC c k).2 w2 := by
    rw [HC.out]
    refine ⟨hl3.rm.mono (fun q hq _ => ?_), HLb.out.kp.trans hl3.kp (fun _ hq => .inl hq)⟩
    rcases hq with (hq | hq) | hq
    · exact .inl hq
    · exact .inr hq
    · exact .inr (Nat.le_trans HLb.out.kp.size hq)
  obtain ⟨A2, c2, he2, hc2, hrd⟩ := hv5.rd
  have HCp := hid_ (copyb_c hrd (by omega))
  injection he2 with he2 _ he3
  subst he2 he3
  have HL4 := hid_ hl4
  clear hl3 hB5 hbm hv5 hl4 hrd HUs
  go_wp2_with fail
  refine HCp.out.mono ?_
  rintro e w3 ⟨A3, c3, rfl, hown3, hb3⟩
  have HF := hid_ (And.intro (rd_own hown3 rfl).2 (HL4.out.below hb3))
  clear hown3 hb3
  go_wp2
  go_ret2
  exact ⟨A3, c3, rfl, HF.out.1, HF.out.2⟩

set_option maxHeartbeats 1000000 in
set_option maxRecDepth 100000 in
/-- Keys. -/
theorem rkeys_c (h : Rm X w mb c) (hS : c.S.length ≤ 900) : Calls Try.prog 26 #[.pointer (some ⟨mb, 0, none⟩)] w fun e w' => ∃ A c', e = .returned (.slice A c.S.length c') ∧ w'.ownsRow w.heap.size 9 1 (.slice A c.S.length c') c.S.length ((keysC c).map .string) ∧ Below w.heap.size w w' := by
  obtain ⟨i0, hi0, hz0, hz1, hz2⟩ := info_parts Try.info9
  obtain ⟨L, A, cap, h1, hB, hown, hq, hv⟩ := h.body
  have cL : w.cell? ⟨mb, 6, none⟩ = some (.slice A L.length cap) := hB.cell 6
  have hl : L.length = c.S.length := by rw [← h1, List.length_map]
  have HO := hid_ hown
  have HK := hid_ (show keysC c = L.map fun p => p.2.key by unfold keysC; rw [← h1, List.map_map]; rfl)
  rw [← hl]
  have hn9 : L.length ≤ 900 := by omega
  clear h h1 hB hown hq hv hl hS
  generalize hn : L.length = n at *
  have HN := hid_ hn
  clear hn
  go_enter Try.func26, Try.ntmps26
  go_wp2_with fail
  go_loopw [3, 4] (fun v2 v17 wr => ∃ (i : Nat) (A : Option Addr) (c' : Nat), v17 = .int .i64 i ∧ v2 = .slice A i c' ∧ i ≤ n ∧ wr.ownsRow w.heap.size 9 1 (.slice A i c') i (((L.take i).map fun p => p.2.key).map .string) ∧ Below w.heap.size w wr) (fun _ v _ => n - (intOf v).toNat)
  case atStart => exact ⟨0, none, 0, rfl, rfl, by omega, by simpa using World.ownsRow_nil _ _ _ _, Below.refl _ _⟩
  case round =>
    obtain ⟨i, A1, c1, rfl, rfl, hi, hown, hb⟩ := hrel
    have HB := hid_ (And.intro hown hb)
    have cL' := below_cell hb cL
    clear hown hb
    by_cases hlt : i < n
    · have hiL : i < L.length := by rw [HN.out]; exact hlt
      have hownL := HO.out
      rw [← HN.out] at hownL
      obtain ⟨g, hg, hcx⟩ := own5 hownL (by omega)
      subst hg
      have d0 := below_cell HB.out.2 (hcx i hiL).1
      have hT := hid_ (show ((L.take (i + 1)).map fun p => p.2.key).map Value.string = ((L.take i).map fun p => p.2.key).map Value.string ++ [.string L[i].2.key] by
        rw [List.take_succ_eq_append_getElem hiL, List.map_append, List.map_append]; rfl)
      have b0 : (0 : Int) ≤ (i : Int) := by omega
      have b1 : (i : Int) < (n : Int) := by omega
      generalize L[i].2.key = key at *
      have HM := hid_ (show i + 1 ≤ maxLen by unfold maxLen; omega)
      have HNw := hid_ (show ∀ ad, some (⟨wr.heap.size, 0, none⟩ : Addr) = some ad → ∀ j u, [Value.string key][j]? = some u → (wr.alloc (.cells #[.string key] 9)).cell? (ad.add j) = some u from fun ad had j u hu => by
        injection had with had
        subst had
        match j, hu with
        | 0, hu =>
          injection hu with hu
          subst hu
          rw [add_at, World.cell?_alloc_at _ _ _ _ rfl]
          rfl)
      have hsz : w.heap.size ≤ wr.heap.size := HB.out.2.size
      have HSz := hid_ hsz
      clear hcx hownL hsz
      go_wp2_with (first | (at_builtin; refine wpList_append_any rfl (.tmp 14) (.tmp 23) 28 rfl w.heap.size 9 i0 _ 1 16 Try.underlying28 hi0 hz0 hz1 hz2 rfl (by omega) (.slice A1 i c1) i _ rfl (World.ownsRow.alloc HB.out.1 _) (some ⟨wr.heap.size, 0, none⟩) 1 1 [.string key] rfl rfl (fun h => by cases h) HNw.out (by simp [Value.oneCell']) HM.out (by omega) (by have := HSz.out; simp; omega) ?_; intro A3 c3 w3 hown3 hgrow3 hat))
      have hb4 : Below w.heap.size w w3 := (HB.out.2.alloc HSz.out _).grown hgrow3 (by have := HSz.out; simp; omega) (fun q hq => own_base HB.out.1 hq)
      have HD := hid_ (And.intro hown3 hb4)
      clear hown3 hgrow3 hat hb4
      go_roundw
      case rel => exact ⟨i + 1, A3, c3, by go_num, rfl, by omega, by rw [hT.out]; exact HD.out.1, HD.out.2⟩
      case measure => simp [intOf]; omega
    · have b1 : ¬ (i : Int) < (n : Int) := by omega
      have e : i = n := by omega
      subst e
      go_wp2
      go_ret
      refine ⟨A1, c1, rfl, ?_, HB.out.2⟩
      have := HB.out.1
      rw [List.take_of_length_le (by rw [HN.out]; exact Nat.le_refl _), ← HK.out] at this
      exact this
end

set_option maxHeartbeats 1000000 in
set_option maxRecDepth 100000 in
/-- Is a text one of some? -/
theorem hast_c {w : World} {A : Option Addr} {n cc : Nat} {xs : List ByteArray} (h : RdT w A n xs) (s : ByteArray) :
    Calls Try.prog 48 #[.slice A n cc, .string s] w fun e w' => e = .returned (.bool (xs.any fun x => decide (x = s))) ∧ w = w' := by
  have HH := hid_ h
  have hlow := h.low
  have HL := hid_ h.len
  clear h
  go_enter Try.func48, Try.ntmps48
  go_wp2_with fail
  go_loop [5] (fun v => ∃ k : Nat, v = .int .i64 k ∧ k ≤ n ∧ ∀ j, j < k → xs.getD j .empty ≠ s) (fun v => n - (intOf v).toNat)
  case atStart => exact ⟨0, rfl, by omega, fun _ h => by omega⟩
  case round =>
    obtain ⟨k, rfl, hk, hall⟩ := hrel
    have HA := hid_ hall
    clear hall
    by_cases hlt : k < n
    · obtain ⟨b, off, rfl, hcx⟩ := HH.out.cells (by omega)
      have x0 := hcx k hlt
      have hm := hid_ (show xs.getD k .empty ∈ xs by
        have hkx : k < xs.length := by rw [HL.out]; exact hlt
        simp [List.getD, hkx])
      have b0 : (0 : Int) ≤ (k : Int) := by omega
      have b1 : (k : Int) < (n : Int) := by omega
      clear hcx
      generalize hxk : xs.getD k .empty = x at *
      have HX := hid_ hxk
      clear hxk
      by_cases he : x = s
      · have q1 : (x.toList == s.toList) = true := by rw [he]; simp
        have HE := hid_ he
        clear he
        go_wp2
        go_ret
        exact ⟨by rw [show (xs.any fun x => decide (x = s)) = true from List.any_eq_true.2 ⟨x, hm.out, decide_eq_true HE.out⟩]; rfl, rfl⟩
      · have q1 := toList_ne3 he
        have HE := hid_ he
        clear he
        go_wp2
        go_round
        case rel => exact ⟨k + 1, by go_num, by omega, fun j hj => by
          by_cases e : j = k
          · subst e; rw [HX.out]; exact HE.out
          · exact HA.out j (by omega)⟩
        case measure => simp [intOf]; omega
    · have b1 : ¬ (k : Int) < (n : Int) := by omega
      go_wp2
      go_ret
      refine ⟨?_, rfl⟩
      have : (xs.any fun x => decide (x = s)) = false := by
        rw [List.any_eq_false]
        intro x hx
        obtain ⟨j, hj, rfl⟩ := List.mem_iff_getElem.1 hx
        have := HA.out j (by have := HL.out; omega)
        simp only [List.getD, List.getElem?_eq_getElem hj, Option.getD_some] at this
        simpa using this
      rw [this]
      rfl
end Go.Proofs.Ytogedbednfbkmaa
