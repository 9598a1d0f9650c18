/- CacheOld: the walk. Conditions: what its argument reads as. -/
import Derived.Test.YtogedbednfbkmaaHa
import Derived.Test.YtogedbednfbkmaaHb
import Derived.Test.YtogedbednfbkmaaCb
import Derived.Deep.DeepCutAuto
import Derived.Deep.CutBlock
namespace Go.Proofs.Ytogedbednfbkmaa
open Go.RowKit Go.Maps

theorem toList_ne2 {a b : ByteArray} (h : a ≠ b) : (a.toList == b.toList) = false := by
  rw [beq_eq_false_iff_ne, ByteArray.toList_eq, ByteArray.toList_eq]
  exact fun e => h (ByteArray.ext (Array.toList_inj.1 e))
theorem toList_keyB {i j : Nat} (hi : i < 12) (hj : j < 12) : ((keyB i).toList == (keyB j).toList) = decide (i = j) := by
  by_cases e : i = j
  · subst e; simp
  · rw [toList_ne2 (fun h => e (keyB_inj hi hj h)), decide_eq_false e]
set_option maxRecDepth 100000 in
theorem bring_big (i n : Int) (w : World) (h0 : 0 < n) (h1 : n ≤ 2000000) : Calls Try.prog 11 #[.int .i64 i, .int .i64 n] w fun e w' => e = .returned (.int .i64 (i % n)) ∧ w = w' := by
  by_cases hi : 0 ≤ i
  · have b3 : i % n < n := Int.emod_lt_of_pos i h0
    have b4 : ¬ i % n < 0 := by have := Int.emod_nonneg i (show n ≠ 0 by omega); omega
    go_enter Try.func11, Try.ntmps11
    go_wp2
    go_ret
    exact ⟨rfl, rfl⟩
  · obtain ⟨c1, c2, c3, c4⟩ := tmod_neg i n h0 (by omega)
    by_cases hq : i.tmod n < 0
    · have HQ := hid_ (c3 hq)
      have c5 : -2000000 < i.tmod n := by omega
      have c6 : IntKind.i64.wrap (i.tmod n + n) = i.tmod n + n := IntWalk.i64_in _ (by omega)
      have c7 : IntKind.i64.wrap (i.tmod n) = i.tmod n := IntWalk.i64_in _ (by omega)
      clear c3 c4
      go_enter Try.func11, Try.ntmps11
      go_wp2
      go_ret
      exact ⟨by rw [← HQ.out]; rfl, rfl⟩
    · have HQ := hid_ (c4 (by omega))
      have HZ := hid_ (show i.tmod n = 0 by omega)
      have c7 : IntKind.i64.wrap (i.tmod n) = i.tmod n := IntWalk.i64_in _ (by omega)
      clear c3 c4
      go_enter Try.func11, Try.ntmps11
      go_wp2
      go_ret
      exact ⟨by rw [HQ.out, ← HZ.out]; rfl, rfl⟩

/-- What holds at the head of a round, i calls done. -/
structure OldR (w0 w : World) (cb : Nat) (k : Int) (c : Cs) (us : List Nat) (A : Option Addr) (cap i : Nat) : Prop where
  hc : Hc (at_blk A) w0.heap.size w0 w cb c
  sl : Us w A us.length cap (us.map keyB)
  low : ∀ q, at_blk A q → w0.heap.size ≤ q
  old : Old k c us
  uses : c.uses ≤ 2 * i
  mis : c.missed ≤ i

/-- The slice and the cache within a round. -/
structure Mid (w0 w : World) (cb : Nat) (c : Cs) (A : Option Addr) (nx cap : Nat) (us : List Nat) : Prop where
  hc : Hc (at_blk A) w0.heap.size w0 w cb c
  sl : Us w A nx cap (us.map keyB)
  len : us.length = nx
  low : ∀ q, at_blk A q → w0.heap.size ≤ q
theorem Mid.append {w0 w w' : World} {cb x j : Nat} {c : Cs} {A A' : Option Addr} {cap cap' : Nat} {us : List Nat} (h : Mid w0 w cb c A x cap us) (o : Obj) (h1 : Us w' A' (x + 1) cap' (us.map keyB ++ [keyB j])) (hk : Kp (at_blk A) (w.alloc o) w') (ha : ∀ q, at_blk A' q → at_blk A q ∨ (w.alloc o).heap.size ≤ q) : Mid w0 w' cb c A' (x + 1) cap' (us ++ [j]) :=
  ⟨(h.hc.after ((Below.refl _ w).alloc (Nat.le_refl _) o)).turn hk h.low ha, by rw [List.map_append]; exact h1, by rw [List.length_append, h.len]; rfl, fun q hq => (ha q hq).elim (h.low q) (fun x => Nat.le_trans (Nat.le_trans h.hc.le (by simp)) x)⟩
theorem Mid.turn {w0 w w' : World} {cb nx cap : Nat} {c c' : Cs} {A : Option Addr} {us : List Nat} (h : Mid w0 w cb c A nx cap us) (h1 : Hc (at_blk A) w0.heap.size w0 w' cb c') (hk : Kp (fun q => ¬ at_blk A q) w w') : Mid w0 w' cb c' A nx cap us := ⟨h1, h.sl.kp hk (fun q hq n => n hq), h.len, h.low⟩
theorem Mid.after {w0 w w' : World} {cb nx cap : Nat} {c : Cs} {A : Option Addr} {us : List Nat} (h : Mid w0 w cb c A nx cap us) (hb : Below w.heap.size w w') : Mid w0 w' cb c A nx cap us := ⟨h.hc.after hb, h.sl.below hb, h.len, h.low⟩

set_option maxHeartbeats 8000000 in
set_option maxRecDepth 100000 in
theorem old_try {w : World} {A0 : Option Addr} {n cc : Nat} {f : Nat → Nat → Int} (cost0 : Int) (h : RdS w A0 n 4 f) :
    Calls Try.prog 3 #[.int .i64 cost0, .slice A0 n cc] w fun e w' => e = .returned (.bool true) ∧ Below w.heap.size w w' := by
  have HX := hid_ h
  have hlow := h.low
  have r1 : 0 ≤ cost0 % 1000001 ∧ cost0 % 1000001 < 1000001 := ⟨Int.emod_nonneg _ (by omega), Int.emod_lt_of_pos _ (by omega)⟩
  clear h
  go_enter Try.func3, Try.ntmps3
  go_wp2_with fail
  refine (new_ok 50 w (by omega)).mono ?_
  rintro e w1 ⟨cb, rfl, hN, hb1⟩
  go_wp2_with fail
  refine (bring_big cost0 1000001 _ (by omega) (by omega)).mono ?_
  rintro e w2 ⟨rfl, rfl⟩
  generalize cost0 % 1000001 = k at *
  have hRel0 : OldR w w1 cb k ⟨50, 0, 0, 0, 0, 0, []⟩ [] none 0 0 := by
    have hO := Hc.start hN hb1
    exact ⟨hO.fence (Below.refl _ _) (fun q hq => (by obtain ⟨p, e, _⟩ := hq; cases e)), Us.nil _, fun q hq => (by obtain ⟨p, e, _⟩ := hq; cases e), ⟨hO.ok, rfl, fun j hj => (by cases hj), (by show 0 ≤ 5; omega), rfl, fun e he => (by cases he)⟩, Int.le_refl _, Int.le_refl _⟩
  have HRel0 := hid_ hRel0
  clear hRel0 hN hb1
  go_wp2_with fail
  go_loopw [7, 8] (fun v7 v8 wr => ∃ (i : Nat) (c : Cs) (us : List Nat) (A : Option Addr) (cap : Nat), v7 = .slice A us.length cap ∧ v8 = .int .i64 i ∧ i ≤ n ∧ i ≤ 80 ∧ OldR w wr cb k c us A cap i) (fun _ v _ => n - (intOf v).toNat)
  case atStart => exact ⟨0, _, [], none, 0, rfl, rfl, by omega, by omega, HRel0.out⟩
  case round =>
    obtain ⟨i, c, us, A, cap, rfl, rfl, hin, hi80, hR⟩ := hrel
    have HR := hid_ hR
    have hu := hR.uses
    have hm := hR.mis
    have hfew := hR.old.few
    have HRlt := hid_ hR.old.lt
    have HSl := hid_ hR.sl
    clear hR HRel0
    by_cases hlt : i < n ∧ i < 80
    · obtain ⟨hlt1, hlt2⟩ := hlt
      obtain ⟨b, off, hA, hcx⟩ := (HX.out.below HR.out.hc.below).cells (by omega)
      have x0 : wr.cell? ⟨b, off + i * 4, none⟩ = some (.int .i64 (f i 0)) := by simpa using hcx i hlt1 0 (by omega)
      have x1 := hcx i hlt1 1 (by omega)
      subst hA
      clear hcx
      generalize f i 0 = kd at *
      generalize f i 1 = ky at *
      have b0 : (0 : Int) ≤ (i : Int) := by omega
      have b1 : (i : Int) < (n : Int) := by omega
      have b2 : (i : Int) < 80 := by omega
      go_wp2_with fail
      refine (key_c ky wr).mono ?_
      rintro e w3 ⟨rfl, rfl⟩
      have hj0 : 0 ≤ ky % 12 ∧ ky % 12 < 12 := ⟨Int.emod_nonneg _ (by omega), Int.emod_lt_of_pos _ (by omega)⟩
      obtain ⟨j, hj⟩ := Int.eq_ofNat_of_zero_le hj0.1
      rw [hj]
      have hj12 : j < 12 := by omega
      rw [Int.toNat_natCast]
      clear hj hj0 x1
      generalize hul : us.length = ul at *
      have HUl := hid_ hul
      clear hul
      go_wp2_with fail
      go_loopw [10, 11] (fun v10 v11 wx => ∃ (m : Nat) (a : Int), v11 = .int .i64 m ∧ v10 = .int .i64 a ∧ m ≤ ul ∧ wx = wr ∧ ((a = -1 ∧ ∀ l (hl : l < us.length), l < m → us[l] ≠ j) ∨ ∃ (l : Nat) (hl : l < us.length), a = l ∧ us[l] = j)) (fun _ v _ => ul - (intOf v).toNat)
      case atStart => exact ⟨0, -1, rfl, rfl, by omega, rfl, .inl ⟨rfl, fun l hl h => by omega⟩⟩
      case round =>
        obtain ⟨m, a, rfl, rfl, hmu, rfl, hat⟩ := hrel
        have HAt := hid_ hat
        clear hat
        by_cases hml : m < ul
        · obtain ⟨g, o, hA2, hcl⟩ := (HSl.out.rd (by omega)).cells (by omega)
          have hmus : m < us.length := by rw [HUl.out]; exact hml
          have d0 := hcl m (by omega)
          have hd0 : (us.map keyB).getD m .empty = keyB us[m] := by
            rw [List.getD_eq_getElem?_getD, List.getElem?_map, List.getElem?_eq_getElem hmus]; rfl
          rw [hd0] at d0
          have hjm := toList_keyB (HRlt.out _ (List.getElem_mem hmus)) hj12
          have m1 : (m : Int) < (ul : Int) := by omega
          have m0 : (0 : Int) ≤ (m : Int) := by omega
          subst hA2
          generalize huj : us[m] = uj at *
          have HUj := hid_ huj
          clear hcl hd0 huj
          by_cases hje : uj = j
          · have hjm2 : ((keyB uj).toList == (keyB j).toList) = true := by rw [hjm]; exact decide_eq_true hje
            clear hjm
            go_wp2
            go_roundw
            case rel => exact ⟨m + 1, m, by go_num, rfl, by omega, trivial, .inr ⟨m, hmus, rfl, HUj.out.trans hje⟩⟩
            case measure => simp [intOf]; omega
          · have hjm2 : ((keyB uj).toList == (keyB j).toList) = false := by rw [hjm]; exact decide_eq_false hje
            clear hjm
            go_wp2
            go_roundw
            case rel =>
              exact ⟨m + 1, a, by go_num, rfl, by omega, trivial, HAt.out.imp (fun ⟨h1, h2⟩ => ⟨h1, fun l hl h => by
                by_cases e : l = m
                · subst e; rw [HUj.out]; exact hje
                · exact h2 l hl (by omega)⟩) id⟩
            case measure => simp [intOf]; omega
        · have m1 : ¬ (m : Int) < (ul : Int) := by omega
          have hfin : (a = -1 ∧ j ∉ us) ∨ ∃ (l : Nat) (hl : l < us.length), a = l ∧ us[l] = j := HAt.out.imp (fun ⟨h1, h2⟩ => ⟨h1, fun hm => by
            obtain ⟨l, hl, e⟩ := List.mem_iff_getElem.1 hm
            exact h2 l hl (by have := HUl.out; omega) e⟩) id
          clear HAt
          go_wp2_with fail
          refine (bring_c kd 4 wr (by omega) (by omega)).mono ?_
          rintro e w3 ⟨rfl, rfl⟩
          clear x0
          generalize kd % 4 = z at *
          have hkl : (keyB j).size ≤ maxLen := by show 2 ≤ maxLen; unfold maxLen; omega
          have HKl := hid_ hkl
          have hsm : Small c := ⟨by omega, by omega⟩
          have HSm := hid_ hsm
          have HXl := hid_ (show ∀ q, at_blk A q → q < wr.heap.size from fun q hq => HR.out.sl.lt hq)
          clear hkl hsm
          rcases hfin with ⟨rfl, hno⟩ | ⟨l, hl, rfl, hlj⟩
          · have hg : getE (keyB j) c.S = none := getE_none (by rw [HR.out.old.has hj12]; exact decide_eq_false hno)
            cases hpt : (z != 2) with
            | false =>
              have HG := hid_ (HR.out.hc.get_no HXl.out HKl.out HSm.out hg)
              rw [get_counts_none hg] at HG
              clear hg
              go_wp2_with fail
              refine HG.out.mono ?_
              rintro e w3 ⟨rfl, hO3, hk3⟩
              have HFin := hid_ (show OldR w w3 cb k { c with missed := c.missed + 1 } us A cap (i + 1) from
                ⟨hO3, HR.out.sl.kp hk3 (fun q hq h => h hq), HR.out.low, ⟨hO3.ok, HR.out.old.keys, HR.out.old.lt, HR.out.old.few, HR.out.old.room, HR.out.old.ent⟩, by show c.uses ≤ _; push_cast; omega, by show c.missed + 1 ≤ _; push_cast; omega⟩)
              clear hO3 hk3 HG
              go_wp2
              go_roundw
              case rel => exact ⟨i + 1, _, us, A, cap, by rw [HUl.out], by go_num, by omega, by omega, HFin.out⟩
              case measure => simp [intOf]; omega
            | true =>
              have hr : sans j us = us := sans_self hno
              have hle := HSl.out.le
              have hgo : ∃ (Ax : Option Addr) (x cx : Nat) (us1 : List Nat), Mid w wr cb c Ax x cx us1 ∧ us1 = room5 (sans j us) ∧ ((ul = x + 1 ∧ x = 4 ∧ (∃ g o, A = some ⟨g, o, none⟩ ∧ Ax = some ⟨g, o + 1, none⟩) ∧ cx = cap - 1) ∨ (ul = x ∧ ¬ ul = 5 ∧ Ax = A ∧ cx = cap)) := by
                rw [hr]
                by_cases h5 : ul = 5
                · obtain ⟨g, o, hA2⟩ := HSl.out.some_ (by omega)
                  subst hA2
                  have hd := HSl.out.drop 1 (by omega)
                  rw [← List.map_drop] at hd
                  refine ⟨_, 4, cap - 1, us.drop 1, ⟨HR.out.hc.fence (Below.refl _ _) (fun q hq => .inl ?_), ?_, ?_, fun q hq => HR.out.low q ?_⟩, ?_, .inl ⟨h5, rfl, ⟨g, o, rfl, rfl⟩, rfl⟩⟩
                  · obtain ⟨p, e, e2⟩ := hq
                    injection e with e; subst e
                    exact ⟨_, rfl, e2⟩
                  · rw [h5] at hd; exact hd
                  · have := HUl.out; simp; omega
                  · obtain ⟨p, e, e2⟩ := hq
                    injection e with e; subst e
                    exact ⟨_, rfl, e2⟩
                  · unfold room5; rw [if_pos (HUl.out.trans h5)]; simp
                · exact ⟨A, ul, cap, us, ⟨HR.out.hc, HSl.out, HUl.out, HR.out.low⟩, by unfold room5; rw [if_neg (by rw [HUl.out]; exact h5)], .inr ⟨rfl, h5, rfl, rfl⟩⟩
              obtain ⟨Ax, x, cx, us1, hmid, hus1, hcase⟩ := hgo
              have HMid := hid_ hmid
              have HS1 := hid_ (hmid.sl.kp ((Kp.refl (fun _ => False) wr).alloc (.cells #[.string (keyB j)] 9)) (fun _ _ => id))
              have HSrc := hid_ (src_one wr (keyB j))
              have q5 : (ul : Int) ≤ (cap : Int) := by omega
              have hj2 : sans j (us1 ++ [j]) ++ [j] = us1 ++ [j] := by rw [sans_last (by rw [hus1]; exact not_room5)]
              have HUs := hid_ (And.intro hus1 hj2)
              clear hmid hus1 hj2 hr hg
              rcases hcase with ⟨e1, e2, ⟨g, o, e3, e4⟩, e5⟩ | ⟨e1, e2, e3, e4⟩
              · subst e1 e3 e4 e5
                have q6 : ¬ cap = 1 := by omega
                have q7 : (1 : Int) ≤ (x : Int) + 1 := by omega
                have q8 : (((x : Int) + 1) == 5) = true := by rw [beq_iff_eq]; omega
                clear e2
                go_wp2_with (first | (at_builtin; refine wpList_append_us rfl (.tmp 95) (.tmp 97) rfl HS1.out rfl _ 1 [keyB j] rfl HSrc.out (by omega) ?_; intro A1 c1 w4 hsl4 hk4 hat4))
                have HM4 := hid_ (HMid.out.append (j := j) _ hsl4 hk4 hat4)
                have hu2 : us1 ++ [j] = room5 (sans j us) ++ [j] := by rw [HUs.out.1]
                have hjm : j ∈ us1 ++ [j] := List.mem_append.2 (.inr (List.mem_singleton.2 rfl))
                have HU2 := hid_ (And.intro hu2 (And.intro hjm HUs.out.2))
                clear hsl4 hk4 hat4 HS1 HSrc hu2 hjm HUs HMid
                generalize us1 ++ [j] = us2 at *
                generalize x + 1 = nx at *
                refine (value_c 8 i w4 (by omega) (by omega) (by omega)).mono ?_
                rintro e w5 ⟨A5, c5, rfl, hown5, hb5⟩
                have e8 : (8 : Int).toNat = 8 := rfl
                rw [e8] at hown5 ⊢
                obtain ⟨hc5, hrd5⟩ := rd_own hown5 (by rw [valB_len])
                have hM5 := HM4.out.after hb5
                have HM5 := hid_ hM5
                have HPut := hid_ (hM5.hc.put (fun q hq => hM5.sl.lt hq) (k := keyB j) (by show 2 ≤ 1000000; omega) HSm.out hrd5 hc5 (by omega) k)
                clear hown5 hb5 e8 hc5 hrd5 hM5
                go_wp2_with fail
                refine HPut.out.mono ?_
                rintro e w6 ⟨rfl, hO6, hk6⟩
                obtain ⟨p1, p2, p3, p4⟩ := HR.out.old.put (by omega) hj12 (valB_len 8 i) hO6.ok
                rw [p1]
                rw [← HU2.out.1] at p2
                have hM6 := HM5.out.turn hO6 hk6
                clear HPut hO6 hk6 p1
                generalize (putC c (keyB j) (valB 8 i) k).2 = c6 at *
                have HQ := hid_ (show Mid w w6 cb c6 A1 nx c1 us2 ∧ Old k c6 us2 ∧ j ∈ us2 ∧ sans j us2 ++ [j] = us2 ∧ c6.uses ≤ 2 * i + 1 ∧ c6.missed ≤ i from ⟨hM6, p2, HU2.out.2.1, HU2.out.2.2, by omega, by omega⟩)
                clear hM6 p2 p3 p4 HM5
                obtain ⟨xx, hg⟩ := HQ.out.2.1.some_ hj12 HQ.out.2.2.1
                have hsm2 : Small c6 := ⟨by have := HQ.out.2.2.2.2.1; omega, by have := HQ.out.2.2.2.2.2; omega⟩
                have HGet := hid_ (HQ.out.1.hc.get_yes (fun q hq => HQ.out.1.sl.lt hq) HKl.out hsm2 hg)
                have HGe := hid_ hg
                clear hg hsm2
                go_wp2_with fail
                refine HGet.out.mono ?_
                rintro e w7 ⟨A7, c7, rfl, _, hO7, hk7⟩
                obtain ⟨o1, o2, o3⟩ := HQ.out.2.1.get (by omega) hj12 HQ.out.2.2.1 HGe.out hO7.ok
                rw [HQ.out.2.2.2.1] at o1
                have hM7 := HQ.out.1.turn hO7 hk7
                generalize (getC c6 (keyB j)).2 = c8 at *
                have hu8 : c8.uses ≤ 2 * i + 2 := by have := HQ.out.2.2.2.2.1; omega
                have hm8 : c8.missed ≤ i := by have := HQ.out.2.2.2.2.2; omega
                have hf8 := o1.few
                have hl8 : (c8.S.length : Int) = (nx : Int) := by rw [o1.len, hM7.len]
                have hl9 : us2.length = nx := hM7.len
                have HLn := hid_ hM7.hc.len
                rw [hl8] at HLn
                have HM7 := hid_ hM7
                have HO8 := hid_ o1
                have HL9 := hid_ hl9
                have HU8 := hid_ (And.intro hu8 hm8)
                have hnx : nx ≤ 5 := by omega
                clear o1 o2 o3 hO7 hk7 hM7 HGet HGe hl8 hl9 hf8 hu8 hm8
                go_wp2_with fail
                generalize xx.val.length = xl at *
                go_loopw [17] (fun v17 wx => ∃ n2 : Nat, v17 = .int .i64 n2 ∧ n2 ≤ nx ∧ wx = w7) (fun v _ => nx - (intOf v).toNat)
                case atStart => exact ⟨0, rfl, by omega, rfl⟩
                case round =>
                  obtain ⟨n2, rfl, hn2, rfl⟩ := hrel
                  by_cases hlt3 : n2 < nx
                  · obtain ⟨g9, o9, hA9, hcl⟩ := (HM7.out.sl.rd (by omega)).cells (by omega)
                    have hns : n2 < us2.length := by rw [HL9.out]; exact hlt3
                    have d0 := hcl n2 hlt3
                    have hd0 : (us2.map keyB).getD n2 .empty = keyB us2[n2] := by
                      rw [List.getD_eq_getElem?_getD, List.getElem?_map, List.getElem?_eq_getElem hns]; rfl
                    rw [hd0] at d0
                    have HHs := hid_ (HM7.out.hc.has (keyB us2[n2]) (by show 2 ≤ maxLen; unfold maxLen; omega))
                    rw [HO8.out.has (HO8.out.lt _ (List.getElem_mem hns)), decide_eq_true (List.getElem_mem hns)] at HHs
                    subst hA9
                    generalize keyB us2[n2] = kk at *
                    have i1 : (n2 : Int) < (nx : Int) := by omega
                    have i0 : (0 : Int) ≤ (n2 : Int) := by omega
                    clear hcl hd0
                    go_wp2_with fail
                    refine HHs.out.mono ?_
                    rintro e w9 ⟨rfl, rfl⟩
                    go_wp2
                    go_roundw
                    case rel => exact ⟨n2 + 1, by go_num, by omega, trivial⟩
                    case measure => simp [intOf]; omega
                  · have i1 : ¬ (n2 : Int) < (nx : Int) := by omega
                    go_wp2_with fail
                    refine HLn.out.mono ?_
                    rintro e w9 ⟨rfl, rfl⟩
                    go_wp2
                    go_roundw
                    case rel => exact ⟨i + 1, c8, us2, A1, c1, by rw [HL9.out], by go_num, by omega, by omega, ⟨HM7.out.hc, by rw [HL9.out]; exact HM7.out.sl, HM7.out.low, HO8.out, by have := HU8.out.1; push_cast; omega, by have := HU8.out.2; push_cast; omega⟩⟩
                    case measure => simp [intOf]; omega
              · have e5 := e1.symm
                subst e5 e3 e4
                have q8 : ((x : Int) == 5) = false := by rw [beq_eq_false_iff_ne]; omega
                clear e2
                go_wp2_with (first | (at_builtin; refine wpList_append_us rfl (.tmp 95) (.tmp 97) rfl HS1.out rfl _ 1 [keyB j] rfl HSrc.out (by omega) ?_; intro A1 c1 w4 hsl4 hk4 hat4))
                have HM4 := hid_ (HMid.out.append (j := j) _ hsl4 hk4 hat4)
                have hu2 : us1 ++ [j] = room5 (sans j us) ++ [j] := by rw [HUs.out.1]
                have hjm : j ∈ us1 ++ [j] := List.mem_append.2 (.inr (List.mem_singleton.2 rfl))
                have HU2 := hid_ (And.intro hu2 (And.intro hjm HUs.out.2))
                clear hsl4 hk4 hat4 HS1 HSrc hu2 hjm HUs HMid
                generalize us1 ++ [j] = us2 at *
                generalize x + 1 = nx at *
                refine (value_c 8 i w4 (by omega) (by omega) (by omega)).mono ?_
                rintro e w5 ⟨A5, c5, rfl, hown5, hb5⟩
                have e8 : (8 : Int).toNat = 8 := rfl
                rw [e8] at hown5 ⊢
                obtain ⟨hc5, hrd5⟩ := rd_own hown5 (by rw [valB_len])
                have hM5 := HM4.out.after hb5
                have HM5 := hid_ hM5
                have HPut := hid_ (hM5.hc.put (fun q hq => hM5.sl.lt hq) (k := keyB j) (by show 2 ≤ 1000000; omega) HSm.out hrd5 hc5 (by omega) k)
                clear hown5 hb5 e8 hc5 hrd5 hM5
                go_wp2_with fail
                refine HPut.out.mono ?_
                rintro e w6 ⟨rfl, hO6, hk6⟩
                obtain ⟨p1, p2, p3, p4⟩ := HR.out.old.put (by omega) hj12 (valB_len 8 i) hO6.ok
                rw [p1]
                rw [← HU2.out.1] at p2
                have hM6 := HM5.out.turn hO6 hk6
                clear HPut hO6 hk6 p1
                generalize (putC c (keyB j) (valB 8 i) k).2 = c6 at *
                have HQ := hid_ (show Mid w w6 cb c6 A1 nx c1 us2 ∧ Old k c6 us2 ∧ j ∈ us2 ∧ sans j us2 ++ [j] = us2 ∧ c6.uses ≤ 2 * i + 1 ∧ c6.missed ≤ i from ⟨hM6, p2, HU2.out.2.1, HU2.out.2.2, by omega, by omega⟩)
                clear hM6 p2 p3 p4 HM5
                obtain ⟨xx, hg⟩ := HQ.out.2.1.some_ hj12 HQ.out.2.2.1
                have hsm2 : Small c6 := ⟨by have := HQ.out.2.2.2.2.1; omega, by have := HQ.out.2.2.2.2.2; omega⟩
                have HGet := hid_ (HQ.out.1.hc.get_yes (fun q hq => HQ.out.1.sl.lt hq) HKl.out hsm2 hg)
                have HGe := hid_ hg
                clear hg hsm2
                go_wp2_with fail
                refine HGet.out.mono ?_
                rintro e w7 ⟨A7, c7, rfl, _, hO7, hk7⟩
                obtain ⟨o1, o2, o3⟩ := HQ.out.2.1.get (by omega) hj12 HQ.out.2.2.1 HGe.out hO7.ok
                rw [HQ.out.2.2.2.1] at o1
                have hM7 := HQ.out.1.turn hO7 hk7
                generalize (getC c6 (keyB j)).2 = c8 at *
                have hu8 : c8.uses ≤ 2 * i + 2 := by have := HQ.out.2.2.2.2.1; omega
                have hm8 : c8.missed ≤ i := by have := HQ.out.2.2.2.2.2; omega
                have hf8 := o1.few
                have hl8 : (c8.S.length : Int) = (nx : Int) := by rw [o1.len, hM7.len]
                have hl9 : us2.length = nx := hM7.len
                have HLn := hid_ hM7.hc.len
                rw [hl8] at HLn
                have HM7 := hid_ hM7
                have HO8 := hid_ o1
                have HL9 := hid_ hl9
                have HU8 := hid_ (And.intro hu8 hm8)
                have hnx : nx ≤ 5 := by omega
                clear o1 o2 o3 hO7 hk7 hM7 HGet HGe hl8 hl9 hf8 hu8 hm8
                go_wp2_with fail
                generalize xx.val.length = xl at *
                go_loopw [17] (fun v17 wx => ∃ n2 : Nat, v17 = .int .i64 n2 ∧ n2 ≤ nx ∧ wx = w7) (fun v _ => nx - (intOf v).toNat)
                case atStart => exact ⟨0, rfl, by omega, rfl⟩
                case round =>
                  obtain ⟨n2, rfl, hn2, rfl⟩ := hrel
                  by_cases hlt3 : n2 < nx
                  · obtain ⟨g9, o9, hA9, hcl⟩ := (HM7.out.sl.rd (by omega)).cells (by omega)
                    have hns : n2 < us2.length := by rw [HL9.out]; exact hlt3
                    have d0 := hcl n2 hlt3
                    have hd0 : (us2.map keyB).getD n2 .empty = keyB us2[n2] := by
                      rw [List.getD_eq_getElem?_getD, List.getElem?_map, List.getElem?_eq_getElem hns]; rfl
                    rw [hd0] at d0
                    have HHs := hid_ (HM7.out.hc.has (keyB us2[n2]) (by show 2 ≤ maxLen; unfold maxLen; omega))
                    rw [HO8.out.has (HO8.out.lt _ (List.getElem_mem hns)), decide_eq_true (List.getElem_mem hns)] at HHs
                    subst hA9
                    generalize keyB us2[n2] = kk at *
                    have i1 : (n2 : Int) < (nx : Int) := by omega
                    have i0 : (0 : Int) ≤ (n2 : Int) := by omega
                    clear hcl hd0
                    go_wp2_with fail
                    refine HHs.out.mono ?_
                    rintro e w9 ⟨rfl, rfl⟩
                    go_wp2
                    go_roundw
                    case rel => exact ⟨n2 + 1, by go_num, by omega, trivial⟩
                    case measure => simp [intOf]; omega
                  · have i1 : ¬ (n2 : Int) < (nx : Int) := by omega
                    go_wp2_with fail
                    refine HLn.out.mono ?_
                    rintro e w9 ⟨rfl, rfl⟩
                    go_wp2
                    go_roundw
                    case rel => exact ⟨i + 1, c8, us2, A1, c1, by rw [HL9.out], by go_num, by omega, by omega, ⟨HM7.out.hc, by rw [HL9.out]; exact HM7.out.sl, HM7.out.low, HO8.out, by have := HU8.out.1; push_cast; omega, by have := HU8.out.2; push_cast; omega⟩⟩
                    case measure => simp [intOf]; omega
          · have l0 : (0 : Int) ≤ (l : Int) := by omega
            have hlul : l < ul := by rw [← HUl.out]; exact hl
            obtain ⟨g, o, hA2⟩ := HSl.out.some_ (by omega)
            have hle := HSl.out.le
            have l1 : (l : Int) ≤ (cap : Int) := by omega
            have l2 : (l : Int) + 1 ≤ (ul : Int) := by omega
            have l3 : IntKind.i64.wrap ((l : Int) + 1) = (l : Int) + 1 := IntWalk.i64_in _ (by omega)
            have l4 : (ul : Int) ≤ (cap : Int) := by omega
            have l5 : (0 : Int) ≤ (l : Int) + 1 := by omega
            have l6 : (l : Int) ≤ (l : Int) + 1 := by omega
            subst hA2
            have HW1 := hid_ (show Kp (fun _ => False) wr (wr.alloc (.cells #[] 9)).drew from ((Kp.refl (fun _ => False) wr).alloc _).drew)
            have HE := hid_ (show Us (wr.alloc (.cells #[] 9)).drew (some ⟨wr.heap.size, 0, none⟩) 0 0 [] from (Us.empty wr).kp (Kp.refl (fun _ => False) _).drew (fun _ _ => id))
            have hT := ((HSl.out.take l (by omega)).kp HW1.out (fun _ _ => id)).src
            rw [← List.map_take] at hT
            have HT := hid_ hT
            have hjm := hlj ▸ List.getElem_mem hl
            have HJm := hid_ (show j ∈ us from hjm)
            have hsl := sans_len (j := j) HR.out.old.nodup
            rw [if_pos hjm, HUl.out] at hsl
            have hsn := take_drop_sans HR.out.old.nodup hl hlj
            obtain ⟨us1, hus1⟩ : ∃ us1, us1 = sans j us := ⟨_, rfl⟩
            rw [← hus1] at hsn hsl
            have HSn := hid_ (show (us.take l).map keyB ++ (us.drop (l + 1)).map keyB = us1.map keyB by rw [← List.map_append, hsn])
            obtain ⟨x, hx⟩ : ∃ x, l + (ul - (l + 1)) = x := ⟨_, rfl⟩
            have HLs := hid_ (show us1.length = x by omega)
            have hx4 : x ≤ 4 := by omega
            have q8 : ((x : Int) == 5) = false := by rw [beq_eq_false_iff_ne]; omega
            have hr5 : us1 = room5 (sans j us) := by rw [← hus1]; unfold room5; rw [if_neg (by rw [HLs.out]; omega)]
            have hnj : sans j (us1 ++ [j]) ++ [j] = us1 ++ [j] := by rw [sans_last (by rw [hus1]; exact not_sans)]
            have HUs1 := hid_ (And.intro hr5 hnj)
            have HUs0 := hid_ (And.intro hus1 trivial)
            have hcc : cap = l + 1 ∨ ¬ cap = l + 1 := by omega
            have HDd := hid_ (fun hc : ¬ cap = l + 1 => HSl.out.drop (l + 1) (by omega))
            clear hsn hus1 hsl hr5 hnj hjm hT hlj
            cases hpt : (z != 2) with
            | false =>
              have HUs := HUs0
              rcases hcc with hcc | hcc
              · subst hcc
                have hul2 : ul = l + 1 := by omega
                have HDs := hid_ (show Us wr (some ⟨g, o, none⟩) 0 0 ((us.drop (l + 1)).map keyB) from by
                  have h9 := HSl.out
                  rw [hul2] at h9
                  have h8 := h9.cut0
                  rw [← List.map_drop] at h8
                  exact h8)
                have hxl : l = x := by omega
                subst hxl
                have l7 : (ul : Int) ≤ (l : Int) + 1 := by omega
                clear hul2 HDd
                go_wp2_with fail
                go_region_law (first
                  | (refine step_append_us (by rfl) (.tmp 77) (.tmp 80) (by rfl) HE.out (by rfl) _ l ((us.take l).map keyB) (by rfl) HT.out (by omega) ?_; intro A1 c1 w1 hs1 hk1 hat1; simp only [Nat.zero_add, List.nil_append] at hs1; have HS1 := hid_ hs1; have HK1 := hid_ (HW1.out.trans hk1 (fun q hq => .inr (by obtain ⟨p, e, e2⟩ := hq; injection e with e; subst e; exact Nat.le_of_eq e2))); have HA1 := hid_ (show ∀ q, at_blk A1 q → wr.heap.size ≤ q from fun q hq => (hat1 q hq).elim (fun h => by obtain ⟨p, e, e2⟩ := h; injection e with e; subst e; exact Nat.le_of_eq e2) (fun h => by simp at h; omega)))
                  | (refine step_append_us (by rfl) (.tmp 81) (.tmp 85) (by rfl) HS1.out (by rfl) _ 0 ((us.drop (l + 1)).map keyB) (by rfl) (HDs.out.kp HK1.out (fun _ _ => id)).src (by omega) ?_; intro A2 c2 w2 hs2 hk2 hat2))
                have hk2' := HK1.out.trans hk2 (fun q hq => .inr (HA1.out q hq))
                have hA2 := show ∀ q, at_blk A2 q → wr.heap.size ≤ q from fun q hq => (hat2 q hq).elim (HA1.out q) (fun h => Nat.le_trans HK1.out.size h)
                rw [HSn.out, Nat.add_zero] at hs2
                have HMid := hid_ (show Mid w w2 cb c A2 l c2 us1 from ⟨HR.out.hc.turn (hk2'.mono (fun _ h => h.elim)) HR.out.low (fun q hq => .inr (hA2 q hq)), hs2, HLs.out, fun q hq => Nat.le_trans HR.out.hc.le (hA2 q hq)⟩)
                have HS1 := hid_ (hs2.kp ((Kp.refl (fun _ => False) w2).alloc (.cells #[.string (keyB j)] 9)) (fun _ _ => id))
                have HSrc := hid_ (src_one w2 (keyB j))
                clear hs2 hk2 hat2 hk2' hA2 HK1 HA1 HE HT HW1 HDs HSn
                go_wp2_with (first | (at_builtin; refine wpList_append_us rfl (.tmp 95) (.tmp 97) rfl HS1.out rfl _ 1 [keyB j] rfl HSrc.out (by omega) ?_; intro A1 c1 w4 hsl4 hk4 hat4))
                have HM6 := hid_ (HMid.out.append (j := j) _ hsl4 hk4 hat4)
                have hu2 : sans j us ++ [j] = us1 ++ [j] := by rw [HUs.out.1]
                have HU2 := hid_ hu2
                clear hsl4 hk4 hat4 HS1 HSrc hu2 HUs HMid
                generalize us1 ++ [j] = us2 at *
                generalize l + 1 = nx at *
                generalize w4 = w6 at *
                have HQ := hid_ (show Mid w w6 cb c A1 nx c1 us2 ∧ Old k c us ∧ j ∈ us ∧ sans j us ++ [j] = us2 ∧ c.uses ≤ 2 * i + 1 ∧ c.missed ≤ i from ⟨HM6.out, HR.out.old, HJm.out, HU2.out, by omega, by omega⟩)
                obtain ⟨xx, hg⟩ := HQ.out.2.1.some_ hj12 HQ.out.2.2.1
                have hsm2 : Small c := ⟨by have := HQ.out.2.2.2.2.1; omega, by have := HQ.out.2.2.2.2.2; omega⟩
                have HGet := hid_ (HQ.out.1.hc.get_yes (fun q hq => HQ.out.1.sl.lt hq) HKl.out hsm2 hg)
                have HGe := hid_ hg
                clear hg hsm2
                go_wp2_with fail
                refine HGet.out.mono ?_
                rintro e w7 ⟨A7, c7, rfl, _, hO7, hk7⟩
                obtain ⟨o1, o2, o3⟩ := HQ.out.2.1.get (by omega) hj12 HQ.out.2.2.1 HGe.out hO7.ok
                rw [HQ.out.2.2.2.1] at o1
                have hM7 := HQ.out.1.turn hO7 hk7
                generalize (getC c (keyB j)).2 = c8 at *
                have hu8 : c8.uses ≤ 2 * i + 2 := by have := HQ.out.2.2.2.2.1; omega
                have hm8 : c8.missed ≤ i := by have := HQ.out.2.2.2.2.2; omega
                have hf8 := o1.few
                have hl8 : (c8.S.length : Int) = (nx : Int) := by rw [o1.len, hM7.len]
                have hl9 : us2.length = nx := hM7.len
                have HLn := hid_ hM7.hc.len
                rw [hl8] at HLn
                have HM7 := hid_ hM7
                have HO8 := hid_ o1
                have HL9 := hid_ hl9
                have HU8 := hid_ (And.intro hu8 hm8)
                have hnx : nx ≤ 5 := by omega
                clear o1 o2 o3 hO7 hk7 hM7 HGet HGe hl8 hl9 hf8 hu8 hm8
                go_wp2_with fail
                generalize xx.val.length = xl at *
                go_loopw [17] (fun v17 wx => ∃ n2 : Nat, v17 = .int .i64 n2 ∧ n2 ≤ nx ∧ wx = w7) (fun v _ => nx - (intOf v).toNat)
                case atStart => exact ⟨0, rfl, by omega, rfl⟩
                case round =>
                  obtain ⟨n2, rfl, hn2, rfl⟩ := hrel
                  by_cases hlt3 : n2 < nx
                  · obtain ⟨g9, o9, hA9, hcl⟩ := (HM7.out.sl.rd (by omega)).cells (by omega)
                    have hns : n2 < us2.length := by rw [HL9.out]; exact hlt3
                    have d0 := hcl n2 hlt3
                    have hd0 : (us2.map keyB).getD n2 .empty = keyB us2[n2] := by
                      rw [List.getD_eq_getElem?_getD, List.getElem?_map, List.getElem?_eq_getElem hns]; rfl
                    rw [hd0] at d0
                    have HHs := hid_ (HM7.out.hc.has (keyB us2[n2]) (by show 2 ≤ maxLen; unfold maxLen; omega))
                    rw [HO8.out.has (HO8.out.lt _ (List.getElem_mem hns)), decide_eq_true (List.getElem_mem hns)] at HHs
                    subst hA9
                    generalize keyB us2[n2] = kk at *
                    have i1 : (n2 : Int) < (nx : Int) := by omega
                    have i0 : (0 : Int) ≤ (n2 : Int) := by omega
                    clear hcl hd0
                    go_wp2_with fail
                    refine HHs.out.mono ?_
                    rintro e w9 ⟨rfl, rfl⟩
                    go_wp2
                    go_roundw
                    case rel => exact ⟨n2 + 1, by go_num, by omega, trivial⟩
                    case measure => simp [intOf]; omega
                  · have i1 : ¬ (n2 : Int) < (nx : Int) := by omega
                    go_wp2_with fail
                    refine HLn.out.mono ?_
                    rintro e w9 ⟨rfl, rfl⟩
                    go_wp2
                    go_roundw
                    case rel => exact ⟨i + 1, c8, us2, A1, c1, by rw [HL9.out], by go_num, by omega, by omega, ⟨HM7.out.hc, by rw [HL9.out]; exact HM7.out.sl, HM7.out.low, HO8.out, by have := HU8.out.1; push_cast; omega, by have := HU8.out.2; push_cast; omega⟩⟩
                    case measure => simp [intOf]; omega
              · have hD := HDd.out hcc
                rw [← List.map_drop] at hD
                have HDs := hid_ hD
                clear hD HDd
                go_wp2_with fail
                go_region_law (first
                  | (refine step_append_us (by rfl) (.tmp 77) (.tmp 80) (by rfl) HE.out (by rfl) _ l ((us.take l).map keyB) (by rfl) HT.out (by omega) ?_; intro A1 c1 w1 hs1 hk1 hat1; simp only [Nat.zero_add, List.nil_append] at hs1; have HS1 := hid_ hs1; have HK1 := hid_ (HW1.out.trans hk1 (fun q hq => .inr (by obtain ⟨p, e, e2⟩ := hq; injection e with e; subst e; exact Nat.le_of_eq e2))); have HA1 := hid_ (show ∀ q, at_blk A1 q → wr.heap.size ≤ q from fun q hq => (hat1 q hq).elim (fun h => by obtain ⟨p, e, e2⟩ := h; injection e with e; subst e; exact Nat.le_of_eq e2) (fun h => by simp at h; omega)))
                  | (refine step_append_us (by rfl) (.tmp 81) (.tmp 85) (by rfl) HS1.out (by rfl) _ (ul - (l + 1)) ((us.drop (l + 1)).map keyB) (by rfl) (HDs.out.kp HK1.out (fun _ _ => id)).src (by omega) ?_; intro A2 c2 w2 hs2 hk2 hat2))
                have hk2' := HK1.out.trans hk2 (fun q hq => .inr (HA1.out q hq))
                have hA2 := show ∀ q, at_blk A2 q → wr.heap.size ≤ q from fun q hq => (hat2 q hq).elim (HA1.out q) (fun h => Nat.le_trans HK1.out.size h)
                rw [HSn.out, hx] at hs2
                have HMid := hid_ (show Mid w w2 cb c A2 x c2 us1 from ⟨HR.out.hc.turn (hk2'.mono (fun _ h => h.elim)) HR.out.low (fun q hq => .inr (hA2 q hq)), hs2, HLs.out, fun q hq => Nat.le_trans HR.out.hc.le (hA2 q hq)⟩)
                have HS1 := hid_ (hs2.kp ((Kp.refl (fun _ => False) w2).alloc (.cells #[.string (keyB j)] 9)) (fun _ _ => id))
                have HSrc := hid_ (src_one w2 (keyB j))
                clear hs2 hk2 hat2 hk2' hA2 HK1 HA1 HE HT HW1 HDs HSn
                go_wp2_with (first | (at_builtin; refine wpList_append_us rfl (.tmp 95) (.tmp 97) rfl HS1.out rfl _ 1 [keyB j] rfl HSrc.out (by omega) ?_; intro A1 c1 w4 hsl4 hk4 hat4))
                have HM6 := hid_ (HMid.out.append (j := j) _ hsl4 hk4 hat4)
                have hu2 : sans j us ++ [j] = us1 ++ [j] := by rw [HUs.out.1]
                have HU2 := hid_ hu2
                clear hsl4 hk4 hat4 HS1 HSrc hu2 HUs HMid
                generalize us1 ++ [j] = us2 at *
                generalize x + 1 = nx at *
                generalize w4 = w6 at *
                have HQ := hid_ (show Mid w w6 cb c A1 nx c1 us2 ∧ Old k c us ∧ j ∈ us ∧ sans j us ++ [j] = us2 ∧ c.uses ≤ 2 * i + 1 ∧ c.missed ≤ i from ⟨HM6.out, HR.out.old, HJm.out, HU2.out, by omega, by omega⟩)
                obtain ⟨xx, hg⟩ := HQ.out.2.1.some_ hj12 HQ.out.2.2.1
                have hsm2 : Small c := ⟨by have := HQ.out.2.2.2.2.1; omega, by have := HQ.out.2.2.2.2.2; omega⟩
                have HGet := hid_ (HQ.out.1.hc.get_yes (fun q hq => HQ.out.1.sl.lt hq) HKl.out hsm2 hg)
                have HGe := hid_ hg
                clear hg hsm2
                go_wp2_with fail
                refine HGet.out.mono ?_
                rintro e w7 ⟨A7, c7, rfl, _, hO7, hk7⟩
                obtain ⟨o1, o2, o3⟩ := HQ.out.2.1.get (by omega) hj12 HQ.out.2.2.1 HGe.out hO7.ok
                rw [HQ.out.2.2.2.1] at o1
                have hM7 := HQ.out.1.turn hO7 hk7
                generalize (getC c (keyB j)).2 = c8 at *
                have hu8 : c8.uses ≤ 2 * i + 2 := by have := HQ.out.2.2.2.2.1; omega
                have hm8 : c8.missed ≤ i := by have := HQ.out.2.2.2.2.2; omega
                have hf8 := o1.few
                have hl8 : (c8.S.length : Int) = (nx : Int) := by rw [o1.len, hM7.len]
                have hl9 : us2.length = nx := hM7.len
                have HLn := hid_ hM7.hc.len
                rw [hl8] at HLn
                have HM7 := hid_ hM7
                have HO8 := hid_ o1
                have HL9 := hid_ hl9
                have HU8 := hid_ (And.intro hu8 hm8)
                have hnx : nx ≤ 5 := by omega
                clear o1 o2 o3 hO7 hk7 hM7 HGet HGe hl8 hl9 hf8 hu8 hm8
                go_wp2_with fail
                generalize xx.val.length = xl at *
                go_loopw [17] (fun v17 wx => ∃ n2 : Nat, v17 = .int .i64 n2 ∧ n2 ≤ nx ∧ wx = w7) (fun v _ => nx - (intOf v).toNat)
                case atStart => exact ⟨0, rfl, by omega, rfl⟩
                case round =>
                  obtain ⟨n2, rfl, hn2, rfl⟩ := hrel
                  by_cases hlt3 : n2 < nx
                  · obtain ⟨g9, o9, hA9, hcl⟩ := (HM7.out.sl.rd (by omega)).cells (by omega)
                    have hns : n2 < us2.length := by rw [HL9.out]; exact hlt3
                    have d0 := hcl n2 hlt3
                    have hd0 : (us2.map keyB).getD n2 .empty = keyB us2[n2] := by
                      rw [List.getD_eq_getElem?_getD, List.getElem?_map, List.getElem?_eq_getElem hns]; rfl
                    rw [hd0] at d0
                    have HHs := hid_ (HM7.out.hc.has (keyB us2[n2]) (by show 2 ≤ maxLen; unfold maxLen; omega))
                    rw [HO8.out.has (HO8.out.lt _ (List.getElem_mem hns)), decide_eq_true (List.getElem_mem hns)] at HHs
                    subst hA9
                    generalize keyB us2[n2] = kk at *
                    have i1 : (n2 : Int) < (nx : Int) := by omega
                    have i0 : (0 : Int) ≤ (n2 : Int) := by omega
                    clear hcl hd0
                    go_wp2_with fail
                    refine HHs.out.mono ?_
                    rintro e w9 ⟨rfl, rfl⟩
                    go_wp2
                    go_roundw
                    case rel => exact ⟨n2 + 1, by go_num, by omega, trivial⟩
                    case measure => simp [intOf]; omega
                  · have i1 : ¬ (n2 : Int) < (nx : Int) := by omega
                    go_wp2_with fail
                    refine HLn.out.mono ?_
                    rintro e w9 ⟨rfl, rfl⟩
                    go_wp2
                    go_roundw
                    case rel => exact ⟨i + 1, c8, us2, A1, c1, by rw [HL9.out], by go_num, by omega, by omega, ⟨HM7.out.hc, by rw [HL9.out]; exact HM7.out.sl, HM7.out.low, HO8.out, by have := HU8.out.1; push_cast; omega, by have := HU8.out.2; push_cast; omega⟩⟩
                    case measure => simp [intOf]; omega
            | true =>
              have HUs := HUs1
              rcases hcc with hcc | hcc
              · subst hcc
                have hul2 : ul = l + 1 := by omega
                have HDs := hid_ (show Us wr (some ⟨g, o, none⟩) 0 0 ((us.drop (l + 1)).map keyB) from by
                  have h9 := HSl.out
                  rw [hul2] at h9
                  have h8 := h9.cut0
                  rw [← List.map_drop] at h8
                  exact h8)
                have hxl : l = x := by omega
                subst hxl
                have l7 : (ul : Int) ≤ (l : Int) + 1 := by omega
                clear hul2 HDd
                go_wp2_with fail
                go_region_law (first
                  | (refine step_append_us (by rfl) (.tmp 77) (.tmp 80) (by rfl) HE.out (by rfl) _ l ((us.take l).map keyB) (by rfl) HT.out (by omega) ?_; intro A1 c1 w1 hs1 hk1 hat1; simp only [Nat.zero_add, List.nil_append] at hs1; have HS1 := hid_ hs1; have HK1 := hid_ (HW1.out.trans hk1 (fun q hq => .inr (by obtain ⟨p, e, e2⟩ := hq; injection e with e; subst e; exact Nat.le_of_eq e2))); have HA1 := hid_ (show ∀ q, at_blk A1 q → wr.heap.size ≤ q from fun q hq => (hat1 q hq).elim (fun h => by obtain ⟨p, e, e2⟩ := h; injection e with e; subst e; exact Nat.le_of_eq e2) (fun h => by simp at h; omega)))
                  | (refine step_append_us (by rfl) (.tmp 81) (.tmp 85) (by rfl) HS1.out (by rfl) _ 0 ((us.drop (l + 1)).map keyB) (by rfl) (HDs.out.kp HK1.out (fun _ _ => id)).src (by omega) ?_; intro A2 c2 w2 hs2 hk2 hat2))
                have hk2' := HK1.out.trans hk2 (fun q hq => .inr (HA1.out q hq))
                have hA2 := show ∀ q, at_blk A2 q → wr.heap.size ≤ q from fun q hq => (hat2 q hq).elim (HA1.out q) (fun h => Nat.le_trans HK1.out.size h)
                rw [HSn.out, Nat.add_zero] at hs2
                have HMid := hid_ (show Mid w w2 cb c A2 l c2 us1 from ⟨HR.out.hc.turn (hk2'.mono (fun _ h => h.elim)) HR.out.low (fun q hq => .inr (hA2 q hq)), hs2, HLs.out, fun q hq => Nat.le_trans HR.out.hc.le (hA2 q hq)⟩)
                have HS1 := hid_ (hs2.kp ((Kp.refl (fun _ => False) w2).alloc (.cells #[.string (keyB j)] 9)) (fun _ _ => id))
                have HSrc := hid_ (src_one w2 (keyB j))
                clear hs2 hk2 hat2 hk2' hA2 HK1 HA1 HE HT HW1 HDs HSn
                go_wp2_with (first | (at_builtin; refine wpList_append_us rfl (.tmp 95) (.tmp 97) rfl HS1.out rfl _ 1 [keyB j] rfl HSrc.out (by omega) ?_; intro A1 c1 w4 hsl4 hk4 hat4))
                have HM4 := hid_ (HMid.out.append (j := j) _ hsl4 hk4 hat4)
                have hu2 : us1 ++ [j] = room5 (sans j us) ++ [j] := by rw [HUs.out.1]
                have hjm : j ∈ us1 ++ [j] := List.mem_append.2 (.inr (List.mem_singleton.2 rfl))
                have HU2 := hid_ (And.intro hu2 (And.intro hjm HUs.out.2))
                clear hsl4 hk4 hat4 HS1 HSrc hu2 hjm HUs HMid
                generalize us1 ++ [j] = us2 at *
                generalize l + 1 = nx at *
                refine (value_c 8 i w4 (by omega) (by omega) (by omega)).mono ?_
                rintro e w5 ⟨A5, c5, rfl, hown5, hb5⟩
                have e8 : (8 : Int).toNat = 8 := rfl
                rw [e8] at hown5 ⊢
                obtain ⟨hc5, hrd5⟩ := rd_own hown5 (by rw [valB_len])
                have hM5 := HM4.out.after hb5
                have HM5 := hid_ hM5
                have HPut := hid_ (hM5.hc.put (fun q hq => hM5.sl.lt hq) (k := keyB j) (by show 2 ≤ 1000000; omega) HSm.out hrd5 hc5 (by omega) k)
                clear hown5 hb5 e8 hc5 hrd5 hM5
                go_wp2_with fail
                refine HPut.out.mono ?_
                rintro e w6 ⟨rfl, hO6, hk6⟩
                obtain ⟨p1, p2, p3, p4⟩ := HR.out.old.put (by omega) hj12 (valB_len 8 i) hO6.ok
                rw [p1]
                rw [← HU2.out.1] at p2
                have hM6 := HM5.out.turn hO6 hk6
                clear HPut hO6 hk6 p1
                generalize (putC c (keyB j) (valB 8 i) k).2 = c6 at *
                have HQ := hid_ (show Mid w w6 cb c6 A1 nx c1 us2 ∧ Old k c6 us2 ∧ j ∈ us2 ∧ sans j us2 ++ [j] = us2 ∧ c6.uses ≤ 2 * i + 1 ∧ c6.missed ≤ i from ⟨hM6, p2, HU2.out.2.1, HU2.out.2.2, by omega, by omega⟩)
                clear hM6 p2 p3 p4 HM5
                obtain ⟨xx, hg⟩ := HQ.out.2.1.some_ hj12 HQ.out.2.2.1
                have hsm2 : Small c6 := ⟨by have := HQ.out.2.2.2.2.1; omega, by have := HQ.out.2.2.2.2.2; omega⟩
                have HGet := hid_ (HQ.out.1.hc.get_yes (fun q hq => HQ.out.1.sl.lt hq) HKl.out hsm2 hg)
                have HGe := hid_ hg
                clear hg hsm2
                go_wp2_with fail
                refine HGet.out.mono ?_
                rintro e w7 ⟨A7, c7, rfl, _, hO7, hk7⟩
                obtain ⟨o1, o2, o3⟩ := HQ.out.2.1.get (by omega) hj12 HQ.out.2.2.1 HGe.out hO7.ok
                rw [HQ.out.2.2.2.1] at o1
                have hM7 := HQ.out.1.turn hO7 hk7
                generalize (getC c6 (keyB j)).2 = c8 at *
                have hu8 : c8.uses ≤ 2 * i + 2 := by have := HQ.out.2.2.2.2.1; omega
                have hm8 : c8.missed ≤ i := by have := HQ.out.2.2.2.2.2; omega
                have hf8 := o1.few
                have hl8 : (c8.S.length : Int) = (nx : Int) := by rw [o1.len, hM7.len]
                have hl9 : us2.length = nx := hM7.len
                have HLn := hid_ hM7.hc.len
                rw [hl8] at HLn
                have HM7 := hid_ hM7
                have HO8 := hid_ o1
                have HL9 := hid_ hl9
                have HU8 := hid_ (And.intro hu8 hm8)
                have hnx : nx ≤ 5 := by omega
                clear o1 o2 o3 hO7 hk7 hM7 HGet HGe hl8 hl9 hf8 hu8 hm8
                go_wp2_with fail
                generalize xx.val.length = xl at *
                go_loopw [17] (fun v17 wx => ∃ n2 : Nat, v17 = .int .i64 n2 ∧ n2 ≤ nx ∧ wx = w7) (fun v _ => nx - (intOf v).toNat)
                case atStart => exact ⟨0, rfl, by omega, rfl⟩
                case round =>
                  obtain ⟨n2, rfl, hn2, rfl⟩ := hrel
                  by_cases hlt3 : n2 < nx
                  · obtain ⟨g9, o9, hA9, hcl⟩ := (HM7.out.sl.rd (by omega)).cells (by omega)
                    have hns : n2 < us2.length := by rw [HL9.out]; exact hlt3
                    have d0 := hcl n2 hlt3
                    have hd0 : (us2.map keyB).getD n2 .empty = keyB us2[n2] := by
                      rw [List.getD_eq_getElem?_getD, List.getElem?_map, List.getElem?_eq_getElem hns]; rfl
                    rw [hd0] at d0
                    have HHs := hid_ (HM7.out.hc.has (keyB us2[n2]) (by show 2 ≤ maxLen; unfold maxLen; omega))
                    rw [HO8.out.has (HO8.out.lt _ (List.getElem_mem hns)), decide_eq_true (List.getElem_mem hns)] at HHs
                    subst hA9
                    generalize keyB us2[n2] = kk at *
                    have i1 : (n2 : Int) < (nx : Int) := by omega
                    have i0 : (0 : Int) ≤ (n2 : Int) := by omega
                    clear hcl hd0
                    go_wp2_with fail
                    refine HHs.out.mono ?_
                    rintro e w9 ⟨rfl, rfl⟩
                    go_wp2
                    go_roundw
                    case rel => exact ⟨n2 + 1, by go_num, by omega, trivial⟩
                    case measure => simp [intOf]; omega
                  · have i1 : ¬ (n2 : Int) < (nx : Int) := by omega
                    go_wp2_with fail
                    refine HLn.out.mono ?_
                    rintro e w9 ⟨rfl, rfl⟩
                    go_wp2
                    go_roundw
                    case rel => exact ⟨i + 1, c8, us2, A1, c1, by rw [HL9.out], by go_num, by omega, by omega, ⟨HM7.out.hc, by rw [HL9.out]; exact HM7.out.sl, HM7.out.low, HO8.out, by have := HU8.out.1; push_cast; omega, by have := HU8.out.2; push_cast; omega⟩⟩
                    case measure => simp [intOf]; omega
              · have hD := HDd.out hcc
                rw [← List.map_drop] at hD
                have HDs := hid_ hD
                clear hD HDd
                go_wp2_with fail
                go_region_law (first
                  | (refine step_append_us (by rfl) (.tmp 77) (.tmp 80) (by rfl) HE.out (by rfl) _ l ((us.take l).map keyB) (by rfl) HT.out (by omega) ?_; intro A1 c1 w1 hs1 hk1 hat1; simp only [Nat.zero_add, List.nil_append] at hs1; have HS1 := hid_ hs1; have HK1 := hid_ (HW1.out.trans hk1 (fun q hq => .inr (by obtain ⟨p, e, e2⟩ := hq; injection e with e; subst e; exact Nat.le_of_eq e2))); have HA1 := hid_ (show ∀ q, at_blk A1 q → wr.heap.size ≤ q from fun q hq => (hat1 q hq).elim (fun h => by obtain ⟨p, e, e2⟩ := h; injection e with e; subst e; exact Nat.le_of_eq e2) (fun h => by simp at h; omega)))
                  | (refine step_append_us (by rfl) (.tmp 81) (.tmp 85) (by rfl) HS1.out (by rfl) _ (ul - (l + 1)) ((us.drop (l + 1)).map keyB) (by rfl) (HDs.out.kp HK1.out (fun _ _ => id)).src (by omega) ?_; intro A2 c2 w2 hs2 hk2 hat2))
                have hk2' := HK1.out.trans hk2 (fun q hq => .inr (HA1.out q hq))
                have hA2 := show ∀ q, at_blk A2 q → wr.heap.size ≤ q from fun q hq => (hat2 q hq).elim (HA1.out q) (fun h => Nat.le_trans HK1.out.size h)
                rw [HSn.out, hx] at hs2
                have HMid := hid_ (show Mid w w2 cb c A2 x c2 us1 from ⟨HR.out.hc.turn (hk2'.mono (fun _ h => h.elim)) HR.out.low (fun q hq => .inr (hA2 q hq)), hs2, HLs.out, fun q hq => Nat.le_trans HR.out.hc.le (hA2 q hq)⟩)
                have HS1 := hid_ (hs2.kp ((Kp.refl (fun _ => False) w2).alloc (.cells #[.string (keyB j)] 9)) (fun _ _ => id))
                have HSrc := hid_ (src_one w2 (keyB j))
                clear hs2 hk2 hat2 hk2' hA2 HK1 HA1 HE HT HW1 HDs HSn
                go_wp2_with (first | (at_builtin; refine wpList_append_us rfl (.tmp 95) (.tmp 97) rfl HS1.out rfl _ 1 [keyB j] rfl HSrc.out (by omega) ?_; intro A1 c1 w4 hsl4 hk4 hat4))
                have HM4 := hid_ (HMid.out.append (j := j) _ hsl4 hk4 hat4)
                have hu2 : us1 ++ [j] = room5 (sans j us) ++ [j] := by rw [HUs.out.1]
                have hjm : j ∈ us1 ++ [j] := List.mem_append.2 (.inr (List.mem_singleton.2 rfl))
                have HU2 := hid_ (And.intro hu2 (And.intro hjm HUs.out.2))
                clear hsl4 hk4 hat4 HS1 HSrc hu2 hjm HUs HMid
                generalize us1 ++ [j] = us2 at *
                generalize x + 1 = nx at *
                refine (value_c 8 i w4 (by omega) (by omega) (by omega)).mono ?_
                rintro e w5 ⟨A5, c5, rfl, hown5, hb5⟩
                have e8 : (8 : Int).toNat = 8 := rfl
                rw [e8] at hown5 ⊢
                obtain ⟨hc5, hrd5⟩ := rd_own hown5 (by rw [valB_len])
                have hM5 := HM4.out.after hb5
                have HM5 := hid_ hM5
                have HPut := hid_ (hM5.hc.put (fun q hq => hM5.sl.lt hq) (k := keyB j) (by show 2 ≤ 1000000; omega) HSm.out hrd5 hc5 (by omega) k)
                clear hown5 hb5 e8 hc5 hrd5 hM5
                go_wp2_with fail
                refine HPut.out.mono ?_
                rintro e w6 ⟨rfl, hO6, hk6⟩
                obtain ⟨p1, p2, p3, p4⟩ := HR.out.old.put (by omega) hj12 (valB_len 8 i) hO6.ok
                rw [p1]
                rw [← HU2.out.1] at p2
                have hM6 := HM5.out.turn hO6 hk6
                clear HPut hO6 hk6 p1
                generalize (putC c (keyB j) (valB 8 i) k).2 = c6 at *
                have HQ := hid_ (show Mid w w6 cb c6 A1 nx c1 us2 ∧ Old k c6 us2 ∧ j ∈ us2 ∧ sans j us2 ++ [j] = us2 ∧ c6.uses ≤ 2 * i + 1 ∧ c6.missed ≤ i from ⟨hM6, p2, HU2.out.2.1, HU2.out.2.2, by omega, by omega⟩)
                clear hM6 p2 p3 p4 HM5
                obtain ⟨xx, hg⟩ := HQ.out.2.1.some_ hj12 HQ.out.2.2.1
                have hsm2 : Small c6 := ⟨by have := HQ.out.2.2.2.2.1; omega, by have := HQ.out.2.2.2.2.2; omega⟩
                have HGet := hid_ (HQ.out.1.hc.get_yes (fun q hq => HQ.out.1.sl.lt hq) HKl.out hsm2 hg)
                have HGe := hid_ hg
                clear hg hsm2
                go_wp2_with fail
                refine HGet.out.mono ?_
                rintro e w7 ⟨A7, c7, rfl, _, hO7, hk7⟩
                obtain ⟨o1, o2, o3⟩ := HQ.out.2.1.get (by omega) hj12 HQ.out.2.2.1 HGe.out hO7.ok
                rw [HQ.out.2.2.2.1] at o1
                have hM7 := HQ.out.1.turn hO7 hk7
                generalize (getC c6 (keyB j)).2 = c8 at *
                have hu8 : c8.uses ≤ 2 * i + 2 := by have := HQ.out.2.2.2.2.1; omega
                have hm8 : c8.missed ≤ i := by have := HQ.out.2.2.2.2.2; omega
                have hf8 := o1.few
                have hl8 : (c8.S.length : Int) = (nx : Int) := by rw [o1.len, hM7.len]
                have hl9 : us2.length = nx := hM7.len
                have HLn := hid_ hM7.hc.len
                rw [hl8] at HLn
                have HM7 := hid_ hM7
                have HO8 := hid_ o1
                have HL9 := hid_ hl9
                have HU8 := hid_ (And.intro hu8 hm8)
                have hnx : nx ≤ 5 := by omega
                clear o1 o2 o3 hO7 hk7 hM7 HGet HGe hl8 hl9 hf8 hu8 hm8
                go_wp2_with fail
                generalize xx.val.length = xl at *
                go_loopw [17] (fun v17 wx => ∃ n2 : Nat, v17 = .int .i64 n2 ∧ n2 ≤ nx ∧ wx = w7) (fun v _ => nx - (intOf v).toNat)
                case atStart => exact ⟨0, rfl, by omega, rfl⟩
                case round =>
                  obtain ⟨n2, rfl, hn2, rfl⟩ := hrel
                  by_cases hlt3 : n2 < nx
                  · obtain ⟨g9, o9, hA9, hcl⟩ := (HM7.out.sl.rd (by omega)).cells (by omega)
                    have hns : n2 < us2.length := by rw [HL9.out]; exact hlt3
                    have d0 := hcl n2 hlt3
                    have hd0 : (us2.map keyB).getD n2 .empty = keyB us2[n2] := by
                      rw [List.getD_eq_getElem?_getD, List.getElem?_map, List.getElem?_eq_getElem hns]; rfl
                    rw [hd0] at d0
                    have HHs := hid_ (HM7.out.hc.has (keyB us2[n2]) (by show 2 ≤ maxLen; unfold maxLen; omega))
                    rw [HO8.out.has (HO8.out.lt _ (List.getElem_mem hns)), decide_eq_true (List.getElem_mem hns)] at HHs
                    subst hA9
                    generalize keyB us2[n2] = kk at *
                    have i1 : (n2 : Int) < (nx : Int) := by omega
                    have i0 : (0 : Int) ≤ (n2 : Int) := by omega
                    clear hcl hd0
                    go_wp2_with fail
                    refine HHs.out.mono ?_
                    rintro e w9 ⟨rfl, rfl⟩
                    go_wp2
                    go_roundw
                    case rel => exact ⟨n2 + 1, by go_num, by omega, trivial⟩
                    case measure => simp [intOf]; omega
                  · have i1 : ¬ (n2 : Int) < (nx : Int) := by omega
                    go_wp2_with fail
                    refine HLn.out.mono ?_
                    rintro e w9 ⟨rfl, rfl⟩
                    go_wp2
                    go_roundw
                    case rel => exact ⟨i + 1, c8, us2, A1, c1, by rw [HL9.out], by go_num, by omega, by omega, ⟨HM7.out.hc, by rw [HL9.out]; exact HM7.out.sl, HM7.out.low, HO8.out, by have := HU8.out.1; push_cast; omega, by have := HU8.out.2; push_cast; omega⟩⟩
                    case measure => simp [intOf]; omega
    · have hcond : (¬ (i : Int) < (n : Int)) ∨ ((i : Int) < (n : Int) ∧ ¬ (i : Int) < 80) := by omega
      clear hlt
      rcases hcond with b1 | ⟨b1, b2⟩
      all_goals
        go_wp2_with fail
        refine (works_c wr).mono ?_
        rintro e w6 ⟨rfl, hb6⟩
        have HB := hid_ ((HR.out.hc.after hb6).below)
        clear hb6
        go_wp2
        go_ret
        exact ⟨rfl, HB.out⟩
end Go.Proofs.Ytogedbednfbkmaa
