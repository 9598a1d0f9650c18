/- A heap's methods Len, First, Pop, Rank, Remove, by what the heap stands for. Conditions: those that each theorem names. -/
import Derived.Test.YtkoacfkglfgalaaO
namespace Go.Proofs.Ytkoacfkglfgalaa
open Go.RowKit Go.Maps

theorem bdrewN {B : Nat} {a w : World} (h : Below B a w) (n : Nat) : Below B a (w.drewN n) := ⟨h.os, h.tape, h.output, h.size, h.block⟩

section
variable {F : Nat → Prop} {w : World} {hb : Nat} {S : List Item}

theorem hlen_c (h : IsH F w hb S) : Calls Try.prog 13 #[.pointer (some ⟨hb, 0, none⟩)] w fun e w' => e = .returned (.int .i64 S.length) ∧ w = w' := by
  obtain ⟨rb, mb, L, hM, hh, hp⟩ := h.body
  obtain ⟨sv, D, hR, hI, hq⟩ := hM.start
  have hl := hp.length_eq
  have c0 := hR.head.cell 0
  have H0 := hid_ (none_some hb _ _ w ⟨rb, 0, none⟩ rfl hR.head)
  have H1 := hid_ (len_c hR)
  have HL := hid_ hl
  clear h hM hh hp hR hI hq hl
  go_enter Try.func13, Try.ntmps13
  go_wp2_with fail
  refine H0.out.mono ?_
  rintro e w' ⟨rfl, rfl⟩
  go_wp2_with fail
  refine H1.out.mono ?_
  rintro e w' ⟨rfl, rfl⟩
  go_wp2
  go_ret
  exact ⟨by rw [← HL.out]; rfl, rfl⟩

/-- The first item, where there is one. -/
theorem first_c {x : Item} (h : IsH F w hb (x :: S)) : Calls Try.prog 16 #[.pointer (some ⟨hb, 0, none⟩)] w fun e w' => e = .returned (.tuple #[.int .i64 x.1, .int .i64 x.2, .int .i64 0]) ∧ Below w.heap.size w w' := by
  obtain ⟨rb, mb, L, hM, hh, hp⟩ := h.body
  obtain ⟨sv, D, hR, hI, hq⟩ := hM.start
  have hl := hp.length_eq
  have hpos : 0 < L.length := by simp at hl; omega
  have hx := head_is hh hp h.srt
  rw [at_eq L 0 hpos] at hx
  obtain ⟨g, cap, hv, hg, hc⟩ := hR.item hpos
  obtain ⟨i0, i1⟩ := hc 0 hpos
  rw [hx] at i0 i1
  have c0 := hR.head.cell 0
  have d0 := hR.row.cell 0
  rw [hv] at d0
  have H0 := hid_ (none_some hb _ _ w ⟨rb, 0, none⟩ rfl hR.head)
  have H1 := hid_ (len_c hR)
  have q0 : ((L.length : Int) == 0) = false := by rw [beq_eq_false_iff_ne]; omega
  have q1 : (0 : Int) < (L.length : Int) := by omega
  have lg := hR.row.lt
  have lh := hR.head.lt
  simp only [Nat.zero_mul, Nat.zero_add] at i0 i1
  clear h hM hh hp hR hI hq hl hx hv hc
  obtain ⟨x1, x2⟩ := x
  go_enter Try.func16, Try.ntmps16
  go_wp2_with fail
  refine H0.out.mono ?_
  rintro e w' ⟨rfl, rfl⟩
  go_wp2_with fail
  refine H1.out.mono ?_
  rintro e w' ⟨rfl, rfl⟩
  go_wp2
  go_quiet (fail)
  go_wp2
  go_ret3
  exact ⟨rfl, bdrewN ((Below.refl _ _).alloc (Nat.le_refl _) _) _⟩

theorem first_none (h : IsH F w hb []) : Calls Try.prog 16 #[.pointer (some ⟨hb, 0, none⟩)] w fun e w' => e = .returned (.tuple #[.int .i64 0, .int .i64 0, .int .i64 9]) ∧ Below w.heap.size w w' := by
  obtain ⟨rb, mb, L, hM, hh, hp⟩ := h.body
  obtain ⟨sv, D, hR, hI, hq⟩ := hM.start
  have hl := hp.length_eq
  have c0 := hR.head.cell 0
  have H0 := hid_ (none_some hb _ _ w ⟨rb, 0, none⟩ rfl hR.head)
  have H1 := hid_ (len_c hR)
  have q0 : ((L.length : Int) == 0) = true := by rw [beq_iff_eq]; simp at hl; simp [hl]
  clear h hM hh hp hR hI hq hl
  go_enter Try.func16, Try.ntmps16
  go_wp2_with fail
  refine H0.out.mono ?_
  rintro e w' ⟨rfl, rfl⟩
  go_wp2_with fail
  refine H1.out.mono ?_
  rintro e w' ⟨rfl, rfl⟩
  go_wp2
  go_ret3
  exact ⟨rfl, Below.refl _ _⟩

theorem pop_none (h : IsH F w hb []) : Calls Try.prog 14 #[.pointer (some ⟨hb, 0, none⟩)] w fun e w' => e = .returned (.tuple #[.int .i64 0, .int .i64 0, .int .i64 9]) ∧ Below w.heap.size w w' := by
  have H0 := hid_ (first_none h)
  clear h
  go_enter Try.func14, Try.ntmps14
  go_wp2_with fail
  refine H0.out.mono ?_
  rintro e w' ⟨rfl, hbl⟩
  go_wp2
  go_ret3
  exact ⟨rfl, hbl⟩

theorem pop_c {x : Item} (h : IsH F w hb (x :: S)) : Calls Try.prog 14 #[.pointer (some ⟨hb, 0, none⟩)] w fun e w' => e = .returned (.tuple #[.int .i64 x.1, .int .i64 x.2, .int .i64 0]) ∧ IsH (fun q => F q ∨ w.heap.size ≤ q) w' hb S ∧ Kp F w w' := by
  have H0 := hid_ (first_c h)
  obtain ⟨rb, mb, L, hM, hh, hp⟩ := h.body
  have hl := hp.length_eq
  have hpos : 0 < L.length := by simp at hl; omega
  have hx := head_is hh hp h.srt
  have hg := hM.good.len
  obtain ⟨sv, D, hR, hI, hq⟩ := hM.start
  have H1 : Hid (∀ w1, Below w.heap.size w w1 → w1.cell? ⟨hb, 0, none⟩ = some (.pointer (some ⟨rb, 0, none⟩)) ∧ Calls Try.prog 36 #[.iface 58 (.pointer (some ⟨rb, 0, none⟩))] w1 fun e w' => e = .returned (.iface 65 (.agg #[.int .i64 (at_ L 0).1, .int .i64 (at_ L 0).2])) ∧ TakenP ltI (HM F w hb rb mb) L (at_ L 0) w') :=
    fun w1 hb1 => ⟨(hR.below hb1).head.cell 0, hpop_c ordI HM.lessM HM.swapM HM.lenM HM.popM w1 L ⟨hM.good, Kp.of_below hb1 F, hM.fh, hM.fr, hM.fm, sv, D, hR.below hb1, hI, fun q hs => .inl (hq q hs)⟩ hpos (by omega) hh⟩
  have HS := hid_ h.srt
  have HX := hid_ hx
  have HP := hid_ hp
  have HG := hid_ hM.good
  clear h hM hh hp hR hI hq hl hx hpos hg
  go_enter Try.func14, Try.ntmps14
  go_wp2_with fail
  refine H0.out.mono ?_
  rintro e w1 ⟨rfl, hbl⟩
  obtain ⟨c0, hC⟩ := H1.out w1 hbl
  have HC := hid_ hC
  clear hC hbl
  go_wp2_with fail
  refine HC.out.mono ?_
  rintro e w2 ⟨rfl, L', hM2, hp2, hh2⟩
  have hS : Srt S := (List.pairwise_cons.1 HS.out).2
  have hp3 : L'.Perm S := by
    have e := HX.out
    rw [e] at hp2
    have := List.perm_append_comm.trans (hp2.trans HP.out)
    exact List.Perm.cons_inv this
  have HF := hid_ (And.intro (hM2.isH hh2 hp3 hS) hM2.kp)
  clear hM2 hp2 hh2 hp3 hS c0
  go_wp2
  go_ret3
  exact ⟨rfl, HF.out.1, HF.out.2⟩

/-- Where an id lies. -/
theorem HM.find {rb mb : Nat} {L : List Item} {sv : Value} {D : DataW Unit} (hR : RowIs w hb rb mb L.length sv D L) (hI : Idx D L) {id : Int} (hid : id ∈ L.map (·.1)) :
    ∃ i, ∃ (hi : i < L.length), (L[i]'hi).1 = id ∧ D.atKey (kl id) (i64 0) = i64 i := by
  obtain ⟨p, hp, rfl⟩ := List.mem_map.1 hid
  obtain ⟨i, hi, rfl⟩ := List.mem_iff_getElem.1 hp
  exact ⟨i, hi, rfl, hI.at_ i hi⟩

theorem rank_none {id : Int} (h : IsH F w hb S) (hw : Wf id) (hn : id ∉ S.map (·.1)) : Calls Try.prog 18 #[.pointer (some ⟨hb, 0, none⟩), .int .i64 id] w fun e w' => e = .returned (.tuple #[.int .i64 0, .bool false]) ∧ w = w' := by
  obtain ⟨rb, mb, L, hM, hh, hp⟩ := h.body
  obtain ⟨sv, D, hR, hI, hq⟩ := hM.start
  have c1 := hR.head.cell 1
  have H0 := hid_ (none_some hb _ _ w ⟨rb, 0, none⟩ rfl hR.head)
  have hhas : Maps.has D (kl id) = false := by
    rw [hI.has_ id]
    exact decide_eq_false (fun hm => hn ((hp.map _).mem_iff.1 hm))
  have hkey := keyOf_int_mk Try.underlying3 hw
  have hown := hR.map
  have HK := hid_ hkey
  have HO := hid_ hown
  clear h hM hh hp hR hI hq hn hkey hown hw
  go_enter Try.func18, Try.ntmps18
  go_wp2_with fail
  refine H0.out.mono ?_
  rintro e w' ⟨rfl, rfl⟩
  go_wp2_with (first | (at_lookup; refine wpList_lookup_own_ok_int _ rfl _ _ 59 rfl 3 3 .i64 Try.law3 Try.underlying59 Try.underlying3 (Try.zero3 _) mb L.length D rfl HO.out _ _ rfl HK.out ?_; intro c hat hwc))
  go_ret2
  exact ⟨rfl, rfl⟩

theorem rank_c {id r : Int} (h : IsH F w hb S) (hn : (id, r) ∈ S) : Calls Try.prog 18 #[.pointer (some ⟨hb, 0, none⟩), .int .i64 id] w fun e w' => e = .returned (.tuple #[.int .i64 r, .bool true]) ∧ w = w' := by
  have hgood := h.good
  obtain ⟨rb, mb, L, hM, hh, hp⟩ := h.body
  obtain ⟨sv, D, hR, hI, hq⟩ := hM.start
  have hm : (id, r) ∈ L := hp.mem_iff.2 hn
  have hw : Wf id := hM.good.wf hm
  obtain ⟨i, hi, hx⟩ := List.mem_iff_getElem.1 hm
  have hat := hI.at_ i hi
  rw [hx] at hat
  have hhas : Maps.has D (kl id) = true := by
    rw [hI.has_ id]
    exact decide_eq_true (List.mem_map.2 ⟨_, hm, rfl⟩)
  obtain ⟨g, cap, hv, hg, hc⟩ := hR.item hi
  obtain ⟨i0, i1⟩ := hc i hi
  rw [hx] at i0 i1
  have c0 := hR.head.cell 0
  have c1 := hR.head.cell 1
  have d0 := hR.row.cell 0
  rw [hv] at d0
  have H0 := hid_ (none_some hb _ _ w ⟨rb, 0, none⟩ rfl hR.head)
  have HK := hid_ (keyOf_int_mk Try.underlying3 hw)
  have HO := hid_ hR.map
  have HA := hid_ hat
  have b0 : (0 : Int) ≤ (i : Int) := by omega
  have b1 : (i : Int) < (L.length : Int) := by omega
  clear h hM hh hp hR hI hq hn hw hm hgood hx hat hv hc
  go_enter Try.func18, Try.ntmps18
  go_wp2_with fail
  refine H0.out.mono ?_
  rintro e w' ⟨rfl, rfl⟩
  go_wp2_with (first | (at_lookup; refine wpList_lookup_idx _ rfl _ _ rfl mb L.length D rfl HO.out id rfl HK.out i HA.out ?_))
  go_ret2
  exact ⟨rfl, rfl⟩

theorem remove_none {id : Int} (h : IsH F w hb S) (hw : Wf id) (hn : id ∉ S.map (·.1)) : Calls Try.prog 19 #[.pointer (some ⟨hb, 0, none⟩), .int .i64 id] w fun e w' => e = .returned (.int .i64 50) ∧ w = w' := by
  obtain ⟨rb, mb, L, hM, hh, hp⟩ := h.body
  obtain ⟨sv, D, hR, hI, hq⟩ := hM.start
  have c1 := hR.head.cell 1
  have H0 := hid_ (none_some hb _ _ w ⟨rb, 0, none⟩ rfl hR.head)
  have hhas : Maps.has D (kl id) = false := by
    rw [hI.has_ id]
    exact decide_eq_false (fun hm => hn ((hp.map _).mem_iff.1 hm))
  have HK := hid_ (keyOf_int_mk Try.underlying3 hw)
  have HO := hid_ hR.map
  clear h hM hh hp hR hI hq hn hw
  go_enter Try.func19, Try.ntmps19
  go_wp2_with fail
  refine H0.out.mono ?_
  rintro e w' ⟨rfl, rfl⟩
  go_wp2_with (first | (at_lookup; refine wpList_lookup_own_ok_int _ rfl _ _ 59 rfl 3 3 .i64 Try.law3 Try.underlying59 Try.underlying3 (Try.zero3 _) mb L.length D rfl HO.out _ _ rfl HK.out ?_; intro c hat hwc))
  go_ret
  exact ⟨rfl, rfl⟩

theorem remove_c {id : Int} (h : IsH F w hb S) (hn : id ∈ S.map (·.1)) : Calls Try.prog 19 #[.pointer (some ⟨hb, 0, none⟩), .int .i64 id] w fun e w' => e = .returned (.int .i64 0) ∧ IsH (fun q => F q ∨ w.heap.size ≤ q) w' hb (outS id S) ∧ Kp F w w' := by
  have hgood := h.good
  obtain ⟨rb, mb, L, hM, hh, hp⟩ := h.body
  obtain ⟨sv, D, hR, hI, hq⟩ := hM.start
  have hm : id ∈ L.map (·.1) := (hp.map _).mem_iff.2 hn
  obtain ⟨i, hi, hx, hat⟩ := HM.find hR hI hm
  have hw : Wf id := by rw [← hx]; exact hM.good.wf (List.getElem_mem _)
  have hhas : Maps.has D (kl id) = true := by
    rw [hI.has_ id]
    exact decide_eq_true hm
  have c0 := hR.head.cell 0
  have c1 := hR.head.cell 1
  have hlen := hM.good.len
  have H0 := hid_ (none_some hb _ _ w ⟨rb, 0, none⟩ rfl hR.head)
  have H1 := hid_ (hremove_c ordI HM.lessM HM.swapM HM.lenM HM.popM w L i hM hi (by omega) hh)
  have HK := hid_ (keyOf_int_mk Try.underlying3 hw)
  have HO := hid_ hR.map
  have HA := hid_ hat
  have HX := hid_ (And.intro hx (And.intro hM.good (And.intro hp h.srt)))
  have HI := hid_ hi
  clear h hM hh hp hR hI hq hn hw hm hgood hat hlen
  go_enter Try.func19, Try.ntmps19
  go_wp2_with fail
  refine H0.out.mono ?_
  rintro e w' ⟨rfl, rfl⟩
  go_wp2_with (first | (at_lookup; refine wpList_lookup_idx _ rfl _ _ rfl mb L.length D rfl HO.out id rfl HK.out i HA.out ?_) | (go_at_call 39; refine H1.out.mono ?_; (rintro e w2 ⟨rfl, L', hM2, hp2, hh2⟩)))
  have hi := HI.out
  obtain ⟨hx, hg, hp, hs⟩ := HX.out
  rw [at_eq L i hi] at hp2
  have hp3 : L'.Perm (outS id S) := by
    have h1 := out_of hp2 hg
    rw [hx] at h1
    exact h1.trans (out_perm hp)
  go_ret
  exact ⟨rfl, hM2.isH hh2 hp3 (outS_srt hs), hM2.kp⟩
end
end Go.Proofs.Ytkoacfkglfgalaa
