/- A heap's methods New, Put, by what the heap stands for. Conditions: those that each theorem names. -/
import Derived.Test.YtkoacfkglfgalaaO
namespace Go.Proofs.Ytkoacfkglfgalaa
open Go.RowKit Go.Maps

theorem hnew_c (w : World) : Calls Try.prog 10 #[] w fun e w' => ∃ hb, e = .returned (.pointer (some ⟨hb, 0, none⟩)) ∧ IsH (fun q => w.heap.size ≤ q) w' hb [] ∧ Below w.heap.size w w' := by
  have hmm := @run_makeMap Try.prog
  have hmf : ∀ (fn : Fn) (first cap : Array Value) (w : World), (Instr.makeFunc fn first cap).run Try.prog w = .ok (.func fn first cap) w := fun _ _ _ _ => rfl
  go_enter Try.func10, Try.ntmps10
  go_wp2
  go_ret
  refine ⟨w.heap.size + 1, rfl, ⟨List.Pairwise.nil, w.heap.size + 2, w.heap.size, [], ⟨⟨by simp, by simp⟩, Kp.refl _ _, by omega, by omega, by omega, .slice none 0 0, .map [], ⟨?_, ?_, World.ownsRow_nil _ _ _ _, ?_⟩, ⟨fun id => by simp [Maps.has], fun i h => by simp at h⟩, fun q hq => by simp [Value.ownBlock] at hq⟩, fun k _ h => by simp at h, List.Perm.refl _⟩, by go_grown⟩
  · have := (Blk.new (w.alloc (Obj.map #[] 0)) 61 #[Value.pointer (some ⟨w.heap.size + 1 + 1, 0, none⟩), Value.map (some w.heap.size)]).alloc (Obj.cells #[Value.slice none 0 0, Value.func (Fn.func 30) #[] #[], Value.func (Fn.func 31) #[Value.pointer (some ⟨w.heap.size + 1, 0, none⟩)] #[]] 69)
    simpa using this
  · have := Blk.new ((w.alloc (Obj.map #[] 0)).alloc (Obj.cells #[Value.pointer (some ⟨w.heap.size + 1 + 1, 0, none⟩), Value.map (some w.heap.size)] 61)) 69 #[Value.slice none 0 0, Value.func (Fn.func 30) #[] #[], Value.func (Fn.func 31) #[Value.pointer (some ⟨w.heap.size + 1, 0, none⟩)] #[]]
    simpa [aheadV, movedV] using this
  · exact ((World.ownsMap_made w Try.prog 3 (plainElem (H := Unit) Try.prog 3)).alloc _).alloc _

section
variable {F : Nat → Prop} {w : World} {hb : Nat} {S : List Item}

theorem put_bad (h : IsH F w hb S) (id r : Int) (hx : ¬ (0 ≤ id ∧ id ≤ 9999 ∧ 0 ≤ r ∧ r ≤ 9007199254740991)) : Calls Try.prog 12 #[.pointer (some ⟨hb, 0, none⟩), .int .i64 id, .int .i64 r] w fun e w' => e = .returned (.int .i64 9) ∧ w = w' := by
  obtain ⟨rb, mb, L, hM, hh, hp⟩ := h.body
  obtain ⟨sv, D, hR, hI, hq⟩ := hM.start
  have H0 := hid_ (none_some hb _ _ w ⟨rb, 0, none⟩ rfl hR.head)
  clear h hM hh hp hR hI hq
  have fin : ∀ (_ : (id < 0 ∨ 9999 < id ∨ r < 0 ∨ 9007199254740991 < r)), True := fun _ => trivial
  by_cases h1 : id < 0
  · go_enter Try.func12, Try.ntmps12
    go_wp2_with fail
    refine H0.out.mono ?_
    rintro e w' ⟨rfl, rfl⟩
    go_wp2
    go_ret
    exact ⟨rfl, rfl⟩
  · by_cases h2 : 9999 < id
    · go_enter Try.func12, Try.ntmps12
      go_wp2_with fail
      refine H0.out.mono ?_
      rintro e w' ⟨rfl, rfl⟩
      go_wp2
      go_ret
      exact ⟨rfl, rfl⟩
    · by_cases h3 : r < 0
      · go_enter Try.func12, Try.ntmps12
        go_wp2_with fail
        refine H0.out.mono ?_
        rintro e w' ⟨rfl, rfl⟩
        go_wp2
        go_ret
        exact ⟨rfl, rfl⟩
      · have h4 : 9007199254740991 < r := by omega
        clear hx
        go_enter Try.func12, Try.ntmps12
        go_wp2_with fail
        refine H0.out.mono ?_
        rintro e w' ⟨rfl, rfl⟩
        go_wp2
        go_ret
        exact ⟨rfl, rfl⟩

set_option maxHeartbeats 1000000 in
set_option maxRecDepth 100000 in
theorem put_new (h : IsH F w hb S) (id r : Int) (hx : 0 ≤ id ∧ id ≤ 9999 ∧ 0 ≤ r ∧ r ≤ 9007199254740991) (hn : id ∉ S.map (·.1)) : Calls Try.prog 12 #[.pointer (some ⟨hb, 0, none⟩), .int .i64 id, .int .i64 r] w fun e w' => e = .returned (.int .i64 0) ∧
    IsH (fun q => F q ∨ w.heap.size ≤ q) w' hb (putS id r S) ∧ Kp F w w' := by
  obtain ⟨rb, mb, L, hM, hh, hp⟩ := h.body
  obtain ⟨sv, D, hR, hI, hq⟩ := hM.start
  have hnL : id ∉ L.map (·.1) := fun hm => hn ((hp.map _).mem_iff.1 hm)
  have hlen : L.length < 10000 := by
    have g' : Good (L ++ [(id, r)]) := ⟨by
      rw [List.map_append, List.nodup_append]
      exact ⟨hM.good.once, by simp, fun a ha b hb e => hnL (by simp at hb; rw [hb] at e; rw [← e]; exact ha)⟩, fun p hp => by
      rcases List.mem_append.1 hp with hp | hp
      · exact hM.good.low p hp
      · rw [List.mem_singleton.1 hp]; exact hx⟩
    have := g'.len
    simp at this
    omega
  have hhas : Maps.has D (kl id) = false := by
    rw [hI.has_ id]
    exact decide_eq_false hnL
  have c0 := hR.head.cell 0
  have c1 := hR.head.cell 1
  have hw : Wf id := wf_of hx.1 (by omega)
  have H0 := hid_ (none_some hb _ _ w ⟨rb, 0, none⟩ rfl hR.head)
  have H1 := hid_ (hpush_c ordI HM.lessM HM.swapM HM.lenM (HM.pushM (F := F) (w0 := w) (hb := hb) (rb := rb) (mb := mb) (id, r) hx) w L ⟨hM, hnL⟩ (by omega) hh)
  have HK := hid_ (keyOf_int_mk Try.underlying3 hw)
  have HO := hid_ hR.map
  have hres : ∀ L' w', HM F w hb rb mb w' L' → L'.Perm (L ++ [(id, r)]) → Heap ltI L' L'.length → IsH (fun q => F q ∨ w.heap.size ≤ q) w' hb (putS id r S) ∧ Kp F w w' := fun L' w' hM' hp' hh' =>
    ⟨hM'.isH hh' ((hp'.trans List.perm_append_comm).trans (((hp.cons _).trans (by rw [outS_none hn])).trans (ins_perm (id, r) (outS id S)).symm)) (putS_srt h.srt), hM'.kp⟩
  have HR := hid_ hres
  obtain ⟨x0, x1, x2, x3⟩ := hx
  have y0 : ¬ id < 0 := by omega
  have y1 : ¬ 9999 < id := by omega
  have y2 : ¬ r < 0 := by omega
  have y3 : ¬ 9007199254740991 < r := by omega
  clear h hM hh hp hR hI hq hn hw hnL hlen hres x0 x1 x2 x3
  go_enter Try.func12, Try.ntmps12
  go_wp2_with fail
  refine H0.out.mono ?_
  rintro e w' ⟨rfl, rfl⟩
  go_wp2_with (first | (at_lookup; refine wpList_lookup_own_ok_int _ rfl _ _ 59 rfl 3 3 .i64 Try.law3 Try.underlying59 Try.underlying3 (Try.zero3 _) mb L.length D rfl HO.out _ _ rfl HK.out ?_; intro c hat hwc) | (go_at_call 34; refine H1.out.mono ?_; (rintro e w2 ⟨rfl, L', hM2, hp2, hh2⟩)))
  go_ret
  exact ⟨rfl, HR.out _ _ hM2 hp2 hh2⟩

theorem set_perm {L : List Item} {i : Nat} (hi : i < L.length) (x : Item) (g : Good L) (hx : x.1 = (L[i]'hi).1) : (L.set i x).Perm (x :: outS x.1 L) := by
  have h1 : (L.set i x).Perm (x :: L.eraseIdx i) := by
    rw [List.set_eq_take_append_cons_drop, if_pos hi, List.eraseIdx_eq_take_drop_succ]
    exact List.perm_middle
  have h2 : (L.eraseIdx i ++ [L[i]]).Perm L := by
    have : (L[i] :: L.eraseIdx i).Perm L := by
      rw [List.eraseIdx_eq_take_drop_succ]
      have e : L = L.take i ++ L[i] :: L.drop (i + 1) := by rw [← List.drop_eq_getElem_cons hi, List.take_append_drop]
      conv => rhs; rw [e]
      exact List.perm_middle.symm
    exact List.perm_append_comm.trans this
  have h3 := out_of h2 g
  rw [← hx] at h3
  exact h1.trans (h3.cons x)

theorem RowIs.set1 {rb mb n g cap : Nat} {D : DataW Unit} {L : List Item} (h : RowIs w hb rb mb n (.slice (some ⟨g, 0, none⟩) L.length cap) D L) (i : Nat) (hi : i < L.length) (r : Int) :
    RowIs (w.setCell ⟨g, i * 2 + 1, none⟩ (.int .i64 r)) hb rb mb n (.slice (some ⟨g, 0, none⟩) L.length cap) D (L.set i ((L[i]'hi).1, r)) := by
  obtain ⟨g1, g2, g3⟩ := h.own_ne (k := g) rfl
  refine ⟨h.head.far (fun e => g1 e.symm) _, h.row.far (fun e => g2 e.symm) _, ?_, h.map.setCell (fun e => g3 e.symm) _⟩
  have hl := flat_length L
  have := own_set h.own (i * 2 + 1) (by omega) (.int .i64 r)
  rw [List.length_set, flat_set]
  have e : (flat L).set (i * 2) (.int .i64 (L[i]'hi).1) = flat L := by
    have h0 := flat_at0 L i hi
    have hlt : i * 2 < (flat L).length := by omega
    rw [List.getElem?_eq_getElem hlt] at h0
    injection h0 with h0
    rw [← h0]
    exact List.set_getElem_self hlt
  rw [e]
  exact this

set_option maxHeartbeats 1000000 in
set_option maxRecDepth 100000 in
theorem put_old (h : IsH F w hb S) (id r : Int) (hx : 0 ≤ id ∧ id ≤ 9999 ∧ 0 ≤ r ∧ r ≤ 9007199254740991) (hn : id ∈ S.map (·.1)) : Calls Try.prog 12 #[.pointer (some ⟨hb, 0, none⟩), .int .i64 id, .int .i64 r] w fun e w' => e = .returned (.int .i64 0) ∧
    IsH (fun q => F q ∨ w.heap.size ≤ q) w' hb (putS id r S) ∧ Kp F w w' := by
  obtain ⟨rb, mb, L, hM, hh, hp⟩ := h.body
  obtain ⟨sv, D, hR, hI, hq⟩ := hM.start
  have hm : id ∈ L.map (·.1) := (hp.map _).mem_iff.2 hn
  obtain ⟨p, hpm, hpe⟩ := List.mem_map.1 hm
  obtain ⟨i, hi, hpi⟩ := List.mem_iff_getElem.1 hpm
  have hxi : (L[i]'hi).1 = id := by rw [hpi]; exact hpe
  have hat : D.atKey (kl id) (i64 0) = i64 i := by rw [← hxi]; exact hI.at_ i hi
  have hhas : Maps.has D (kl id) = true := by
    rw [hI.has_ id]
    exact decide_eq_true hm
  have hlen := hM.good.len
  obtain ⟨g, cap, hv, hg, hc⟩ := hR.item hi
  obtain ⟨i0, i1⟩ := hc i hi
  subst hv
  have hgb : F g := hq g rfl
  have hR1 := hR.set1 i hi r
  have hk1 : Kp F w (w.setCell ⟨g, i * 2 + 1, none⟩ (.int .i64 r)) := (Kp.refl F w).setCell (.inl hgb) _
  have hids : (L.set i (id, r)).map (·.1) = L.map (·.1) := by
    rw [List.map_set]
    have : id = (L.map (·.1))[i]'(by simpa using hi) := by simp [hxi]
    conv => lhs; rw [show (id, r).1 = id from rfl, this]
    exact List.set_getElem_self _
  rw [hxi] at hR1
  have hgood1 : Good (L.set i (id, r)) := ⟨by rw [hids]; exact hM.good.once, fun p hp => by
    rcases List.mem_or_eq_of_mem_set hp with hp | hp
    · exact hM.good.low p hp
    · rw [hp]; exact hx⟩
  have hI1 : Idx D (L.set i (id, r)) := ⟨fun id' => by rw [hids]; exact hI.has_ id', fun j hj => by
    have hj' : j < L.length := by simpa using hj
    by_cases e : j = i
    · subst e; rw [List.getElem_set_self]; exact hat
    · rw [List.getElem_set_ne (fun x => e x.symm)]; exact hI.at_ j hj'⟩
  have hM1 : HM F w hb rb mb (w.setCell ⟨g, i * 2 + 1, none⟩ (.int .i64 r)) (L.set i (id, r)) :=
    ⟨hgood1, hk1, hM.fh, hM.fr, hM.fm, _, D, by simpa using hR1, hI1, fun q hs => .inl (hq q (by simpa [Value.ownBlock] using hs))⟩
  have hbad : Bad ltI (L.set i (id, r)) (L.set i (id, r)).length i := bad_fix ordI hh (by simp) (fun k hk => by
    simp only [at_, List.getD_eq_getElem?_getD]
    rw [List.getElem?_set_ne (fun x => hk x.symm)])
  have c0 := hR.head.cell 0
  have c1 := hR.head.cell 1
  have d0 := hR.row.cell 0
  have f1 : w.frozen? ⟨g, i * 2 + 1, none⟩ = false := by
    rcases hR.own.2 with ⟨h1, _⟩ | ⟨g', _, _, h1, _, h2, _⟩
    · cases h1
    · injection h1 with h1
      injection h1 with h1
      injection h1 with h1
      subst h1
      exact Blk.frozen h2 _
  have e0 := hR1.head.cell 0
  have hw : Wf id := wf_of hx.1 (by omega)
  have H0 := hid_ (none_some hb _ _ w ⟨rb, 0, none⟩ rfl hR.head)
  have H1 := hid_ (hfix_c ordI HM.lessM HM.swapM HM.lenM _ _ i hM1 (by simpa using hi) (by simp; omega) hbad)
  have HK := hid_ (keyOf_int_mk Try.underlying3 hw)
  have HO := hid_ hR.map
  have HA := hid_ hat
  have hres : ∀ L' w', HM F w hb rb mb w' L' → L'.Perm (L.set i (id, r)) → Heap ltI L' L'.length → IsH (fun q => F q ∨ w.heap.size ≤ q) w' hb (putS id r S) ∧ Kp F w w' := fun L' w' hM' hp' hh' =>
    ⟨hM'.isH hh' ((hp'.trans (set_perm hi (id, r) hM.good hxi.symm)).trans (((out_perm hp).cons _).trans (ins_perm (id, r) (outS id S)).symm)) (putS_srt h.srt), hM'.kp⟩
  have HR := hid_ hres
  have HI := hid_ hi
  obtain ⟨x0, x1, x2, x3⟩ := hx
  have y0 : ¬ id < 0 := by omega
  have y1 : ¬ 9999 < id := by omega
  have y2 : ¬ r < 0 := by omega
  have y3 : ¬ 9007199254740991 < r := by omega
  have b0 : (0 : Int) ≤ (i : Int) := by omega
  have b1 : (i : Int) < (L.length : Int) := by omega
  clear h hM hh hp hI hq hn hw hm hlen hres x0 x1 x2 x3 hat hR hR1 hk1 hids hgood1 hI1 hM1 hbad hxi hpi hpe hpm hc
  go_enter Try.func12, Try.ntmps12
  go_wp2_with fail
  refine H0.out.mono ?_
  rintro e w' ⟨rfl, rfl⟩
  go_wp2_with (first | (at_lookup; refine wpList_lookup_idx _ rfl _ _ rfl mb _ D rfl HO.out id rfl HK.out i HA.out ?_) | (go_at_call 33; refine H1.out.mono ?_; (rintro e w2 ⟨rfl, L', hM2, hp2, hh2⟩)))
  go_ret
  exact ⟨rfl, HR.out _ _ hM2 hp2 hh2⟩
end
end Go.Proofs.Ytkoacfkglfgalaa
