/- Do a heap and a reference heap stand alike: same. Conditions: those that each theorem names. -/
import Derived.Test.YtkoacfkglfgalaaRg
import Derived.Deep.RegionHeld3
namespace Go.Proofs.Ytkoacfkglfgalaa
open Go.RowKit Go.Maps

section
variable {U : Nat → Prop} {hb mb : Nat} {w0 w w' : World} {S T : List Item}
theorem Pq.ids (h : Pq U w0 w hb mb S T) : Calls Try.prog 17 #[.pointer (some ⟨hb, 0, none⟩)] w fun e w' => ∃ A c, e = .returned (.slice A S.length c) ∧ RdI w' A S.length (idsS S) ∧ Below w.heap.size w w' := by
  obtain ⟨F, G, h1, _⟩ := h.isH
  have hl := h1.good.len
  exact (ids_c h1).mono fun e w' ⟨A, c, he, hown, hb⟩ => ⟨A, c, he, RdI.of_own hown (by omega), hb⟩
theorem Pq.rids (h : Pq U w0 w hb mb S T) (hT : T.length ≤ 1000) : Calls Try.prog 47 #[.pointer (some ⟨mb, 0, none⟩)] w fun e w' => ∃ A c, e = .returned (.slice A T.length c) ∧ RdI w' A T.length (idsS T) ∧ Below w.heap.size w w' := by
  obtain ⟨F, G, h1, h2, _⟩ := h.isH
  exact (rids_c h2 hT).mono fun e w' ⟨A, c, he, hown, hb⟩ => ⟨A, c, he, RdI.of_own hown (by omega), hb⟩
theorem Pq.first (h : Pq U w0 w hb mb S T) : Calls Try.prog 16 #[.pointer (some ⟨hb, 0, none⟩)] w fun e w' => e = .returned (.tuple #[.int .i64 (popI S), .int .i64 (popK S), .int .i64 (popE S)]) ∧ Below w.heap.size w w' := by
  obtain ⟨F, G, h1, _⟩ := h.isH
  exact first_any h1
theorem Pq.rfirst (h : Pq U w0 w hb mb S T) (hT : T.length ≤ 1000) : Calls Try.prog 45 #[.pointer (some ⟨mb, 0, none⟩)] w fun e w' => e = .returned (.tuple #[.int .i64 (popI T), .int .i64 (popK T), .int .i64 (popE T)]) ∧ Below w.heap.size w w' := by
  obtain ⟨F, G, h1, h2, _⟩ := h.isH
  exact rfirst_c h2 hT
theorem Pq.rank (h : Pq U w0 w hb mb S T) (id : Int) (hw : Wf id) : Calls Try.prog 18 #[.pointer (some ⟨hb, 0, none⟩), .int .i64 id] w fun e w' => e = .returned (.tuple #[.int .i64 (rankS id S), .bool (hasS id S)]) ∧ w = w' := by
  obtain ⟨F, G, h1, _⟩ := h.isH
  exact rank_any h1 id hw
theorem Pq.rrank (h : Pq U w0 w hb mb S T) (hg : Good T) (id : Int) (hT : T.length ≤ 1000) : Calls Try.prog 46 #[.pointer (some ⟨mb, 0, none⟩), .int .i64 id] w fun e w' => e = .returned (.tuple #[.int .i64 (rankS id T), .bool (hasS id T)]) ∧ Below w.heap.size w w' := by
  obtain ⟨F, G, h1, h2, _⟩ := h.isH
  exact rrank_c h2 hg id hT
theorem Pq.rput (h : Pq U w0 w hb mb S T) (hs : Srt T) (hg : Good T) (id r : Int) (hT : T.length ≤ 900) : Calls Try.prog 22 #[.pointer (some ⟨mb, 0, none⟩), .int .i64 id, .int .i64 r] w fun e w' => e = .returned (.int .i64 (putE id r)) ∧ Pq U w0 w' hb mb S (putR id r T) := by
  obtain ⟨F, G, h1, h2, h3, h4⟩ := h.isH
  exact (rput_any h2 hs hg id r hT).mono fun e w' ⟨he, hl⟩ => ⟨he, h.rleft h1 h3 h4 h2.fm hl⟩
theorem Pq.rhead (h : Pq U w0 w hb mb S T) : ∃ A c, w.cell? ⟨mb, 0, none⟩ = some (.slice A T.length c) := by
  obtain ⟨F, G, h1, h2, _⟩ := h.isH
  exact h2.head

set_option maxHeartbeats 8000000 in
set_option maxRecDepth 100000 in
theorem same_c (h : Pq U w0 w hb mb S S) (id : Int) (hw : Wf id) (hS : S.length ≤ 900) :
    Calls Try.prog 28 #[.pointer (some ⟨hb, 0, none⟩), .pointer (some ⟨mb, 0, none⟩), .int .i64 id] w fun e w' => e = .returned (.bool true) ∧ Pq U w0 w' hb mb S S := by
  have H0 := hid_ h
  have HW := hid_ hw
  clear h hw
  go_enter Try.func28, Try.ntmps28
  go_wp2_with fail
  refine H0.out.first.mono ?_
  rintro e w1 ⟨rfl, hl⟩
  have H1 := hid_ (H0.out.after hl)
  clear hl
  have C1 := hid_ (H1.out.rfirst (by omega))
  go_wp2_with fail
  refine C1.out.mono ?_
  rintro e w2 ⟨rfl, hl⟩
  have H2 := hid_ (H1.out.after hl)
  clear hl C1
  have C2 := hid_ (H2.out.rank id HW.out)
  go_wp2_with fail
  refine C2.out.mono ?_
  rintro e w3 ⟨rfl, rfl⟩
  have C3 := hid_ (H2.out.rrank H2.out.good id (by omega))
  clear C2
  go_wp2_with fail
  refine C3.out.mono ?_
  rintro e w3 ⟨rfl, hl⟩
  have H3 := hid_ (H2.out.after hl)
  clear hl C3
  obtain ⟨A, c, hc⟩ := H3.out.rhead
  generalize popI S = x1 at *
  generalize popK S = x2 at *
  generalize popE S = x3 at *
  generalize rankS id S = x4 at *
  generalize hasS id S = x5 at *
  generalize hn : S.length = n at *
  have HN := hid_ hn
  clear hn
  have q1 : (x1 == x1) = true := by simp
  have q2 : (x2 == x2) = true := by simp
  have q3 : (x3 == x3) = true := by simp
  have q4 : (x4 == x4) = true := by simp
  have q5 : (x5 == x5) = true := by simp
  have q6 : ((n : Int) == (n : Int)) = true := by simp
  go_wp2
  go_region_held3 (fun W => Below w3.heap.size w3 W ∧ W.cell? ⟨mb, 0, none⟩ = some (.slice A n c))
    (first | exact ⟨(Below.refl _ _).drew, hc⟩ | exact ⟨HB1.out, below_cell HB1.out hc⟩ | exact ⟨HB2.out, below_cell HB2.out hc⟩ | exact ⟨HB3.out, below_cell HB3.out hc⟩)
    (first
      | (go_at_call 13; obtain ⟨hbx, _⟩ := (by assumption : Below w3.heap.size w3 _ ∧ _); refine (H3.out.after hbx).len.mono ?_; rintro e wa ⟨rfl, rfl⟩; rw [HN.out]; have HB1 := hid_ hbx)
      | (go_at_call 17; obtain ⟨hbx, _⟩ := (by assumption : Below w3.heap.size w3 _ ∧ _); refine (H3.out.after hbx).ids.mono ?_; rintro e wa ⟨A1, d1, rfl, hr1, hl1⟩; have HR1 := hid_ hr1; have HB2 := hid_ (hbx.trans (hl1.mono hbx.size)))
      | (go_at_call 47; obtain ⟨hbx, _⟩ := (by assumption : Below w3.heap.size w3 _ ∧ _); refine ((H3.out.after hbx).rids (by rw [HN.out]; omega)).mono ?_; rintro e wa ⟨A2, d2, rfl, hr2, hl2⟩; have HR2 := hid_ hr2; have HL2 := hid_ hl2; have HB3 := hid_ (hbx.trans (hl2.mono hbx.size)))
      | (go_at_call 20; obtain ⟨hbx, _⟩ := (by assumption : Below w3.heap.size w3 _ ∧ _); refine (eqints_c (HR1.out.below HL2.out) HR2.out).mono ?_; rintro e wa ⟨rfl, hl3⟩; have HB1 := hid_ (hbx.trans (hl3.mono hbx.size))))
  all_goals
    have HE := hid_ (H3.out.after HB1.out)
    go_wp2
    go_ret
    exact ⟨by simp, HE.out⟩
end
end Go.Proofs.Ytkoacfkglfgalaa
