/- A heap and a reference heap, side by side; popped. Conditions: those that each theorem names. -/
import Derived.Test.YtkoacfkglfgalaaRb
namespace Go.Proofs.Ytkoacfkglfgalaa
open Go.RowKit Go.Maps

/-- A heap at hb and a reference heap at mb, apart; since w0 nothing but U and what is new has turned. -/
structure Pq (U : Nat → Prop) (w0 w : World) (hb mb : Nat) (S T : List Item) : Prop where
  isH : ∃ F G, IsH F w hb S ∧ Rf G w mb T ∧ (∀ q, F q → (U q ∨ w0.heap.size ≤ q) ∧ q < w.heap.size ∧ ¬ G q) ∧ (∀ q, G q → (U q ∨ w0.heap.size ≤ q) ∧ q < w.heap.size)
  kp : Kp U w0 w
section
variable {U : Nat → Prop} {hb mb : Nat} {w0 w w' : World} {S T S' T' : List Item}
theorem Pq.srt (h : Pq U w0 w hb mb S T) : Srt S := by
  obtain ⟨F, G, h1, _⟩ := h.isH
  exact h1.srt
theorem Pq.good (h : Pq U w0 w hb mb S T) : Good S := by
  obtain ⟨F, G, h1, _⟩ := h.isH
  exact h1.good
theorem Pq.left {F G : Nat → Prop} (h : Pq U w0 w hb mb S T) (h2 : Rf G w mb T) (h3 : ∀ q, F q → (U q ∨ w0.heap.size ≤ q) ∧ q < w.heap.size ∧ ¬ G q) (h4 : ∀ q, G q → (U q ∨ w0.heap.size ≤ q) ∧ q < w.heap.size) (l : Left F w hb S' w') : Pq U w0 w' hb mb S' T := by
  refine ⟨⟨_, G, l.isH.blocks, h2.kp l.kp (fun q hq hf => (h3 q hf).2.2 hq), fun q hq => ?_, fun q hq => ⟨(h4 q hq).1, Nat.lt_of_lt_of_le (h4 q hq).2 l.kp.size⟩⟩, h.kp.trans l.kp (fun q hq => (h3 q hq).1)⟩
  obtain ⟨h5, h6⟩ := hq
  rcases h5 with h5 | h5
  · exact ⟨(h3 q h5).1, h6, (h3 q h5).2.2⟩
  · exact ⟨.inr (Nat.le_trans h.kp.size h5), h6, fun x => by have := h4 q x; omega⟩
theorem Pq.rleft {F G : Nat → Prop} (h : Pq U w0 w hb mb S T) (h1 : IsH F w hb S) (h3 : ∀ q, F q → (U q ∨ w0.heap.size ≤ q) ∧ q < w.heap.size ∧ ¬ G q) (h4 : ∀ q, G q → (U q ∨ w0.heap.size ≤ q) ∧ q < w.heap.size) (hm : G mb) (l : RfLeft G w mb T' w') : Pq U w0 w' hb mb S T' := by
  refine ⟨⟨F, _, h1.kp l.kp (fun q hq e => (h3 q hq).2.2 (e ▸ hm)), l.rf.blocks, fun q hq => ⟨(h3 q hq).1, Nat.lt_of_lt_of_le (h3 q hq).2.1 l.kp.size, ?_⟩, fun q hq => ?_⟩, h.kp.trans l.kp (fun q hq => by rw [hq]; exact (h4 mb hm).1)⟩
  · rintro ⟨x | x, _⟩
    · exact (h3 q hq).2.2 x
    · have := (h3 q hq).2.1; omega
  · obtain ⟨x | x, h5⟩ := hq
    · exact ⟨(h4 q x).1, h5⟩
    · exact ⟨.inr (Nat.le_trans h.kp.size x), h5⟩
theorem Pq.after (h : Pq U w0 w hb mb S T) (b : Below w.heap.size w w') : Pq U w0 w' hb mb S T := by
  obtain ⟨F, G, h1, h2, h3, h4⟩ := h.isH
  exact ⟨⟨F, G, h1.below b, h2.below b, fun q hq => ⟨(h3 q hq).1, Nat.lt_of_lt_of_le (h3 q hq).2.1 b.size, (h3 q hq).2.2⟩, fun q hq => ⟨(h4 q hq).1, Nat.lt_of_lt_of_le (h4 q hq).2 b.size⟩⟩, h.kp.below b⟩
theorem Pq.drew (h : Pq U w0 w hb mb S T) : Pq U w0 w.drew hb mb S T := h.after (Below.refl _ w).drew

theorem Pq.pop (h : Pq U w0 w hb mb S T) : Calls Try.prog 14 #[.pointer (some ⟨hb, 0, none⟩)] w fun e w' => e = .returned (.tuple #[.int .i64 (popI S), .int .i64 (popK S), .int .i64 (popE S)]) ∧ Pq U w0 w' hb mb S.tail T := by
  obtain ⟨F, G, h1, h2, h3, h4⟩ := h.isH
  exact (pop_any h1).mono fun e w' ⟨he, hl⟩ => ⟨he, h.left h2 h3 h4 hl⟩
theorem Pq.rpop (h : Pq U w0 w hb mb S T) (hT : T.length ≤ 1000) : Calls Try.prog 23 #[.pointer (some ⟨mb, 0, none⟩)] w fun e w' => e = .returned (.tuple #[.int .i64 (popI T), .int .i64 (popK T), .int .i64 (popE T)]) ∧ Pq U w0 w' hb mb S T.tail := by
  obtain ⟨F, G, h1, h2, h3, h4⟩ := h.isH
  exact (rpop_c h2 hT).mono fun e w' ⟨he, hl⟩ => ⟨he, h.rleft h1 h3 h4 h2.fm hl⟩
theorem Pq.put (h : Pq U w0 w hb mb S T) (id r : Int) : Calls Try.prog 12 #[.pointer (some ⟨hb, 0, none⟩), .int .i64 id, .int .i64 r] w fun e w' => e = .returned (.int .i64 (putE id r)) ∧ Pq U w0 w' hb mb (putR id r S) T := by
  obtain ⟨F, G, h1, h2, h3, h4⟩ := h.isH
  exact (put_any h1 id r).mono fun e w' ⟨he, hl⟩ => ⟨he, h.left h2 h3 h4 hl⟩
theorem Pq.remove (h : Pq U w0 w hb mb S T) (id : Int) (hw : Wf id) : Calls Try.prog 19 #[.pointer (some ⟨hb, 0, none⟩), .int .i64 id] w fun e w' => e = .returned (.int .i64 (remE id S)) ∧ Pq U w0 w' hb mb (outS id S) T := by
  obtain ⟨F, G, h1, h2, h3, h4⟩ := h.isH
  exact (remove_any h1 id hw).mono fun e w' ⟨he, hl⟩ => ⟨he, h.left h2 h3 h4 hl⟩
theorem Pq.rremove (h : Pq U w0 w hb mb S T) (hs : Srt T) (hg : Good T) (id : Int) (hT : T.length ≤ 1000) : Calls Try.prog 24 #[.pointer (some ⟨mb, 0, none⟩), .int .i64 id] w fun e w' => e = .returned (.int .i64 (remE id T)) ∧ Pq U w0 w' hb mb S (outS id T) := by
  obtain ⟨F, G, h1, h2, h3, h4⟩ := h.isH
  exact (rremove_c h2 hs hg id hT).mono fun e w' ⟨he, hl⟩ => ⟨he, h.rleft h1 h3 h4 h2.fm hl⟩
theorem Pq.len (h : Pq U w0 w hb mb S T) : Calls Try.prog 13 #[.pointer (some ⟨hb, 0, none⟩)] w fun e w' => e = .returned (.int .i64 S.length) ∧ w = w' := by
  obtain ⟨F, G, h1, _⟩ := h.isH
  exact hlen_c h1

set_option maxHeartbeats 4000000 in
/-- A heap pops just what the reference heap does. -/
theorem popped_c (h : Pq U w0 w hb mb S S) (hS : S.length ≤ 200) :
    Calls Try.prog 27 #[.pointer (some ⟨hb, 0, none⟩), .pointer (some ⟨mb, 0, none⟩)] w fun e w' => e = .returned (.bool true) ∧ Kp U w0 w' := by
  have HH := hid_ h
  clear h
  go_enter Try.func27, Try.ntmps27
  go_wp2
  go_loopw [5] (fun v wr => ∃ (z : Nat) (S' : List Item), v = .int .i64 z ∧ z + S'.length ≤ 200 ∧ Pq U w0 wr hb mb S' S') (fun v _ => 201 - (intOf v).toNat)
  case atStart => exact ⟨0, S, rfl, by omega, HH.out⟩
  case round =>
    obtain ⟨z, S', rfl, hz, hP⟩ := hrel
    have HP := hid_ hP
    clear hP
    have z1 : (z : Int) ≤ 200 := by omega
    go_wp2_with fail
    refine HP.out.pop.mono ?_
    rintro e wa ⟨rfl, hl⟩
    have HL := hid_ hl
    clear hl
    have CP := hid_ (HL.out.rpop (by omega))
    go_wp2_with fail
    refine CP.out.mono ?_
    rintro e wb ⟨rfl, hl⟩
    have HL2 := hid_ hl
    clear hl CP
    have q1 : (popI S' != popI S') = false := by simp
    have q2 : (popK S' != popK S') = false := by simp
    have q3 : (popE S' != popE S') = false := by simp
    cases S' with
    | nil =>
      rw [show popE ([] : List Item) = 9 from rfl] at *
      go_wp2_with fail
      refine HL2.out.len.mono ?_
      rintro e wc ⟨rfl, rfl⟩
      go_wp2
      go_ret
      exact ⟨rfl, HL2.out.kp⟩
    | cons p S' =>
      rw [show popE (p :: S') = 0 from rfl] at *
      have hz2 : z + (S'.length + 1) ≤ 200 := by simpa using hz
      go_wp2
      go_roundw
      case rel => exact ⟨z + 1, S', by go_num, by omega, HL2.out⟩
      case measure => simp [intOf]; omega
end
end Go.Proofs.Ytkoacfkglfgalaa
