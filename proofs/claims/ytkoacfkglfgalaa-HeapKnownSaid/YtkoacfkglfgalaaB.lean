/- What an item's place in the map is noted by: 'moved'; and 'ahead', 'none'. Conditions: those that each theorem names. -/
import Derived.Test.YtkoacfkglfgalaaProg
import Derived.Test.YtkoacfkglfgalaaA
namespace Go.Proofs.Ytkoacfkglfgalaa
open Go.RowKit Go.Maps

abbrev i64 (n : Int) : DataW Unit := .lit (.int .i64 n)
abbrev Wf (n : Int) : Prop := (Lit.int .i64 n).wf = true
theorem Try.law3 : Keyed Try.prog 3 := int_keyed Try.underlying3
theorem Try.zero3 (w : World) : (zeroValue 3).run Try.prog w = .ok (.int .i64 0) w := by kernel_rfl
/-- Block mb is the map that reads as D. -/
abbrev MapIs (w : World) (mb n : Nat) (D : DataW Unit) : Prop := w.ownsMap Try.prog 3 (plainElem Try.prog 3) mb n D

theorem turned_kp {w w' : World} {b : Nat} (h : w.mapTurned w' b) : Kp (fun k => k = b) w w' :=
  ⟨h.grown.os, h.grown.tape, h.grown.output, h.grown.size, fun k hk hn => h.grown.block k hk (fun e => hn (by injection e))⟩

theorem blk_map_ne {w : World} {g t mb n : Nat} {cs : Array Value} {D : DataW Unit} (h : Blk w g t cs) (hm : MapIs w mb n D) : g ≠ mb := by
  rintro rfl
  obtain ⟨_, _, hb, _⟩ := hm
  unfold Blk at h
  rw [h] at hb
  cases hb

set_option maxHeartbeats 400000 in
set_option maxRecDepth 100000 in
theorem moved_out (hb mb n : Nat) (rp : Value) (D : DataW Unit) (id r at_ : Int) (w : World) (hH : Blk w hb 61 #[rp, .map (some mb)]) (hown : MapIs w mb n D) (hid : Wf id) (hat : at_ < 0) :
    Calls Try.prog 31 #[.pointer (some ⟨hb, 0, none⟩), .agg #[.int .i64 id, .int .i64 r], .int .i64 at_] w fun e w' => e = .returned (.tuple #[]) ∧ MapIs w' mb n (D.del (.int .i64 id)) ∧ Kp (fun k => k = mb) w w' := by
  have hown1 : MapIs (w.alloc (.cells #[.int .i64 id, .int .i64 r] 65)).drew mb n D := (hown.alloc _).drew
  have hk := keyOf_int_mk Try.underlying3 hid
  obtain ⟨w1, hrun, hown2, hturn⟩ := hown1.drop Try.law3 Try.underlying59 hk 0
  have hkp := ((Kp.refl (fun k => k = mb) w).alloc (.cells #[.int .i64 id, .int .i64 r] 65)).drew.trans (turned_kp hturn) (fun _ h => .inl h)
  have l2 := hown.lt
  have c1 := hH.cell 1
  have d1 : w1.cell? ⟨hb, 1, none⟩ = some (.map (some mb)) := hkp.cell c1 (blk_map_ne hH hown)
  have d2 : w1.cell? ⟨w.heap.size, 0, none⟩ = some (.int .i64 id) := (turned_kp hturn).cell (by go_simp) (fun e => by simp at e; omega)
  have l1 := hH.lt
  clear hk
  go_enter Try.func31, Try.ntmps31
  go_wp2
  go_region_held3 (fun W => W.cell? ⟨hb, 1, none⟩ = some (.map (some mb)) ∧ W.cell? ⟨w.heap.size, 0, none⟩ = some (.int .i64 id))
    (first | go_keep | (refine ⟨?_, ?_⟩ <;> first | go_keep | go_simp | assumption))
    (first | fail)
  go_wp2
  go_returns
  exact ⟨rfl, hown2, hkp⟩

set_option maxHeartbeats 400000 in
set_option maxRecDepth 100000 in
theorem moved_in (hb mb n : Nat) (rp : Value) (D : DataW Unit) (id r at_ : Int) (w : World) (hH : Blk w hb 61 #[rp, .map (some mb)]) (hown : MapIs w mb n D) (hid : Wf id) (hat : 0 ≤ at_) (hwa : Wf at_) (hn : n < maxLen) :
    Calls Try.prog 31 #[.pointer (some ⟨hb, 0, none⟩), .agg #[.int .i64 id, .int .i64 r], .int .i64 at_] w fun e w' => e = .returned (.tuple #[]) ∧ MapIs w' mb (n + 1) (D.put (.int .i64 id) (i64 at_)) ∧ Kp (fun k => k = mb) w w' := by
  have hown1 : MapIs (w.alloc (.cells #[.int .i64 id, .int .i64 r] 65)).drew mb n D := (hown.alloc _).drew
  have hk := keyOf_int_mk Try.underlying3 hid
  obtain ⟨w1, hrun, hown2, hturn⟩ := hown1.store Try.law3 Try.underlying59 hn hk (plainElem_int Try.underlying3 hwa)
  have hkp := ((Kp.refl (fun k => k = mb) w).alloc (.cells #[.int .i64 id, .int .i64 r] 65)).drew.trans (turned_kp hturn) (fun _ h => .inl h)
  have l2 := hown.lt
  have c1 := hH.cell 1
  have d1 : w1.cell? ⟨hb, 1, none⟩ = some (.map (some mb)) := hkp.cell c1 (blk_map_ne hH hown)
  have d2 : w1.cell? ⟨w.heap.size, 0, none⟩ = some (.int .i64 id) := (turned_kp hturn).cell (by go_simp) (fun e => by simp at e; omega)
  have l1 := hH.lt
  have HO := hid_ hown2
  have HKp := hid_ hkp
  clear hk hn hwa hid hown hown1 hown2 hkp hturn l2
  have hat2 : ¬ at_ < 0 := by omega
  clear hat
  go_enter Try.func31, Try.ntmps31
  go_wp2
  go_region_held3 (fun W => W.cell? ⟨hb, 1, none⟩ = some (.map (some mb)) ∧ W.cell? ⟨w.heap.size, 0, none⟩ = some (.int .i64 id))
    (first | go_keep | (refine ⟨?_, ?_⟩ <;> first | go_keep | go_simp | assumption))
    (first | fail)
  go_wp2
  go_returns
  exact ⟨rfl, HO.out, HKp.out⟩

theorem none_some (hb : Nat) (rp mp : Value) (w : World) (a : Addr) (hrp : rp = .pointer (some a)) (hH : Blk w hb 61 #[rp, mp]) :
    Calls Try.prog 32 #[.pointer (some ⟨hb, 0, none⟩)] w fun e w' => e = .returned (.bool false) ∧ w = w' := by
  subst hrp
  have c0 := hH.cell 0
  go_enter Try.func32, Try.ntmps32
  go_wp2
  go_ret
  exact ⟨rfl, rfl⟩
theorem none_zero (hb : Nat) (mp : Value) (w : World) (hH : Blk w hb 61 #[.pointer none, mp]) :
    Calls Try.prog 32 #[.pointer (some ⟨hb, 0, none⟩)] w fun e w' => e = .returned (.bool true) ∧ w = w' := by
  have c0 := hH.cell 0
  go_enter Try.func32, Try.ntmps32
  go_wp2
  go_ret
  exact ⟨rfl, rfl⟩
theorem none_nil (w : World) :
    Calls Try.prog 32 #[.pointer none] w fun e w' => e = .returned (.bool true) ∧ w = w' := by
  go_enter Try.func32, Try.ntmps32
  go_wp2
  go_ret
  exact ⟨rfl, rfl⟩
end Go.Proofs.Ytkoacfkglfgalaa
