/- The laws' helper works: the chapter's cache. Conditions: none. -/
import Derived.Test.YtogedbednfbkmaaCa
namespace Go.Proofs.Ytogedbednfbkmaa
open Go.RowKit Go.Maps

theorem RdB.lit (w : World) (xs : List Int) (fr : Nat × Nat) (n : Nat) (h : xs.length = n) (_h0 : 0 < n) : RdB (w.alloc (.cells (xs.map (Value.int .u8)).toArray 5 fr)) (some ⟨w.heap.size, 0, none⟩) n n xs := by
  refine ⟨h, (fun h => by cases h), fun _ => ⟨_, _, rfl, fun j hj => ?_⟩⟩
  rw [Nat.zero_add, World.cell?_alloc_mark]
  rw [List.getElem?_toArray]
  exact map_at _ xs j 0 (by omega)

section
variable {B : Nat} {w0 w w' : World} {cb : Nat} {c c' : Cs}
theorem putw {k : ByteArray} {xs : List Int} {n : Nat} {r : Int} (h : Own B w0 w cb c) (hk : k.size ≤ 1000000) (hs : Small c) (hl : xs.length = n) (h0 : 0 < n) (hn : n ≤ 1000) (fr : Nat × Nat) (cost : Int) (he : putC c k xs cost = (r, c')) :
    Calls Try.prog 14 #[.pointer (some ⟨cb, 0, none⟩), .string k, .slice (some ⟨w.heap.size, 0, none⟩) n n, .int .i64 cost] (w.alloc (.cells (xs.map (Value.int .u8)).toArray 5 fr)) fun e w' => e = .returned (.int .i64 r) ∧ Own B w0 w' cb c' :=
  ((h.after ((Below.refl _ _).alloc (Nat.le_refl _) _)).put hk hs (RdB.lit w xs fr n hl h0) (Nat.le_refl _) (by omega) cost).mono fun e w' ⟨h1, h2⟩ => by
    rw [he] at h1 h2
    exact ⟨h1, h2⟩
theorem keepsw {ks : List ByteArray} {n : Nat} (h : Own B w0 w cb c) (hk : keysC c = ks) (hl : ks.length = n) (hn : n ≤ 1000) :
    Calls Try.prog 37 #[.pointer (some ⟨cb, 0, none⟩), .slice (some ⟨w.heap.size, 0, none⟩) n n] (w.alloc (.cells (ks.map Value.string).toArray 9)) fun e w' => e = .returned (.bool true) ∧ Own B w0 w' cb c := by
  have hc : c.S.length = n := by
    rw [← hl, ← hk]
    simp [keysC]
  have := (h.after ((Below.refl _ _).alloc (Nat.le_refl _) (.cells (ks.map Value.string).toArray 9))).keeps (A := some ⟨w.heap.size, 0, none⟩) (cc := n) (by
    rw [hk, hc, ← hl]
    exact RdT.lit w ks (by omega)) (by omega)
  rw [hc] at this
  exact this
theorem countsw {a b d : Int} (h : Own B w0 w cb c) (h1 : c.found = a) (h2 : c.missed = b) (h3 : c.thrown = d) : Calls Try.prog 22 #[.pointer (some ⟨cb, 0, none⟩)] w fun e w' => e = .returned (.tuple #[.int .i64 a, .int .i64 b, .int .i64 d]) ∧ Own B w0 w' cb c :=
  (counts_is h.isC).mono fun e w' ⟨he, hb⟩ => ⟨by rw [he, h1, h2, h3], h.after hb⟩
theorem levelw {a : Int} (h : Own B w0 w cb c) (h1 : c.level = a) : Calls Try.prog 28 #[.pointer (some ⟨cb, 0, none⟩)] w fun e w' => e = .returned (.int .i64 a) ∧ w = w' :=
  (level_is h.isC).mono fun e w' ⟨he, hb⟩ => ⟨by rw [he, h1], hb⟩
end
theorem small0 : Small s0 ∧ Small s1 ∧ Small s2 ∧ Small s3 ∧ Small s4 ∧ Small s5 ∧ Small s6 := by
  refine ⟨?_, ?_, ?_, ?_, ?_, ?_, ?_⟩ <;> exact ⟨by decide, by decide⟩

set_option maxHeartbeats 4000000 in
set_option maxRecDepth 100000 in
theorem works_c (w : World) : Calls Try.prog 18 #[] w fun e w' => e = .returned (.bool true) ∧ Below w.heap.size w w' := by
  have qc := fun (w : World) => Lib.run_convert_bytes_const (P := Try.prog) w 32 5 #[.int .u8 49, .int .u8 50, .int .u8 51] 3 3 Try.underlying32 Try.underlying5
  have qd := fun (w : World) => Lib.run_convert_bytes_const (P := Try.prog) w 32 5 #[.int .u8 48, .int .u8 49, .int .u8 50, .int .u8 51, .int .u8 52, .int .u8 53, .int .u8 54, .int .u8 55, .int .u8 56, .int .u8 57] 10 10 Try.underlying32 Try.underlying5
  have qe := fun (w : World) => Lib.run_convert_bytes_const (P := Try.prog) w 32 5 #[.int .u8 48, .int .u8 49, .int .u8 50, .int .u8 51, .int .u8 52] 5 5 Try.underlying32 Try.underlying5
  go_enter Try.func18, Try.ntmps18
  go_wp2_with fail
  refine (new_ok 10 w (by omega)).mono ?_
  rintro e w1 ⟨cb, rfl, hN, hb1⟩
  have O0 := hid_ (show Own w.heap.size w w1 cb s0 from Own.start hN hb1)
  clear hN hb1
  go_wp2_with fail
  refine (putw O0.out (k := kA) (xs := v3) (n := 3) (r := 0) (c' := s1) (by decide) small0.1 rfl (by omega) (by omega) (3, 4) 5 rfl).mono ?_
  rintro e w2 ⟨rfl, hO⟩
  have O1 := hid_ hO
  clear hO
  go_wp2_with fail
  refine (putw O1.out (k := kB) (xs := v3) (n := 3) (r := 0) (c' := s2) (by decide) small0.2.1 rfl (by omega) (by omega) (3, 4) 1 rfl).mono ?_
  rintro e w3 ⟨rfl, hO⟩
  have O2 := hid_ hO
  clear hO
  go_wp2_with fail
  refine (keepsw (n := 2) O2.out keys2 rfl (by omega)).mono ?_
  rintro e w4 ⟨rfl, hO⟩
  have O3 := hid_ hO
  clear hO
  go_wp2_with fail
  refine (putw O3.out (k := kC) (xs := v3) (n := 3) (r := 0) (c' := s3) (by decide) small0.2.2.1 rfl (by omega) (by omega) (3, 4) 1 rfl).mono ?_
  rintro e w5 ⟨rfl, hO⟩
  have O4 := hid_ hO
  clear hO
  go_wp2_with fail
  refine (keepsw (n := 2) O4.out keys3 rfl (by omega)).mono ?_
  rintro e w6 ⟨rfl, hO⟩
  have O5 := hid_ hO
  clear hO
  go_wp2_with fail
  refine (countsw (a := 0) (b := 0) (d := 1) O5.out rfl rfl rfl).mono ?_
  rintro e w7 ⟨rfl, hO⟩
  have O6 := hid_ hO
  clear hO
  go_wp2_with fail
  refine (levelw (a := 1) O6.out rfl).mono ?_
  rintro e w8 ⟨rfl, rfl⟩
  go_wp2_with fail
  refine ((show Calls Try.prog 38 #[.pointer (some ⟨cb, 0, none⟩), .string kB, .string ⟨#[]⟩, .bool false] w7 (fun e w' => e = .returned (.bool true) ∧ Own w.heap.size w w' cb s4) from O6.out.gets_no (k := kB) (by decide) small0.2.2.2.1 rfl)).mono ?_
  rintro e w9 ⟨rfl, hO⟩
  have O7 := hid_ hO
  clear hO
  go_wp2_with fail
  refine ((show Calls Try.prog 38 #[.pointer (some ⟨cb, 0, none⟩), .string kA, .string ⟨#[49, 50, 51]⟩, .bool true] w9 (fun e w' => e = .returned (.bool true) ∧ Own w.heap.size w w' cb s5) from O7.out.gets_yes (k := kA) (x := ⟨kA, v3, 5, 5, 1⟩) (by decide) small0.2.2.2.2.1 rfl rfl)).mono ?_
  rintro e w10 ⟨rfl, hO⟩
  have O8 := hid_ hO
  clear hO
  go_wp2_with fail
  refine (keepsw (n := 2) O8.out keys5 rfl (by omega)).mono ?_
  rintro e w11 ⟨rfl, hO⟩
  have O9 := hid_ hO
  clear hO
  go_wp2_with fail
  refine (putw O9.out (k := kD) (xs := [48, 49, 50, 51, 52, 53, 54, 55, 56, 57]) (n := 10) (r := 5) (c' := s5) (by decide) small0.2.2.2.2.2.1 rfl (by omega) (by omega) (10, 11) 0 oks.2.2.2.1).mono ?_
  rintro e w12 ⟨rfl, hO⟩
  have O10 := hid_ hO
  clear hO
  go_wp2_with fail
  refine (putw O10.out (k := kD) (xs := [48, 49, 50, 51, 52]) (n := 5) (r := 0) (c' := s6) (by decide) small0.2.2.2.2.2.1 rfl (by omega) (by omega) (5, 6) 0 rfl).mono ?_
  rintro e w13 ⟨rfl, hO⟩
  have O11 := hid_ hO
  clear hO
  go_wp2_with fail
  refine (keepsw (n := 2) O11.out keys6 rfl (by omega)).mono ?_
  rintro e w14 ⟨rfl, hO⟩
  have O12 := hid_ hO
  clear hO
  go_wp2
  go_ret
  exact ⟨rfl, O12.out.below⟩
end Go.Proofs.Ytogedbednfbkmaa
