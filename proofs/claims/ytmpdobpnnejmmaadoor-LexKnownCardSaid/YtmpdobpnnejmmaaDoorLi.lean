/- Lex: tag, plain, sign. Conditions: those that each theorem names. -/
import Derived.Test.YtmpdobpnnejmmaaDoorLh
import Derived.Test.YtmpdobpnnejmmaaDoorMq
import Derived.Laws.Rows
namespace Go.Proofs.YtmpdobpnnejmmaaDoor
open Go.RowKit Go.Maps

/-- What a reader answers. -/
def RdP (o : Option (Int × List UInt8 × Int × Nat)) (w : World) (e : Ending) (w' : World) : Prop :=
  ∃ (k : Int) (tx : ByteArray) (nm lo : Int) (b : Bool), e = .returned (.tuple #[.agg #[.int .i64 k, .string tx, .int .i64 nm, .int .i64 0], .int .i64 lo, .bool b]) ∧
    (∀ r, o = some r → b = true ∧ k = r.1 ∧ tx = st r.2.1 ∧ nm = r.2.2.1 ∧ lo = (r.2.2.2 : Nat)) ∧ (o = none → b = false) ∧ Below w.heap.size w w'
def tagO : List UInt8 → Option (Int × List UInt8 × Int × Nat)
  | [] => none
  | c :: l => if c = 39 ∧ Lx.tagged (l.takeWhile Lx.goes) = true then some (4, l.takeWhile Lx.goes, 0, (l.takeWhile Lx.goes).length + 1) else none
def plainO (l : List UInt8) : Option (Int × List UInt8 × Int × Nat) :=
  let t := l.takeWhile Lx.goes
  if Lx.isKey t = true then some (5, t, 0, t.length) else if Lx.isName t = true then some (1, t, 0, t.length) else if Lx.isType t = true then some (2, t, 0, t.length) else if 0 ≤ Lx.number t then some (3, t, Lx.number t, t.length) else none
def signO (l : List UInt8) : Option (Int × List UInt8 × Int × Nat) := (Lx.sign? l).map fun g => (6, g, 0, g.length)
theorem run_le (s : ByteArray) (a : Nat) : (((bl s).drop a).takeWhile Lx.goes).length ≤ s.size - a := by
  have h := (List.takeWhile_prefix (p := Lx.goes) (l := (bl s).drop a)).length_le
  rw [List.length_drop, bl_len] at h
  exact h

set_option maxHeartbeats 2000000 in
set_option maxRecDepth 100000 in
theorem lex_tag {w : World} {cb : Nat} {s : ByteArray} {i : Nat} (h : Cur w cb s i) (hs : s.size ≤ 1000000000) (hi : i < s.size) :
    Calls Tryd.prog 26 #[.pointer (some ⟨cb, 0, none⟩)] w (RdP (tagO ((bl s).drop i)) w) := by
  have HC := hid_ h
  have c0 : w.cell? ⟨cb, 0, none⟩ = some (.string s) := h.cell 0
  have c1 : w.cell? ⟨cb, 1, none⟩ = some (.int .i64 i) := h.cell 1
  have lt0 := h.lt
  have b0 : (0 : Int) ≤ (i : Int) := by omega
  have b1 : (i : Int) < (s.size : Int) := by omega
  have HD := hid_ (bl_drop s hi)
  clear h
  by_cases h39 : s[i] = 39
  · have q1 : (((s[i].toNat : Nat) : Int) == 39) = true := byte_eq (n := 39) (by omega) h39
    have q2 : (((s[i].toNat : Nat) : Int) != 39) = false := by rw [bne, q1]; rfl
    have q5 : IntKind.i64.wrap ((i : Int) + 1) = (i : Int) + 1 := IntWalk.i64_in _ (by omega)
    have hrl := run_le s (i + 1)
    have HR := hid_ (fun W (hc : Cur W cb s i) => (show Calls Tryd.prog 46 #[.pointer (some ⟨cb, 0, none⟩), .int .i64 ((i : Int) + 1)] W _ from lex_run hc hs (i + 1) (by omega)))
    have HT := hid_ (fun W => lex_tagged W (st (((bl s).drop (i + 1)).takeWhile Lx.goes)) (by rw [st_size]; omega))
    have HO := hid_ (show tagO ((bl s).drop i) = if Lx.tagged (((bl s).drop (i + 1)).takeWhile Lx.goes) = true then some (4, ((bl s).drop (i + 1)).takeWhile Lx.goes, 0, (((bl s).drop (i + 1)).takeWhile Lx.goes).length + 1) else none from by
      rw [HD.out, tagO, h39]
      simp)
    have hsz : (st (((bl s).drop (i + 1)).takeWhile Lx.goes)).size = (((bl s).drop (i + 1)).takeWhile Lx.goes).length := st_size _
    rw [bl_st] at HT
    generalize ((bl s).drop (i + 1)).takeWhile Lx.goes = t at *
    have q6 : IntKind.i64.wrap (((st t).size : Int) + 1) = ((st t).size : Int) + 1 := IntWalk.i64_in _ (by omega)
    have HSz := hid_ hsz
    clear h39 hsz
    generalize hst : st t = tx at *
    have HSt := hid_ hst
    clear hst
    go_enter Tryd.func26, Tryd.ntmps26
    go_wp2_with fail
    go_quiet (fail)
    go_wp2_with fail
    refine (HR.out _ ((HC.out.alloc _).drewN _)).mono ?_
    rintro e w1 ⟨rfl, rfl⟩
    go_wp2_with fail
    refine (HT.out _).mono ?_
    rintro e w2 ⟨rfl, hb2⟩
    have hB0 := Blk.new w 30 #[Value.int IntKind.i64 0, Value.string { data := #[] }, Value.int IntKind.i64 0, Value.int IntKind.i64 0]
    have hb1 := bdrewN ((Below.refl w.heap.size w).alloc (Nat.le_refl _) (Obj.cells #[Value.int IntKind.i64 0, Value.string { data := #[] }, Value.int IntKind.i64 0, Value.int IntKind.i64 0] 30))
    have hB2 := (hB0.drewN nq).kp (Kp.of_below hb2 fun _ => False) id
    have hb3 := (hb1 nq).trans (hb2.mono (hb1 nq).size)
    have e0 := hB2.cell 0
    have e1 := hB2.cell 1
    have e2 := hB2.cell 2
    have e3 := hB2.cell 3
    have g0 := hB2.frozen 0
    have g1 := hB2.frozen 1
    have g2 := hB2.frozen 2
    have g3 := hB2.frozen 3
    have HBl := hid_ hB2
    have HB3 := hid_ hb3
    clear hB0 hb1 hB2 hb3 hb2
    go_wp2_with fail
    refine bodyPost_ret (v := .tuple #[.agg #[.int .i64 4, .string tx, .int .i64 0, .int .i64 0], .int .i64 ((tx.size : Int) + 1), .bool (Lx.tagged t)]) (by simp [results, Tryd.results26, go_sem, e0, e1, e2, e3]) rfl ⟨4, tx, 0, _, _, rfl, fun r hr => ?_, fun hn => ?_, (((HB3.out.setCell (Nat.le_refl _) _).setCell (Nat.le_refl _) _).setCell (Nat.le_refl _) _).setCell (Nat.le_refl _) _⟩
    · rw [HO.out] at hr
      split at hr
      · rename_i ht
        injection hr with hr
        subst hr
        exact ⟨ht, rfl, HSt.out.symm, rfl, by have := HSz.out; push_cast; omega⟩
      · cases hr
    · rw [HO.out] at hn
      split at hn
      · cases hn
      · rename_i ht
        simpa using ht
  · have q1 : (((s[i].toNat : Nat) : Int) == 39) = false := byte_ne (n := 39) h39
    have q2 : (((s[i].toNat : Nat) : Int) != 39) = true := by rw [bne, q1]; rfl
    have HO := hid_ (show tagO ((bl s).drop i) = none from by rw [HD.out, tagO, if_neg (fun h => h39 h.1)])
    clear h39
    go_enter Tryd.func26, Tryd.ntmps26
    go_wp2_with fail
    go_quiet (fail)
    go_wp2_with fail
    refine bodyPost_ret (v := .tuple #[.agg #[.int .i64 0, .string ⟨#[]⟩, .int .i64 0, .int .i64 0], .int .i64 0, .bool false]) (by simp [results, Tryd.results26, go_sem]) rfl ⟨0, ⟨#[]⟩, 0, 0, false, rfl, fun r hr => (by rw [HO.out] at hr; cases hr), fun _ => rfl, ?_⟩
    exact (((((bdrewN ((Below.refl w.heap.size w).alloc (Nat.le_refl _) _) _).setCell (Nat.le_refl _) _).setCell (Nat.le_refl _) _).setCell (Nat.le_refl _) _).setCell (Nat.le_refl _) _)
end Go.Proofs.YtmpdobpnnejmmaaDoor
