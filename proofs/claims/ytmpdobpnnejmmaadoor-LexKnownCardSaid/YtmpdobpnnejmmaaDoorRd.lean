/- The document's lex: a word. Conditions: those that each theorem names. -/
import Derived.Test.YtmpdobpnnejmmaaDoorRb
import Derived.Test.YtmpdobpnnejmmaaDoorRc
import Derived.Test.YtmpdobpnnejmmaaDoorLl
namespace Go.Proofs.YtmpdobpnnejmmaaDoor
open Go.RowKit Go.Maps

theorem ext_run (s : ByteArray) (a : Nat) (p : UInt8 → Bool) : s.extract a (a + (((bl s).drop a).takeWhile p).length) = st (((bl s).drop a).takeWhile p) := by
  rw [extract_st, Nat.add_sub_cancel_left]
  congr 1
  exact (List.prefix_iff_eq_take.1 (List.takeWhile_prefix p)).symm
/-- The document's word at a. -/
def RwP (s : ByteArray) (a : Nat) (w : World) (e : Ending) (w' : World) : Prop :=
  ∃ (kd : Int) (tx : ByteArray) (nm ps en : Int) (b : Bool), e = .returned (.tuple #[.agg #[.int .i64 kd, .string tx, .int .i64 nm, .int .i64 ps], .int .i64 en, .bool b]) ∧
    (∀ r, Lx.word? ((bl s).drop a) = some r → b = true ∧ kd = r.1 ∧ tx = st r.2.1 ∧ nm = r.2.2.1 ∧ ps = a ∧ en = (a : Int) + r.2.2.2) ∧ (Lx.word? ((bl s).drop a) = none → b = false) ∧ Below w.heap.size w w'
theorem RwP.yes {s : ByteArray} {a : Nat} {w w' : World} {r : Int × List UInt8 × Int × Nat} (h : Lx.word? ((bl s).drop a) = some r) (hb : Below w.heap.size w w') {tx : ByteArray} {en : Int} (ht : tx = st r.2.1) (hto : en = (a : Int) + r.2.2.2) :
    RwP s a w (.returned (.tuple #[.agg #[.int .i64 r.1, .string tx, .int .i64 r.2.2.1, .int .i64 a], .int .i64 en, .bool true])) w' :=
  ⟨_, _, _, _, _, _, rfl, fun r' h' => (by rw [h] at h'; injection h' with h'; subst h'; exact ⟨rfl, rfl, ht, rfl, rfl, hto⟩), fun h' => (by rw [h] at h'; cases h'), hb⟩
theorem RwP.no {s : ByteArray} {a : Nat} {w w' : World} (h : Lx.word? ((bl s).drop a) = none) (hb : Below w.heap.size w w') (kd : Int) (tx : ByteArray) (nm ps en : Int) :
    RwP s a w (.returned (.tuple #[.agg #[.int .i64 kd, .string tx, .int .i64 nm, .int .i64 ps], .int .i64 en, .bool false])) w' :=
  ⟨_, _, _, _, _, _, rfl, fun r' h' => (by rw [h] at h'; cases h'), fun _ => rfl, hb⟩
theorem sign_some {l g : List UInt8} (h : Lx.sign? l = some g) : 1 ≤ g.length ∧ g.length ≤ 2 := by
  have hm := List.mem_of_find?_eq_some h
  have : ∀ g ∈ Lx.signsL, 1 ≤ g.length ∧ g.length ≤ 2 := by decide
  exact this g hm
theorem word_sign {l g : List UInt8} (h : Lx.sign? l = some g) : Lx.word? l = some (6, g, 0, g.length) := by
  unfold Lx.word?
  rw [h]

theorem word_tag {c : UInt8} {l : List UInt8} (h : Lx.sign? (c :: l) = none) (hc : c.toNat = 39) : Lx.word? (c :: l) = if Lx.tagged (l.takeWhile Lx.goes) = true then some (4, l.takeWhile Lx.goes, 0, (l.takeWhile Lx.goes).length + 1) else none := by
  have e : c = 39 := UInt8.toNat_inj.1 hc
  unfold Lx.word?
  rw [h]
  simp only [e, if_true]
theorem word_other {c : UInt8} {l : List UInt8} (h : Lx.sign? (c :: l) = none) (hc : c.toNat ≠ 39) : Lx.word? (c :: l) = (
        if Lx.isKey ((c :: l).takeWhile Lx.goes) = true then some (5, (c :: l).takeWhile Lx.goes, 0, ((c :: l).takeWhile Lx.goes).length) else
        if Lx.isName ((c :: l).takeWhile Lx.goes) = true then some (1, (c :: l).takeWhile Lx.goes, 0, ((c :: l).takeWhile Lx.goes).length) else
        if Lx.isType ((c :: l).takeWhile Lx.goes) = true then some (2, (c :: l).takeWhile Lx.goes, 0, ((c :: l).takeWhile Lx.goes).length) else
        if 0 ≤ Lx.number ((c :: l).takeWhile Lx.goes) then some (3, (c :: l).takeWhile Lx.goes, Lx.number ((c :: l).takeWhile Lx.goes), ((c :: l).takeWhile Lx.goes).length) else none) := by
  have e : c ≠ 39 := fun e => hc (by rw [e]; rfl)
  unfold Lx.word?
  rw [h]
  simp only [e, if_false]
/-- An end that the document tells. -/
theorem end_at (s : ByteArray) (a : Nat) (hs : s.size ≤ 1000000000) (ha : a ≤ s.size) (T : List UInt8) (hT : ((bl s).drop a).takeWhile Lx.goes = T) :
    ∃ en : Nat, (∀ W, Calls Tryd.prog 50 #[.string s, .int .i64 (a : Int)] W fun e w' => e = .returned (.int .i64 (en : Int)) ∧ W = w') ∧ a ≤ en ∧ en ≤ s.size ∧ s.extract a en = st T ∧ en = a + T.length := by
  subst hT
  refine ⟨a + (((bl s).drop a).takeWhile Lx.goes).length, fun W => ?_, by omega, ?_, ext_run s a _, rfl⟩
  · have := ref_end W s a hs ha
    rw [Int.natCast_add]
    exact this
  · have := run_le s a
    omega

set_option maxHeartbeats 4000000 in
set_option maxRecDepth 100000 in
theorem word_c1 {w : World} {s : ByteArray} {a : Nat} (hs : s.size ≤ 1000000000) (ha : a < s.size) {g : List UInt8} (hsg : Lx.sign? ((bl s).drop a) = some g) : Calls Tryd.prog 30 #[.string s, .int .i64 a] w (RwP s a w) := by
  have HG := hid_ (fun W => ref_sign W s a hs (by omega))
  have b0 : (0 : Int) ≤ (a : Int) := by omega
  have b1 : (a : Int) < (s.size : Int) := by omega
  have hs' : (s.size : Int) ≤ 1000000000 := by omega
  obtain ⟨l1, l2⟩ := sign_some hsg
  have HW := hid_ (word_sign hsg)
  have HG2 := hid_ (show ∀ W, Calls Tryd.prog 49 #[.string s, .int .i64 a] W fun e w' => e = .returned (.string (st g)) ∧ Below W.heap.size W w' from by have := HG.out; rw [hsg] at this; exact this)
  have hsz : (st g).size = g.length := st_size g
  have q0 : (st g).toList.isEmpty = false := by
    rw [ByteArray.toList_eq, show (st g).data.toList = g from bl_st g]
    cases g with
    | nil => simp at l1
    | cons _ _ => rfl
  have HZ := hid_ hsz
  clear hsg HG
  have q5 : IntKind.i64.wrap ((a : Int) + ((st g).size : Int)) = (a : Int) + ((st g).size : Int) := IntWalk.i64_in _ (by omega)
  clear hsz
  go_enter Tryd.func30, Tryd.ntmps30
  go_wp2_with fail
  have HB0 := hid_ (Blk.new w 30 #[Value.int IntKind.i64 0, Value.string { data := #[] }, Value.int IntKind.i64 0, Value.int IntKind.i64 0])
  have Hb0 := hid_ ((Below.refl w.heap.size w).alloc (Nat.le_refl _) (Obj.cells #[Value.int IntKind.i64 0, Value.string { data := #[] }, Value.int IntKind.i64 0, Value.int IntKind.i64 0] 30))
  generalize w.alloc (Obj.cells #[Value.int IntKind.i64 0, Value.string { data := #[] }, Value.int IntKind.i64 0, Value.int IntKind.i64 0] 30) = w0 at *
  refine (HG2.out w0).mono ?_
  rintro e w1 ⟨rfl, hb⟩
  have HB1 := hid_ (HB0.out.kp (Kp.of_below hb fun _ => False) id)
  have HB := hid_ (Hb0.out.trans (hb.mono Hb0.out.size))
  clear hb HB0 Hb0
  obtain ⟨e0, e1, e2, e3, g0, g1, g2, g3⟩ := word_cells HB1.out
  go_wp2_with fail
  refine bodyPost_ret (v := .tuple #[.agg #[.int .i64 6, .string (st g), .int .i64 0, .int .i64 a], .int .i64 ((a : Int) + ((st g).size : Int)), .bool true]) (by simp [results, Tryd.results30, go_sem, e0, e1, e2, e3]) rfl (RwP.yes HW.out ?_ rfl (by rw [HZ.out]))
  first | exact HB.out | exact (((HB.out.setCell (Nat.le_refl _) _).setCell (Nat.le_refl _) _).setCell (Nat.le_refl _) _).setCell (Nat.le_refl _) _
end Go.Proofs.YtmpdobpnnejmmaaDoor
