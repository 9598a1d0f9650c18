/- The document's lex: a tag's word. Conditions: those that each theorem names. -/
import Derived.Test.YtmpdobpnnejmmaaDoorRd
import Derived.Deep.DeepCutAuto
import Derived.Deep.CutBlock
namespace Go.Proofs.YtmpdobpnnejmmaaDoor
open Go.RowKit Go.Maps

set_option maxHeartbeats 4000000 in
set_option maxRecDepth 100000 in
theorem word_c2 {w : World} {s : ByteArray} {a : Nat} (hs : s.size ≤ 1000000000) (ha : a < s.size) (hsg : Lx.sign? ((bl s).drop a) = none) (h39 : s[a].toNat = 39) : Calls Tryd.prog 30 #[.string s, .int .i64 a] w (RwP s a w) := by
  have HG := hid_ (fun W => ref_sign W s a hs (by omega))
  have b0 : (0 : Int) ≤ (a : Int) := by omega
  have b1 : (a : Int) < (s.size : Int) := by omega
  have hs' : (s.size : Int) ≤ 1000000000 := by omega
  have HG2 := hid_ (show ∀ W, Calls Tryd.prog 49 #[.string s, .int .i64 a] W fun e w' => e = .returned (.string ⟨#[]⟩) ∧ Below W.heap.size W w' from by have := HG.out; rw [hsg] at this; exact this)
  have HSg := hid_ hsg
  have HDr := hid_ (bl_drop s ha)
  clear hsg HG
  have HW := hid_ ((congrArg Lx.word? HDr.out).trans (word_tag (by rw [← HDr.out]; exact HSg.out) h39))
  obtain ⟨en, hen, hen1, hen2, hx, hl⟩ := end_at s (a + 1) hs (by omega) _ rfl
  generalize hT : ((bl s).drop (a + 1)).takeWhile Lx.goes = T at *
  have hx' : s.extract ((a : Int) + 1).toNat en = st T := by rw [show ((a : Int) + 1).toNat = a + 1 from by omega]; exact hx
  have HL := hid_ hl
  have HEn := hid_ hen
  have hTl : (st T).size ≤ 1000000000 := by rw [st_size]; omega
  have HX := hid_ hx'
  have HTg := hid_ (show ∀ W x, x = st T → Calls Tryd.prog 33 #[.string x] W fun e w' => e = .returned (.bool (Lx.tagged T)) ∧ W = w' from fun W x hxe => by
    have := ref_tagged W (st T) hTl
    rw [bl_st] at this
    rw [hxe]
    exact this)
  have q5 : IntKind.i64.wrap ((a : Int) + 1) = (a : Int) + 1 := IntWalk.i64_in _ (by omega)
  have a1 : (0 : Int) ≤ (a : Int) + 1 := by omega
  have a2 : (a : Int) + 1 ≤ (en : Int) := by omega
  have a3 : (en : Int) ≤ (s.size : Int) := by omega
  clear hx hx' hT hl hen
  have q1 : (((s[a].toNat : Nat) : Int) == (39 : Int)) = true := by rw [h39]; rfl
  clear h39
  go_enter Tryd.func30, Tryd.ntmps30
  go_wp2_with fail
  have HB0 := hid_ (Blk.new w 30 #[Value.int IntKind.i64 0, Value.string { data := #[] }, Value.int IntKind.i64 0, Value.int IntKind.i64 0])
  have Hb0 := hid_ ((Below.refl w.heap.size w).alloc (Nat.le_refl _) (Obj.cells #[Value.int IntKind.i64 0, Value.string { data := #[] }, Value.int IntKind.i64 0, Value.int IntKind.i64 0] 30))
  generalize w.alloc (Obj.cells #[Value.int IntKind.i64 0, Value.string { data := #[] }, Value.int IntKind.i64 0, Value.int IntKind.i64 0] 30) = w0 at *
  refine (HG2.out w0).mono ?_
  rintro e w1 ⟨rfl, hb⟩
  have HB1 := hid_ (HB0.out.kp (Kp.of_below hb fun _ => False) id)
  have HB := hid_ (Hb0.out.trans (hb.mono Hb0.out.size))
  clear hb HB0 Hb0
  obtain ⟨e0, e1, e2, e3, g0, g1, g2, g3⟩ := word_cells HB1.out
  go_wp2_with fail
  refine (HEn.out w1).mono ?_
  rintro e w' ⟨rfl, rfl⟩
  go_wp2_with fail
  go_region_with (first | (go_at_call 33; refine (HTg.out _ _ HX.out).mono ?_; rintro e w' ⟨rfl, rfl⟩))
  go_wp2_with fail
  have hx2 : s.extract (a + 1) en = st T := HX.out
  have HW3 := HW.out
  have HC := HB.out
  refine bodyPost_ret (v := .tuple #[.agg #[.int .i64 4, .string (s.extract (a + 1) en), .int .i64 0, .int .i64 a], .int .i64 (en : Int), .bool (Lx.tagged T)]) (by simp [results, Tryd.results30, go_sem, Act.put, e0, e1, e2, e3]) (by first | rfl | simp [Act.put]) ?_
  cases hg : Lx.tagged T with
  | true =>
    rw [hg, if_pos rfl] at HW3
    refine RwP.yes (r := (4, T, 0, T.length + 1)) HW3 ?_ hx2 (by have := HL.out; simp only []; omega)
    first | exact (((HC.drew.setCell (Nat.le_refl _) _).setCell (Nat.le_refl _) _).setCell (Nat.le_refl _) _).setCell (Nat.le_refl _) _ | exact (((HC.setCell (Nat.le_refl _) _).setCell (Nat.le_refl _) _).setCell (Nat.le_refl _) _).setCell (Nat.le_refl _) _ | exact ((((bdrewN HC _).setCell (Nat.le_refl _) _).setCell (Nat.le_refl _) _).setCell (Nat.le_refl _) _).setCell (Nat.le_refl _) _ | (trace_state; fail)
  | false =>
    rw [hg, if_neg (by simp)] at HW3
    refine RwP.no HW3 ?_ _ _ _ _ _
    first | exact (((HC.drew.setCell (Nat.le_refl _) _).setCell (Nat.le_refl _) _).setCell (Nat.le_refl _) _).setCell (Nat.le_refl _) _ | exact (((HC.setCell (Nat.le_refl _) _).setCell (Nat.le_refl _) _).setCell (Nat.le_refl _) _).setCell (Nat.le_refl _) _ | exact ((((bdrewN HC _).setCell (Nat.le_refl _) _).setCell (Nat.le_refl _) _).setCell (Nat.le_refl _) _).setCell (Nat.le_refl _) _ | (trace_state; fail)
end Go.Proofs.YtmpdobpnnejmmaaDoor
