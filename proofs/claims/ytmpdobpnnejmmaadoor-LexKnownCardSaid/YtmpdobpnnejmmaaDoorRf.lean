/- The document's lex: a plain word. Conditions: those that each theorem names. -/
import Derived.Test.YtmpdobpnnejmmaaDoorRd
namespace Go.Proofs.YtmpdobpnnejmmaaDoor
open Go.RowKit Go.Maps

set_option maxHeartbeats 4000000 in
set_option maxRecDepth 100000 in
theorem word_c3 {w : World} {s : ByteArray} {a : Nat} (hs : s.size ≤ 1000000000) (ha : a < s.size) (hsg : Lx.sign? ((bl s).drop a) = none) (h39 : s[a].toNat ≠ 39) : Calls Tryd.prog 30 #[.string s, .int .i64 a] w (RwP s a w) := by
  have HG := hid_ (fun W => ref_sign W s a hs (by omega))
  have b0 : (0 : Int) ≤ (a : Int) := by omega
  have b1 : (a : Int) < (s.size : Int) := by omega
  have hs' : (s.size : Int) ≤ 1000000000 := by omega
  have HG2 := hid_ (show ∀ W, Calls Tryd.prog 49 #[.string s, .int .i64 a] W fun e w' => e = .returned (.string ⟨#[]⟩) ∧ Below W.heap.size W w' from by have := HG.out; rw [hsg] at this; exact this)
  have HSg := hid_ hsg
  have HDr := hid_ (bl_drop s ha)
  clear hsg HG
  have HW := hid_ ((congrArg Lx.word? HDr.out).trans (word_other (by rw [← HDr.out]; exact HSg.out) h39))
  rw [← HDr.out] at HW
  obtain ⟨en, hen, hen1, hen2, hx, hl⟩ := end_at s a hs (by omega) _ rfl
  generalize hT : ((bl s).drop a).takeWhile Lx.goes = T at *
  have HL := hid_ hl
  have HEn := hid_ hen
  have hTl : (st T).size ≤ 1000000000 := by rw [st_size]; omega
  have HK := hid_ (fun W => ref_IsKey W (st T))
  have HN := hid_ (fun W => ref_IsName W (st T) hTl)
  have HTy := hid_ (fun W => ref_IsType W (st T) hTl)
  have HNu := hid_ (fun W => ref_number W (st T) hTl)
  rw [bl_st] at HK HN HTy HNu
  have a2 : (a : Int) ≤ (en : Int) := by omega
  have a3 : (en : Int) ≤ (s.size : Int) := by omega
  clear hT hl hen
  have q1 : (((s[a].toNat : Nat) : Int) == (39 : Int)) = false := by simp only [beq_eq_false_iff_ne, ne_eq]; omega
  clear h39
  generalize Lx.isKey T = k1 at *
  generalize Lx.isName T = k2 at *
  generalize Lx.isType T = k3 at *
  generalize Lx.number T = nn at *
  go_enter Tryd.func30, Tryd.ntmps30
  go_wp2_with fail
  have HB0 := hid_ (Blk.new w 30 #[Value.int IntKind.i64 0, Value.string { data := #[] }, Value.int IntKind.i64 0, Value.int IntKind.i64 0])
  have Hb0 := hid_ ((Below.refl w.heap.size w).alloc (Nat.le_refl _) (Obj.cells #[Value.int IntKind.i64 0, Value.string { data := #[] }, Value.int IntKind.i64 0, Value.int IntKind.i64 0] 30))
  generalize w.alloc (Obj.cells #[Value.int IntKind.i64 0, Value.string { data := #[] }, Value.int IntKind.i64 0, Value.int IntKind.i64 0] 30) = w0 at *
  refine (HG2.out w0).mono ?_
  rintro e w1 ⟨rfl, hb⟩
  have HB1 := hid_ (HB0.out.kp (Kp.of_below hb fun _ => False) id)
  have HB := hid_ (Hb0.out.trans (hb.mono Hb0.out.size))
  clear hb HB0 Hb0
  go_wp2_with fail
  refine (HEn.out w1).mono ?_
  rintro e w' ⟨rfl, rfl⟩
  go_wp2_with fail
  refine (HK.out w1).mono ?_
  rintro e w2 ⟨rfl, hb⟩
  have HB2 := hid_ (HB1.out.kp (Kp.of_below hb fun _ => False) id)
  have HC2 := hid_ (HB.out.trans (hb.mono HB.out.size))
  clear hb
  cases k1 with
  | true =>
    have HW2 := hid_ (HW.out.trans (if_pos rfl))
    obtain ⟨e0, e1, e2, e3, g0, g1, g2, g3⟩ := word_cells HB2.out
    have HC := HC2
    go_wp2_with fail
    refine bodyPost_ret (v := .tuple #[.agg #[.int .i64 5, .string (st T), .int .i64 0, .int .i64 a], .int .i64 (en : Int), .bool true]) (by simp [results, Tryd.results30, go_sem, e0, e1, e2, e3]) rfl (RwP.yes (r := (5, T, 0, T.length)) HW2.out ?_ rfl (by have := HL.out; simp only []; omega))
    exact (((HC.out.setCell (Nat.le_refl _) _).setCell (Nat.le_refl _) _).setCell (Nat.le_refl _) _).setCell (Nat.le_refl _) _
  | false =>
    have HW1 := hid_ (HW.out.trans (if_neg (by simp)))
    go_wp2_with fail
    refine (HN.out w2).mono ?_
    rintro e w3 ⟨rfl, hb⟩
    have HB3 := hid_ (HB2.out.kp (Kp.of_below hb fun _ => False) id)
    have HC3 := hid_ (HC2.out.trans (hb.mono HC2.out.size))
    clear hb
    cases k2 with
    | true =>
      have HW2 := hid_ (HW1.out.trans (if_pos rfl))
      obtain ⟨e0, e1, e2, e3, g0, g1, g2, g3⟩ := word_cells HB3.out
      have HC := HC3
      go_wp2_with fail
      refine bodyPost_ret (v := .tuple #[.agg #[.int .i64 1, .string (st T), .int .i64 0, .int .i64 a], .int .i64 (en : Int), .bool true]) (by simp [results, Tryd.results30, go_sem, e0, e1, e2, e3]) rfl (RwP.yes (r := (1, T, 0, T.length)) HW2.out ?_ rfl (by have := HL.out; simp only []; omega))
      exact (((HC.out.setCell (Nat.le_refl _) _).setCell (Nat.le_refl _) _).setCell (Nat.le_refl _) _).setCell (Nat.le_refl _) _
    | false =>
      have HW3 := hid_ (HW1.out.trans (if_neg (by simp)))
      go_wp2_with fail
      refine (HTy.out w3).mono ?_
      rintro e w4 ⟨rfl, rfl⟩
      cases k3 with
      | true =>
        have HW2 := hid_ (HW3.out.trans (if_pos rfl))
        obtain ⟨e0, e1, e2, e3, g0, g1, g2, g3⟩ := word_cells HB3.out
        have HC := HC3
        go_wp2_with fail
        refine bodyPost_ret (v := .tuple #[.agg #[.int .i64 2, .string (st T), .int .i64 0, .int .i64 a], .int .i64 (en : Int), .bool true]) (by simp [results, Tryd.results30, go_sem, e0, e1, e2, e3]) rfl (RwP.yes (r := (2, T, 0, T.length)) HW2.out ?_ rfl (by have := HL.out; simp only []; omega))
        exact (((HC.out.setCell (Nat.le_refl _) _).setCell (Nat.le_refl _) _).setCell (Nat.le_refl _) _).setCell (Nat.le_refl _) _
      | false =>
        have HW4 := hid_ (HW3.out.trans (if_neg (by simp)))
        go_wp2_with fail
        refine (HNu.out w3).mono ?_
        rintro e w4 ⟨rfl, rfl⟩
        by_cases hn : 0 ≤ nn
        · have HW2 := hid_ (HW4.out.trans (if_pos hn))
          obtain ⟨e0, e1, e2, e3, g0, g1, g2, g3⟩ := word_cells HB3.out
          have HC := HC3
          go_wp2_with fail
          refine (HNu.out w3).mono ?_
          rintro e w4 ⟨rfl, rfl⟩
          go_wp2_with fail
          refine bodyPost_ret (v := .tuple #[.agg #[.int .i64 3, .string (st T), .int .i64 nn, .int .i64 a], .int .i64 (en : Int), .bool true]) (by simp [results, Tryd.results30, go_sem, e0, e1, e2, e3]) rfl (RwP.yes (r := (3, T, nn, T.length)) HW2.out ?_ rfl (by have := HL.out; simp only []; omega))
          exact (((HC.out.setCell (Nat.le_refl _) _).setCell (Nat.le_refl _) _).setCell (Nat.le_refl _) _).setCell (Nat.le_refl _) _
        · have HW2 := hid_ (HW4.out.trans (if_neg hn))
          obtain ⟨e0, e1, e2, e3, g0, g1, g2, g3⟩ := word_cells HB3.out
          have HC := HC3
          go_wp2_with fail
          refine bodyPost_ret (v := .tuple #[.agg #[.int .i64 0, .string ⟨#[]⟩, .int .i64 0, .int .i64 0], .int .i64 0, .bool false]) (by simp [results, Tryd.results30, go_sem, e0, e1, e2, e3]) rfl (RwP.no HW2.out ?_ _ _ _ _ _)
          first | exact HC.out | exact (((HC.out.setCell (Nat.le_refl _) _).setCell (Nat.le_refl _) _).setCell (Nat.le_refl _) _).setCell (Nat.le_refl _) _
end Go.Proofs.YtmpdobpnnejmmaaDoor
