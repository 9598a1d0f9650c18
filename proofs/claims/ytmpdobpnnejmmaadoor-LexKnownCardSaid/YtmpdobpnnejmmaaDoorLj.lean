/- Lex: plain. Conditions: those that each theorem names. -/
import Derived.Test.YtmpdobpnnejmmaaDoorLi
namespace Go.Proofs.YtmpdobpnnejmmaaDoor
open Go.RowKit Go.Maps

/-- A word's block as it is told. -/
theorem word_cells {w : World} {g : Nat} {a b c d : Value} (h : Blk w g 30 #[a, b, c, d]) : w.cell? ⟨g, 0, none⟩ = some a ∧ w.cell? ⟨g, 1, none⟩ = some b ∧ w.cell? ⟨g, 2, none⟩ = some c ∧ w.cell? ⟨g, 3, none⟩ = some d ∧ w.frozen? ⟨g, 0, none⟩ = false ∧ w.frozen? ⟨g, 1, none⟩ = false ∧ w.frozen? ⟨g, 2, none⟩ = false ∧ w.frozen? ⟨g, 3, none⟩ = false :=
  ⟨h.cell 0, h.cell 1, h.cell 2, h.cell 3, h.frozen 0, h.frozen 1, h.frozen 2, h.frozen 3⟩
set_option maxHeartbeats 4000000 in
set_option maxRecDepth 100000 in
theorem lex_plain {w : World} {cb : Nat} {s : ByteArray} {i : Nat} (hv : Env w) (h : Cur w cb s i) (hs : s.size ≤ 1000000000) (hi : i ≤ s.size) :
    Calls Tryd.prog 27 #[.pointer (some ⟨cb, 0, none⟩)] w (RdP (plainO ((bl s).drop i)) w) := by
  have HC := hid_ h
  have c1 : w.cell? ⟨cb, 1, none⟩ = some (.int .i64 i) := h.cell 1
  have lt0 := h.lt
  have hrl := run_le s i
  have HR := hid_ (fun W (hc : Cur W cb s i) => lex_run hc hs i hi)
  have HK := hid_ (fun W (hb : Below w.heap.size w W) => lex_IsKey (hv.below hb) (st (((bl s).drop i).takeWhile Lx.goes)))
  have HNm := hid_ (fun W (hb : Below w.heap.size w W) => lex_IsName (hv.below hb) (st (((bl s).drop i).takeWhile Lx.goes)) (by rw [st_size]; omega))
  have HTy := hid_ (fun W => lex_IsType W (st (((bl s).drop i).takeWhile Lx.goes)) (by rw [st_size]; omega))
  have HNu := hid_ (fun W (hb : Below w.heap.size w W) => lex_number (hv.below hb) (st (((bl s).drop i).takeWhile Lx.goes)) (by rw [st_size]; omega))
  have HO := hid_ (show plainO ((bl s).drop i) = if Lx.isKey (((bl s).drop i).takeWhile Lx.goes) = true then some (5, ((bl s).drop i).takeWhile Lx.goes, 0, (((bl s).drop i).takeWhile Lx.goes).length) else if Lx.isName (((bl s).drop i).takeWhile Lx.goes) = true then some (1, ((bl s).drop i).takeWhile Lx.goes, 0, (((bl s).drop i).takeWhile Lx.goes).length) else if Lx.isType (((bl s).drop i).takeWhile Lx.goes) = true then some (2, ((bl s).drop i).takeWhile Lx.goes, 0, (((bl s).drop i).takeWhile Lx.goes).length) else if 0 ≤ Lx.number (((bl s).drop i).takeWhile Lx.goes) then some (3, ((bl s).drop i).takeWhile Lx.goes, Lx.number (((bl s).drop i).takeWhile Lx.goes), (((bl s).drop i).takeWhile Lx.goes).length) else none from rfl)
  have hsz : (st (((bl s).drop i).takeWhile Lx.goes)).size = (((bl s).drop i).takeWhile Lx.goes).length := st_size _
  unfold NumP at HNu
  rw [bl_st] at HK HNm HTy HNu
  generalize hpo : plainO ((bl s).drop i) = po at *
  generalize ((bl s).drop i).takeWhile Lx.goes = t at *
  have HSz := hid_ hsz
  clear h hsz hv hpo
  generalize hst : st t = tx at *
  have HSt := hid_ hst
  clear hst
  generalize hik : Lx.isKey t = ik at *
  generalize hin : Lx.isName t = nm at *
  generalize hit : Lx.isType t = ty at *
  clear hik hin hit
  have hB0 := Blk.new w 30 #[Value.int IntKind.i64 0, Value.string tx, Value.int IntKind.i64 0, Value.int IntKind.i64 0]
  have hb0 := (Below.refl w.heap.size w).alloc (Nat.le_refl _) (Obj.cells #[Value.int IntKind.i64 0, Value.string tx, Value.int IntKind.i64 0, Value.int IntKind.i64 0] 30)
  have HB0 := hid_ hB0
  have Hb0 := hid_ hb0
  have HKc := hid_ (HK.out _ Hb0.out)
  have HNc := hid_ (HNm.out _ Hb0.out)
  clear hB0 hb0 HK HNm
  go_enter Tryd.func27, Tryd.ntmps27
  go_wp2_with fail
  refine (HR.out _ (HC.out.alloc _)).mono ?_
  rintro e w1 ⟨rfl, rfl⟩
  go_wp2_with fail
  refine HKc.out.mono ?_
  rintro e w1 ⟨rfl, rfl⟩
  cases ik with
  | true =>
    go_wp2_with fail
    refine bodyPost_ret (v := .tuple #[.agg #[.int .i64 5, .string tx, .int .i64 0, .int .i64 0], .int .i64 (tx.size : Int), .bool true]) (by simp [results, Tryd.results27, go_sem]) rfl ⟨5, tx, 0, _, _, rfl, fun r hr => ?_, fun hn => ?_, ?_⟩
    · have := HO.out
      simp only [↓reduceIte] at this
      subst this
      injection hr with hr
      subst hr
      exact ⟨rfl, rfl, HSt.out.symm, rfl, by have := HSz.out; show (tx.size : Int) = ((t.length : Nat) : Int); omega⟩
    · have := HO.out
      simp only [↓reduceIte] at this
      subst this
      cases hn
    · first | exact ((((Below.refl w.heap.size w).alloc (Nat.le_refl _) _).setCell (Nat.le_refl _) _).setCell (Nat.le_refl _) _).setCell (Nat.le_refl _) _ | exact (Below.refl w.heap.size w).alloc (Nat.le_refl _) _
  | false =>
    go_wp2_with fail
    refine HNc.out.mono ?_
    rintro e w2 ⟨rfl, hb2⟩
    have hB2 := HB0.out.kp (Kp.of_below hb2 fun _ => False) id
    have HB2 := hid_ hB2
    have Hb2 := hid_ (Hb0.out.trans (hb2.mono Hb0.out.size))
    obtain ⟨e0, e1, e2, e3, g0, g1, g2, g3⟩ := word_cells hB2
    clear hB2 hb2
    cases nm with
    | true =>
      go_wp2_with fail
      refine bodyPost_ret (v := .tuple #[.agg #[.int .i64 1, .string tx, .int .i64 0, .int .i64 0], .int .i64 (tx.size : Int), .bool true]) (by simp [results, Tryd.results27, go_sem, e0, e1, e2, e3]) rfl ⟨1, tx, 0, _, _, rfl, fun r hr => ?_, fun hn => ?_, ?_⟩
      · have := HO.out
        simp only [Bool.false_eq_true, ↓reduceIte] at this
        subst this
        injection hr with hr
        subst hr
        exact ⟨rfl, rfl, HSt.out.symm, rfl, by have := HSz.out; show (tx.size : Int) = ((t.length : Nat) : Int); omega⟩
      · have := HO.out
        simp only [Bool.false_eq_true, ↓reduceIte] at this
        subst this
        cases hn
      · exact ((((Hb2.out.setCell (Nat.le_refl _) _).setCell (Nat.le_refl _) _).setCell (Nat.le_refl _) _).setCell (Nat.le_refl _) _).setCell (Nat.le_refl _) _
    | false =>
      go_wp2_with fail
      refine (HTy.out _).mono ?_
      rintro e w3 ⟨rfl, hb3⟩
      have hB3 := HB2.out.kp (Kp.of_below hb3 fun _ => False) id
      have HB3 := hid_ hB3
      have Hb3 := hid_ (Hb2.out.trans (hb3.mono Hb2.out.size))
      clear e0 e1 e2 e3 g0 g1 g2 g3
      obtain ⟨e0, e1, e2, e3, g0, g1, g2, g3⟩ := word_cells hB3
      clear hB3 hb3
      cases ty with
      | true =>
        go_wp2_with fail
        refine bodyPost_ret (v := .tuple #[.agg #[.int .i64 2, .string tx, .int .i64 0, .int .i64 0], .int .i64 (tx.size : Int), .bool true]) (by simp [results, Tryd.results27, go_sem, e0, e1, e2, e3]) rfl ⟨2, tx, 0, _, _, rfl, fun r hr => ?_, fun hn => ?_, ?_⟩
        · have := HO.out
          simp only [Bool.false_eq_true, ↓reduceIte] at this
          subst this
          injection hr with hr
          subst hr
          exact ⟨rfl, rfl, HSt.out.symm, rfl, by have := HSz.out; show (tx.size : Int) = ((t.length : Nat) : Int); omega⟩
        · have := HO.out
          simp only [Bool.false_eq_true, ↓reduceIte] at this
          subst this
          cases hn
        · exact ((((Hb3.out.setCell (Nat.le_refl _) _).setCell (Nat.le_refl _) _).setCell (Nat.le_refl _) _).setCell (Nat.le_refl _) _).setCell (Nat.le_refl _) _
      | false =>
        have HNu2 := hid_ (HNu.out (w3.setCell ⟨w.heap.size, 0, none⟩ (.int .i64 3)) (Hb3.out.setCell (Nat.le_refl _) _))
        have hB4 : Blk (w3.setCell ⟨w.heap.size, 0, none⟩ (.int .i64 3)) w.heap.size 30 #[.int .i64 3, .string tx, .int .i64 0, .int .i64 0] := by
          have := HB3.out.set_ 0 (.int .i64 3)
          simpa using this
        have HB4 := hid_ hB4
        clear hB4
        go_wp2_with fail
        refine HNu2.out.mono ?_
        rintro e w4 ⟨n, b, rfl, hb, hbn, hb4⟩
        have hB5 := HB4.out.kp (Kp.of_below hb4 fun _ => False) id
        have Hb5 := hid_ ((Hb3.out.setCell (Nat.le_refl _) (.int .i64 3)).trans (hb4.mono (Hb3.out.setCell (Nat.le_refl _) (.int .i64 3)).size))
        have HN5 := hid_ (And.intro hb hbn)
        clear e0 e1 e2 e3 g0 g1 g2 g3
        obtain ⟨e0, e1, e2, e3, g0, g1, g2, g3⟩ := word_cells hB5
        clear hB5 hb4 hb hbn
        go_wp2_with fail
        refine bodyPost_ret (v := .tuple #[.agg #[.int .i64 3, .string tx, .int .i64 n, .int .i64 0], .int .i64 (tx.size : Int), .bool b]) (by simp [results, Tryd.results27, go_sem, e0, e1, e2, e3]) rfl ⟨3, tx, n, _, _, rfl, fun r hr => ?_, fun hn => ?_, ?_⟩
        · have h1 := HO.out
          simp only [Bool.false_eq_true, ↓reduceIte] at h1
          subst h1
          split at hr
          · rename_i h0
            injection hr with hr
            subst hr
            have hbt : b = true := by rw [HN5.out.1]; exact decide_eq_true h0
            exact ⟨hbt, rfl, HSt.out.symm, HN5.out.2 hbt, by have := HSz.out; show (tx.size : Int) = ((t.length : Nat) : Int); omega⟩
          · cases hr
        · have h1 := HO.out
          simp only [Bool.false_eq_true, ↓reduceIte] at h1
          subst h1
          split at hn
          · cases hn
          · rename_i h0
            rw [HN5.out.1]
            exact decide_eq_false h0
        · exact ((((Hb5.out.setCell (Nat.le_refl _) _).setCell (Nat.le_refl _) _).setCell (Nat.le_refl _) _).setCell (Nat.le_refl _) _).setCell (Nat.le_refl _) _
end Go.Proofs.YtmpdobpnnejmmaaDoor
