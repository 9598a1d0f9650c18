/- What stands in these texts of the proof: Li Lj Lk Ll Pl. Conditions: those that each theorem names. -/
import Derived.Test.YtmgjmagniefhoaaGreatDoorAa03
import Derived.Laws.Rows
import Derived.Test.YtmgjmagniefhoaaGreatDoorAa01
/- Lex: tag, plain, sign. Conditions: those that each theorem names. -/
namespace Go.Proofs.YtmgjmagniefhoaaGreatDoor
open Go.RowKit Go.Maps

/-- What a reader answers. -/
def RdP (o : Option (Int × List UInt8 × Int × Nat)) (w : World) (e : Ending) (w' : World) : Prop :=
  ∃ (k : Int) (tx : ByteArray) (nm lo : Int) (b : Bool), e = .returned (.tuple #[.agg #[.int .i64 k, .string tx, .int .i64 nm, .int .i64 0], .int .i64 lo, .bool b]) ∧
    (∀ r, o = some r → b = true ∧ k = r.1 ∧ tx = st r.2.1 ∧ nm = r.2.2.1 ∧ lo = (r.2.2.2 : Nat)) ∧ (o = none → b = false) ∧ Below w.heap.size w w'
def tagO : List UInt8 → Option (Int × List UInt8 × Int × Nat)
  | [] => none
  | c :: l => if c = 39 ∧ Lx.tagged (l.takeWhile Lx.goes) = true then some (4, l.takeWhile Lx.goes, 0, (l.takeWhile Lx.goes).length + 1) else none
def plainO (l : List UInt8) : Option (Int × List UInt8 × Int × Nat) :=
  let t := l.takeWhile Lx.goes
  if Lx.isKey t = true then some (5, t, 0, t.length) else if Lx.isName t = true then some (1, t, 0, t.length) else if Lx.isType t = true then some (2, t, 0, t.length) else if 0 ≤ Lx.number t then some (3, t, Lx.number t, t.length) else none
def signO (l : List UInt8) : Option (Int × List UInt8 × Int × Nat) := (Lx.sign? l).map fun g => (6, g, 0, g.length)
theorem run_le (s : ByteArray) (a : Nat) : (((bl s).drop a).takeWhile Lx.goes).length ≤ s.size - a := by
  have h := (List.takeWhile_prefix (p := Lx.goes) (l := (bl s).drop a)).length_le
  rw [List.length_drop, bl_len] at h
  exact h

set_option maxHeartbeats 2000000 in
set_option maxRecDepth 100000 in
theorem lex_tag {w : World} {cb : Nat} {s : ByteArray} {i : Nat} (h : Cur w cb s i) (hs : s.size ≤ 1000000000) (hi : i < s.size) :
    Calls Tryz.prog 57 #[.pointer (some ⟨cb, 0, none⟩)] w (RdP (tagO ((bl s).drop i)) w) := by
  have HC := hid_ h
  have c0 : w.cell? ⟨cb, 0, none⟩ = some (.string s) := h.cell 0
  have c1 : w.cell? ⟨cb, 1, none⟩ = some (.int .i64 i) := h.cell 1
  have lt0 := h.lt
  have b0 : (0 : Int) ≤ (i : Int) := by omega
  have b1 : (i : Int) < (s.size : Int) := by omega
  have HD := hid_ (bl_drop s hi)
  clear h
  by_cases h39 : s[i] = 39
  · have q1 : (((s[i].toNat : Nat) : Int) == 39) = true := byte_eq (n := 39) (by omega) h39
    have q2 : (((s[i].toNat : Nat) : Int) != 39) = false := by rw [bne, q1]; rfl
    have q5 : IntKind.i64.wrap ((i : Int) + 1) = (i : Int) + 1 := IntWalk.i64_in _ (by omega)
    have hrl := run_le s (i + 1)
    have HR := hid_ (fun W (hc : Cur W cb s i) => (show Calls Tryz.prog 84 #[.pointer (some ⟨cb, 0, none⟩), .int .i64 ((i : Int) + 1)] W _ from lex_run hc hs (i + 1) (by omega)))
    have HT := hid_ (fun W => lex_tagged W (st (((bl s).drop (i + 1)).takeWhile Lx.goes)) (by rw [st_size]; omega))
    have HO := hid_ (show tagO ((bl s).drop i) = if Lx.tagged (((bl s).drop (i + 1)).takeWhile Lx.goes) = true then some (4, ((bl s).drop (i + 1)).takeWhile Lx.goes, 0, (((bl s).drop (i + 1)).takeWhile Lx.goes).length + 1) else none from by
      rw [HD.out, tagO, h39]
      simp)
    have hsz : (st (((bl s).drop (i + 1)).takeWhile Lx.goes)).size = (((bl s).drop (i + 1)).takeWhile Lx.goes).length := st_size _
    rw [bl_st] at HT
    generalize ((bl s).drop (i + 1)).takeWhile Lx.goes = t at *
    have q6 : IntKind.i64.wrap (((st t).size : Int) + 1) = ((st t).size : Int) + 1 := IntWalk.i64_in _ (by omega)
    have HSz := hid_ hsz
    clear h39 hsz
    generalize hst : st t = tx at *
    have HSt := hid_ hst
    clear hst
    go_enter Tryz.func57, Tryz.ntmps57
    go_wp2_with fail
    go_quiet (fail)
    go_wp2_with fail
    refine (HR.out _ ((HC.out.alloc _).drewN _)).mono ?_
    rintro e w1 ⟨rfl, rfl⟩
    go_wp2_with fail
    refine (HT.out _).mono ?_
    rintro e w2 ⟨rfl, hb2⟩
    have hB0 := Blk.new w 88 #[Value.int IntKind.i64 0, Value.string { data := #[] }, Value.int IntKind.i64 0, Value.int IntKind.i64 0]
    have hb1 := bdrewN ((Below.refl w.heap.size w).alloc (Nat.le_refl _) (Obj.cells #[Value.int IntKind.i64 0, Value.string { data := #[] }, Value.int IntKind.i64 0, Value.int IntKind.i64 0] 88))
    have hB2 := (hB0.drewN nq).kp (Kp.of_below hb2 fun _ => False) id
    have hb3 := (hb1 nq).trans (hb2.mono (hb1 nq).size)
    have e0 := hB2.cell 0
    have e1 := hB2.cell 1
    have e2 := hB2.cell 2
    have e3 := hB2.cell 3
    have g0 := hB2.frozen 0
    have g1 := hB2.frozen 1
    have g2 := hB2.frozen 2
    have g3 := hB2.frozen 3
    have HBl := hid_ hB2
    have HB3 := hid_ hb3
    clear hB0 hb1 hB2 hb3 hb2
    go_wp2_with fail
    refine bodyPost_ret (v := .tuple #[.agg #[.int .i64 4, .string tx, .int .i64 0, .int .i64 0], .int .i64 ((tx.size : Int) + 1), .bool (Lx.tagged t)]) (by simp [results, Tryz.results57, go_sem, e0, e1, e2, e3]) rfl ⟨4, tx, 0, _, _, rfl, fun r hr => ?_, fun hn => ?_, (((HB3.out.setCell (Nat.le_refl _) _).setCell (Nat.le_refl _) _).setCell (Nat.le_refl _) _).setCell (Nat.le_refl _) _⟩
    · rw [HO.out] at hr
      split at hr
      · rename_i ht
        injection hr with hr
        subst hr
        exact ⟨ht, rfl, HSt.out.symm, rfl, by have := HSz.out; push_cast; omega⟩
      · cases hr
    · rw [HO.out] at hn
      split at hn
      · cases hn
      · rename_i ht
        simpa using ht
  · have q1 : (((s[i].toNat : Nat) : Int) == 39) = false := byte_ne (n := 39) h39
    have q2 : (((s[i].toNat : Nat) : Int) != 39) = true := by rw [bne, q1]; rfl
    have HO := hid_ (show tagO ((bl s).drop i) = none from by rw [HD.out, tagO, if_neg (fun h => h39 h.1)])
    clear h39
    go_enter Tryz.func57, Tryz.ntmps57
    go_wp2_with fail
    go_quiet (fail)
    go_wp2_with fail
    refine bodyPost_ret (v := .tuple #[.agg #[.int .i64 0, .string ⟨#[]⟩, .int .i64 0, .int .i64 0], .int .i64 0, .bool false]) (by simp [results, Tryz.results57, go_sem]) rfl ⟨0, ⟨#[]⟩, 0, 0, false, rfl, fun r hr => (by rw [HO.out] at hr; cases hr), fun _ => rfl, ?_⟩
    exact (((((bdrewN ((Below.refl w.heap.size w).alloc (Nat.le_refl _) _) _).setCell (Nat.le_refl _) _).setCell (Nat.le_refl _) _).setCell (Nat.le_refl _) _).setCell (Nat.le_refl _) _)
end Go.Proofs.YtmgjmagniefhoaaGreatDoor

/- Lex: plain. Conditions: those that each theorem names. -/
namespace Go.Proofs.YtmgjmagniefhoaaGreatDoor
open Go.RowKit Go.Maps

/-- A word's block as it is told. -/
theorem word_cells {w : World} {g : Nat} {a b c d : Value} (h : Blk w g 88 #[a, b, c, d]) : w.cell? ⟨g, 0, none⟩ = some a ∧ w.cell? ⟨g, 1, none⟩ = some b ∧ w.cell? ⟨g, 2, none⟩ = some c ∧ w.cell? ⟨g, 3, none⟩ = some d ∧ w.frozen? ⟨g, 0, none⟩ = false ∧ w.frozen? ⟨g, 1, none⟩ = false ∧ w.frozen? ⟨g, 2, none⟩ = false ∧ w.frozen? ⟨g, 3, none⟩ = false :=
  ⟨h.cell 0, h.cell 1, h.cell 2, h.cell 3, h.frozen 0, h.frozen 1, h.frozen 2, h.frozen 3⟩
set_option maxHeartbeats 4000000 in
set_option maxRecDepth 100000 in
theorem lex_plain {w : World} {cb : Nat} {s : ByteArray} {i : Nat} (hv : Env w) (h : Cur w cb s i) (hs : s.size ≤ 1000000000) (hi : i ≤ s.size) :
    Calls Tryz.prog 58 #[.pointer (some ⟨cb, 0, none⟩)] w (RdP (plainO ((bl s).drop i)) w) := by
  have HC := hid_ h
  have c1 : w.cell? ⟨cb, 1, none⟩ = some (.int .i64 i) := h.cell 1
  have lt0 := h.lt
  have hrl := run_le s i
  have HR := hid_ (fun W (hc : Cur W cb s i) => lex_run hc hs i hi)
  have HK := hid_ (fun W (hb : Below w.heap.size w W) => lex_IsKey (hv.below hb) (st (((bl s).drop i).takeWhile Lx.goes)))
  have HNm := hid_ (fun W (hb : Below w.heap.size w W) => lex_IsName (hv.below hb) (st (((bl s).drop i).takeWhile Lx.goes)) (by rw [st_size]; omega))
  have HTy := hid_ (fun W => lex_IsType W (st (((bl s).drop i).takeWhile Lx.goes)) (by rw [st_size]; omega))
  have HNu := hid_ (fun W (hb : Below w.heap.size w W) => lex_number (hv.below hb) (st (((bl s).drop i).takeWhile Lx.goes)) (by rw [st_size]; omega))
  have HO := hid_ (show plainO ((bl s).drop i) = if Lx.isKey (((bl s).drop i).takeWhile Lx.goes) = true then some (5, ((bl s).drop i).takeWhile Lx.goes, 0, (((bl s).drop i).takeWhile Lx.goes).length) else if Lx.isName (((bl s).drop i).takeWhile Lx.goes) = true then some (1, ((bl s).drop i).takeWhile Lx.goes, 0, (((bl s).drop i).takeWhile Lx.goes).length) else if Lx.isType (((bl s).drop i).takeWhile Lx.goes) = true then some (2, ((bl s).drop i).takeWhile Lx.goes, 0, (((bl s).drop i).takeWhile Lx.goes).length) else if 0 ≤ Lx.number (((bl s).drop i).takeWhile Lx.goes) then some (3, ((bl s).drop i).takeWhile Lx.goes, Lx.number (((bl s).drop i).takeWhile Lx.goes), (((bl s).drop i).takeWhile Lx.goes).length) else none from rfl)
  have hsz : (st (((bl s).drop i).takeWhile Lx.goes)).size = (((bl s).drop i).takeWhile Lx.goes).length := st_size _
  unfold NumP at HNu
  rw [bl_st] at HK HNm HTy HNu
  generalize hpo : plainO ((bl s).drop i) = po at *
  generalize ((bl s).drop i).takeWhile Lx.goes = t at *
  have HSz := hid_ hsz
  clear h hsz hv hpo
  generalize hst : st t = tx at *
  have HSt := hid_ hst
  clear hst
  generalize hik : Lx.isKey t = ik at *
  generalize hin : Lx.isName t = nm at *
  generalize hit : Lx.isType t = ty at *
  clear hik hin hit
  have hB0 := Blk.new w 88 #[Value.int IntKind.i64 0, Value.string tx, Value.int IntKind.i64 0, Value.int IntKind.i64 0]
  have hb0 := (Below.refl w.heap.size w).alloc (Nat.le_refl _) (Obj.cells #[Value.int IntKind.i64 0, Value.string tx, Value.int IntKind.i64 0, Value.int IntKind.i64 0] 88)
  have HB0 := hid_ hB0
  have Hb0 := hid_ hb0
  have HKc := hid_ (HK.out _ Hb0.out)
  have HNc := hid_ (HNm.out _ Hb0.out)
  clear hB0 hb0 HK HNm
  go_enter Tryz.func58, Tryz.ntmps58
  go_wp2_with fail
  refine (HR.out _ (HC.out.alloc _)).mono ?_
  rintro e w1 ⟨rfl, rfl⟩
  go_wp2_with fail
  refine HKc.out.mono ?_
  rintro e w1 ⟨rfl, rfl⟩
  cases ik with
  | true =>
    go_wp2_with fail
    refine bodyPost_ret (v := .tuple #[.agg #[.int .i64 5, .string tx, .int .i64 0, .int .i64 0], .int .i64 (tx.size : Int), .bool true]) (by simp [results, Tryz.results58, go_sem]) rfl ⟨5, tx, 0, _, _, rfl, fun r hr => ?_, fun hn => ?_, ?_⟩
    · have := HO.out
      simp only [↓reduceIte] at this
      subst this
      injection hr with hr
      subst hr
      exact ⟨rfl, rfl, HSt.out.symm, rfl, by have := HSz.out; show (tx.size : Int) = ((t.length : Nat) : Int); omega⟩
    · have := HO.out
      simp only [↓reduceIte] at this
      subst this
      cases hn
    · first | exact ((((Below.refl w.heap.size w).alloc (Nat.le_refl _) _).setCell (Nat.le_refl _) _).setCell (Nat.le_refl _) _).setCell (Nat.le_refl _) _ | exact (Below.refl w.heap.size w).alloc (Nat.le_refl _) _
  | false =>
    go_wp2_with fail
    refine HNc.out.mono ?_
    rintro e w2 ⟨rfl, hb2⟩
    have hB2 := HB0.out.kp (Kp.of_below hb2 fun _ => False) id
    have HB2 := hid_ hB2
    have Hb2 := hid_ (Hb0.out.trans (hb2.mono Hb0.out.size))
    obtain ⟨e0, e1, e2, e3, g0, g1, g2, g3⟩ := word_cells hB2
    clear hB2 hb2
    cases nm with
    | true =>
      go_wp2_with fail
      refine bodyPost_ret (v := .tuple #[.agg #[.int .i64 1, .string tx, .int .i64 0, .int .i64 0], .int .i64 (tx.size : Int), .bool true]) (by simp [results, Tryz.results58, go_sem, e0, e1, e2, e3]) rfl ⟨1, tx, 0, _, _, rfl, fun r hr => ?_, fun hn => ?_, ?_⟩
      · have := HO.out
        simp only [Bool.false_eq_true, ↓reduceIte] at this
        subst this
        injection hr with hr
        subst hr
        exact ⟨rfl, rfl, HSt.out.symm, rfl, by have := HSz.out; show (tx.size : Int) = ((t.length : Nat) : Int); omega⟩
      · have := HO.out
        simp only [Bool.false_eq_true, ↓reduceIte] at this
        subst this
        cases hn
      · exact ((((Hb2.out.setCell (Nat.le_refl _) _).setCell (Nat.le_refl _) _).setCell (Nat.le_refl _) _).setCell (Nat.le_refl _) _).setCell (Nat.le_refl _) _
    | false =>
      go_wp2_with fail
      refine (HTy.out _).mono ?_
      rintro e w3 ⟨rfl, hb3⟩
      have hB3 := HB2.out.kp (Kp.of_below hb3 fun _ => False) id
      have HB3 := hid_ hB3
      have Hb3 := hid_ (Hb2.out.trans (hb3.mono Hb2.out.size))
      clear e0 e1 e2 e3 g0 g1 g2 g3
      obtain ⟨e0, e1, e2, e3, g0, g1, g2, g3⟩ := word_cells hB3
      clear hB3 hb3
      cases ty with
      | true =>
        go_wp2_with fail
        refine bodyPost_ret (v := .tuple #[.agg #[.int .i64 2, .string tx, .int .i64 0, .int .i64 0], .int .i64 (tx.size : Int), .bool true]) (by simp [results, Tryz.results58, go_sem, e0, e1, e2, e3]) rfl ⟨2, tx, 0, _, _, rfl, fun r hr => ?_, fun hn => ?_, ?_⟩
        · have := HO.out
          simp only [Bool.false_eq_true, ↓reduceIte] at this
          subst this
          injection hr with hr
          subst hr
          exact ⟨rfl, rfl, HSt.out.symm, rfl, by have := HSz.out; show (tx.size : Int) = ((t.length : Nat) : Int); omega⟩
        · have := HO.out
          simp only [Bool.false_eq_true, ↓reduceIte] at this
          subst this
          cases hn
        · exact ((((Hb3.out.setCell (Nat.le_refl _) _).setCell (Nat.le_refl _) _).setCell (Nat.le_refl _) _).setCell (Nat.le_refl _) _).setCell (Nat.le_refl _) _
      | false =>
        have HNu2 := hid_ (HNu.out (w3.setCell ⟨w.heap.size, 0, none⟩ (.int .i64 3)) (Hb3.out.setCell (Nat.le_refl _) _))
        have hB4 : Blk (w3.setCell ⟨w.heap.size, 0, none⟩ (.int .i64 3)) w.heap.size 88 #[.int .i64 3, .string tx, .int .i64 0, .int .i64 0] := by
          have := HB3.out.set_ 0 (.int .i64 3)
          simpa using this
        have HB4 := hid_ hB4
        clear hB4
        go_wp2_with fail
        refine HNu2.out.mono ?_
        rintro e w4 ⟨n, b, rfl, hb, hbn, hb4⟩
        have hB5 := HB4.out.kp (Kp.of_below hb4 fun _ => False) id
        have Hb5 := hid_ ((Hb3.out.setCell (Nat.le_refl _) (.int .i64 3)).trans (hb4.mono (Hb3.out.setCell (Nat.le_refl _) (.int .i64 3)).size))
        have HN5 := hid_ (And.intro hb hbn)
        clear e0 e1 e2 e3 g0 g1 g2 g3
        obtain ⟨e0, e1, e2, e3, g0, g1, g2, g3⟩ := word_cells hB5
        clear hB5 hb4 hb hbn
        go_wp2_with fail
        refine bodyPost_ret (v := .tuple #[.agg #[.int .i64 3, .string tx, .int .i64 n, .int .i64 0], .int .i64 (tx.size : Int), .bool b]) (by simp [results, Tryz.results58, go_sem, e0, e1, e2, e3]) rfl ⟨3, tx, n, _, _, rfl, fun r hr => ?_, fun hn => ?_, ?_⟩
        · have h1 := HO.out
          simp only [Bool.false_eq_true, ↓reduceIte] at h1
          subst h1
          split at hr
          · rename_i h0
            injection hr with hr
            subst hr
            have hbt : b = true := by rw [HN5.out.1]; exact decide_eq_true h0
            exact ⟨hbt, rfl, HSt.out.symm, HN5.out.2 hbt, by have := HSz.out; show (tx.size : Int) = ((t.length : Nat) : Int); omega⟩
          · cases hr
        · have h1 := HO.out
          simp only [Bool.false_eq_true, ↓reduceIte] at h1
          subst h1
          split at hn
          · cases hn
          · rename_i h0
            rw [HN5.out.1]
            exact decide_eq_false h0
        · exact ((((Hb5.out.setCell (Nat.le_refl _) _).setCell (Nat.le_refl _) _).setCell (Nat.le_refl _) _).setCell (Nat.le_refl _) _).setCell (Nat.le_refl _) _
end Go.Proofs.YtmgjmagniefhoaaGreatDoor

/- Lex: sign. Conditions: those that each theorem names. -/
namespace Go.Proofs.YtmgjmagniefhoaaGreatDoor
open Go.RowKit Go.Maps

theorem sign_index (k : Nat) (hk : k < 16) (W : World) : (Instr.index 101 (.agg (strV Lx.signsL)) (.int .i64 k)).run Tryz.prog W = .ok (.string (st (Lx.signsL.getD k []))) W := by
  rcases (by omega : k = 0 ∨ k = 1 ∨ k = 2 ∨ k = 3 ∨ k = 4 ∨ k = 5 ∨ k = 6 ∨ k = 7 ∨ k = 8 ∨ k = 9 ∨ k = 10 ∨ k = 11 ∨ k = 12 ∨ k = 13 ∨ k = 14 ∨ k = 15) with rfl | rfl | rfl | rfl | rfl | rfl | rfl | rfl | rfl | rfl | rfl | rfl | rfl | rfl | rfl | rfl <;> kernel_rfl
theorem var_cells {P : Program} {w : World} {n : String} {g : Nat} {cs : Array Value} (hg : P.globalNamed n = some g) (h : w.var? P n = some cs) : ∃ t fr, w.heap[g]? = some (.cells cs t fr) := by
  unfold World.var? at h
  rw [hg] at h
  simp only [Option.bind_some] at h
  split at h
  · rename_i cs' t fr heq
    injection h with h
    subst h
    exact ⟨t, fr, heq⟩
  · cases h

theorem find_at {l : List UInt8} {k : Nat} (hk : k < 16) (ha : ∀ j, j < k → (Lx.signsL.getD j []).isPrefixOf l = false) (h : (Lx.signsL.getD k []).isPrefixOf l = true) : Lx.sign? l = some (Lx.signsL.getD k []) := by
  unfold Lx.sign?
  have hkl : k < Lx.signsL.length := hk
  rw [List.find?_eq_some_iff_getElem]
  refine ⟨h, k, hkl, by simp [List.getD, hkl], fun j hj => ?_⟩
  have := ha j hj
  simp only [List.getD, List.getElem?_eq_getElem (show j < Lx.signsL.length by omega), Option.getD_some] at this
  rw [this]
  rfl
theorem find_no {l : List UInt8} (ha : ∀ j, j < 16 → (Lx.signsL.getD j []).isPrefixOf l = false) : Lx.sign? l = none := by
  unfold Lx.sign?
  rw [List.find?_eq_none]
  intro x hx
  obtain ⟨j, hj, rfl⟩ := List.mem_iff_getElem.1 hx
  have := ha j hj
  simp only [List.getD, List.getElem?_eq_getElem hj, Option.getD_some] at this
  rw [this]
  simp
set_option maxHeartbeats 4000000 in
set_option maxRecDepth 100000 in
theorem lex_sign {w : World} {cb : Nat} {s : ByteArray} {i : Nat} (hv : Env w) (h : Cur w cb s i) (hi : i ≤ s.size) :
    Calls Tryz.prog 56 #[.pointer (some ⟨cb, 0, none⟩)] w (RdP (signO ((bl s).drop i)) w) := by
  have HC := hid_ h
  have c0 : w.cell? ⟨cb, 0, none⟩ = some (.string s) := h.cell 0
  have c1 : w.cell? ⟨cb, 1, none⟩ = some (.int .i64 i) := h.cell 1
  have lt0 := h.lt
  have b0 : (0 : Int) ≤ (i : Int) := by omega
  have b1 : (i : Int) ≤ (s.size : Int) := by omega
  obtain ⟨tg, fr, hg⟩ := var_cells (P := Tryz.prog) (g := 0) (by kernel_rfl) hv.signs
  have hg2 : (w.alloc (Obj.cells #[Value.int IntKind.i64 0, Value.string { data := #[] }, Value.int IntKind.i64 0, Value.int IntKind.i64 0] 88)).heap[0]? = some (.cells (strV Lx.signsL) tg fr) := by
    have hb := (Below.refl w.heap.size w).alloc (Nat.le_refl _) (Obj.cells #[Value.int IntKind.i64 0, Value.string { data := #[] }, Value.int IntKind.i64 0, Value.int IntKind.i64 0] 88)
    rw [hb.block _ (by
      rcases Nat.lt_or_ge 0 w.heap.size with h1 | h1
      · exact h1
      · rw [Array.getElem?_eq_none h1] at hg; cases hg)]
    exact hg
  have HG := hid_ hg2
  have hx : bl (s.extract i s.size) = (bl s).drop i := by
    have := congrArg bl (extract_st s i s.size)
    rw [bl_st] at this
    rw [this, List.take_of_length_le (by rw [List.length_drop, bl_len]; exact Nat.le_refl _)]
  have HP := hid_ (show ∀ (k : Nat) W, Calls Tryz.prog 83 #[.string (s.extract i s.size), .string (st (Lx.signsL.getD k []))] W fun e w' => e = .returned (.bool (Lib.hasPrefix ((bl s).drop i) (Lx.signsL.getD k []))) ∧ w' = W from fun k W => by
    have := Tryz.strings_HasPrefix (s.extract i s.size) (st (Lx.signsL.getD k [])) W
    rw [show (s.extract i s.size).data.toList = (bl s).drop i from hx, show (st (Lx.signsL.getD k [])).data.toList = Lx.signsL.getD k [] from bl_st _] at this
    exact this)
  have HBs := hid_ (fun W => (fun k hk => sign_index k hk W))
  clear h hv hg hg2 hx
  go_enter Tryz.func56, Tryz.ntmps56
  have hg3 := HG.out
  go_wp2_with (refine wpList_load_row rfl 101 _ rfl 0 rfl tg _ fr _ hg3 Tryz.underlying101 rfl (by kernel_rfl) ?_)
  have HB0 := hid_ (Blk.new w 88 #[Value.int IntKind.i64 0, Value.string { data := #[] }, Value.int IntKind.i64 0, Value.int IntKind.i64 0])
  have Hb0 := hid_ ((Below.refl w.heap.size w).alloc (Nat.le_refl _) (Obj.cells #[Value.int IntKind.i64 0, Value.string { data := #[] }, Value.int IntKind.i64 0, Value.int IntKind.i64 0] 88))
  have c0' := below_cell Hb0.out c0
  have c1' := below_cell Hb0.out c1
  clear hg3 HG c0 c1
  generalize w.alloc (Obj.cells #[Value.int IntKind.i64 0, Value.string { data := #[] }, Value.int IntKind.i64 0, Value.int IntKind.i64 0] 88) = w1 at *
  go_loopw [8] (fun v wr => ∃ k nd : Nat, v = .int .i64 k ∧ k ≤ 16 ∧ wr = w1.drewN nd ∧ ∀ j, j < k → (Lx.signsL.getD j []).isPrefixOf ((bl s).drop i) = false) (fun v _ => 16 - (intOf v).toNat)
  case atStart => exact ⟨0, 0, rfl, by omega, rfl, fun _ h => by omega⟩
  case round =>
    obtain ⟨k, nd, rfl, hk, rfl, hall⟩ := hrel
    have HA := hid_ hall
    clear hall
    have HBd := hid_ (HB0.out.drewN nd)
    have Hbd := hid_ (bdrewN Hb0.out nd)
    by_cases hlt : k < 16
    · have k1 : (k : Int) < 16 := by omega
      have k0 : (0 : Int) ≤ (k : Int) := by omega
      have hix := HBs.out (w1.drewN nd) k hlt
      have HPk := hid_ (HP.out k)
      have HF := hid_ (fun h => find_at (l := (bl s).drop i) hlt HA.out h)
      have HN := hid_ (show Lib.hasPrefix ((bl s).drop i) (Lx.signsL.getD k []) = (Lx.signsL.getD k []).isPrefixOf ((bl s).drop i) from rfl)
      have hsz : (st (Lx.signsL.getD k [])).size = (Lx.signsL.getD k []).length := st_size _
      have HA2 := hid_ (show (Lx.signsL.getD k []).isPrefixOf ((bl s).drop i) = false → ∀ j, j < k + 1 → (Lx.signsL.getD j []).isPrefixOf ((bl s).drop i) = false from fun h j hj => by
        by_cases e : j = k
        · subst e; exact h
        · exact HA.out j (by omega))
      rw [HN.out] at HPk
      clear HN
      generalize hp : (Lx.signsL.getD k []).isPrefixOf ((bl s).drop i) = b at *
      generalize Lx.signsL.getD k [] = g at *
      have HSz := hid_ hsz
      clear hsz hp
      generalize hst : st g = tx at *
      have HSt := hid_ hst
      clear hst
      cases b with
      | true =>
        go_wp2
        go_quiet ((go_at_call 83; first | exact Calls.quiet_of_same (HPk.out _) | exact q_add_same (HPk.out _)))
        obtain ⟨e0, e1, e2, e3, g0, g1, g2, g3⟩ := word_cells (HB0.out.drewN (nd + nq))
        go_wp2
        refine bodyPost_ret (v := .tuple #[.agg #[.int .i64 6, .string tx, .int .i64 0, .int .i64 0], .int .i64 (tx.size : Int), .bool true]) (by simp [results, Tryz.results56, go_sem, e0, e1, e2, e3]) rfl ⟨6, tx, 0, _, _, rfl, fun r hr => ?_, fun hn => ?_, ?_⟩
        · unfold signO at hr
          rw [HF.out (by trivial)] at hr
          injection hr with hr
          subst hr
          exact ⟨rfl, rfl, HSt.out.symm, rfl, by have := HSz.out; show (tx.size : Int) = ((g.length : Nat) : Int); omega⟩
        · unfold signO at hn
          rw [HF.out (by trivial)] at hn
          cases hn
        · exact ((((bdrewN Hb0.out _).setCell (Nat.le_refl _) _).setCell (Nat.le_refl _) _).setCell (Nat.le_refl _) _).setCell (Nat.le_refl _) _
      | false =>
        go_wp2
        go_quiet ((go_at_call 83; first | exact Calls.quiet_of_same (HPk.out _) | exact q_add_same (HPk.out _)))
        go_wp2
        go_roundw
        case rel => exact ⟨k + 1, nd + nq, by go_num, by omega, (by first | rfl | exact dr_two _ _ _), HA2.out (by trivial)⟩
        case measure => simp [intOf]; omega
    · have k1 : ¬ (k : Int) < 16 := by omega
      have HF := hid_ (find_no (l := (bl s).drop i) (fun j hj => HA.out j (by omega)))
      obtain ⟨e0, e1, e2, e3, g0, g1, g2, g3⟩ := word_cells HBd.out
      go_wp2
      refine bodyPost_ret (v := .tuple #[.agg #[.int .i64 0, .string ⟨#[]⟩, .int .i64 0, .int .i64 0], .int .i64 0, .bool false]) (by simp [results, Tryz.results56, go_sem, e0, e1, e2, e3]) rfl ⟨0, ⟨#[]⟩, 0, _, _, rfl, fun r hr => ?_, fun _ => rfl, ?_⟩
      · unfold signO at hr
        rw [HF.out] at hr
        cases hr
      · exact (((Hbd.out.setCell (Nat.le_refl _) _).setCell (Nat.le_refl _) _).setCell (Nat.le_refl _) _).setCell (Nat.le_refl _) _
end Go.Proofs.YtmgjmagniefhoaaGreatDoor

/- Lex: the words of a text, plainly: what is left at a place. Conditions: those that each theorem names. -/
namespace Go.Proofs.YtmgjmagniefhoaaGreatDoor
open Go.RowKit Go.Maps

def mapOk (ws : List Lx.Wd) : Except Nat (List Lx.Wd) → Except Nat (List Lx.Wd)
  | .error e => .error e
  | .ok l => .ok (ws ++ l)
/-- The words ahead of place j are ws. -/
def CutR (s : ByteArray) (j : Nat) (ws : List Lx.Wd) : Prop := ∃ f, s.size - j < f ∧ Lx.cut (bl s) = mapOk ws (Lx.cutF s.size f ((bl s).drop j))
theorem cut_start (s : ByteArray) : CutR s 0 [] := by
  refine ⟨s.size + 1, by omega, ?_⟩
  unfold Lx.cut
  rw [bl_len, List.drop_zero]
  cases Lx.cutF s.size (s.size + 1) (bl s) <;> rfl
theorem skip_cons {s : ByteArray} {j i : Nat} (hi : skipTo s j = i) (hlt : i < s.size) : Lx.skip false ((bl s).drop j) = s[i] :: (bl s).drop (i + 1) := by
  rw [← skipTo_drop, hi, bl_drop s hlt]
theorem cut_end {s : ByteArray} {j : Nat} {ws : List Lx.Wd} (h : CutR s j ws) (he : skipTo s j = s.size) : Lx.cut (bl s) = .ok ws := by
  obtain ⟨f, hf, h⟩ := h
  have e : Lx.skip false ((bl s).drop j) = [] := by rw [← skipTo_drop, he, bl_end s (Nat.le_refl _)]
  cases f with
  | zero => omega
  | succ f =>
    rw [h, Lx.cutF, e]
    simp [mapOk]
theorem cut_err {s : ByteArray} {j i : Nat} {ws : List Lx.Wd} (h : CutR s j ws) (hi : skipTo s j = i) (hlt : i < s.size) (hw : Lx.word? ((bl s).drop i) = none) : Lx.cut (bl s) = .error i := by
  obtain ⟨f, hf, h⟩ := h
  have e := skip_cons hi hlt
  rw [bl_drop s hlt] at hw
  cases f with
  | zero => omega
  | succ f =>
    rw [h, Lx.cutF, e]
    simp only
    rw [hw]
    simp only [mapOk, List.length_cons, List.length_drop, bl_len]
    congr 1
    omega
theorem sign_len {l g : List UInt8} (h : Lx.sign? l = some g) : 1 ≤ g.length ∧ g.length ≤ l.length := by
  unfold Lx.sign? at h
  have h1 := List.find?_some h
  have h2 := List.mem_of_find?_eq_some h
  have h3 : ∀ x ∈ Lx.signsL, 1 ≤ x.length := by decide
  exact ⟨h3 g h2, (List.isPrefixOf_iff_prefix.1 h1).length_le⟩
theorem run_pos {l : List UInt8} (h : l.takeWhile Lx.goes ≠ []) : 1 ≤ (l.takeWhile Lx.goes).length := by
  cases hx : l.takeWhile Lx.goes with
  | nil => exact absurd hx h
  | cons a b => simp
theorem plain_some {l : List UInt8} {r : Int × List UInt8 × Int × Nat} (h : plainO l = some r) : l.takeWhile Lx.goes ≠ [] ∧ r.2.2.2 = (l.takeWhile Lx.goes).length := by
  unfold plainO at h
  simp only at h
  split at h
  · rename_i hk
    injection h with h
    subst h
    exact ⟨fun e => by rw [e] at hk; exact absurd hk (by decide), rfl⟩
  · split at h
    · rename_i hk
      injection h with h
      subst h
      exact ⟨fun e => by rw [e] at hk; exact absurd hk (by decide), rfl⟩
    · split at h
      · rename_i hk
        injection h with h
        subst h
        exact ⟨fun e => by rw [e] at hk; exact absurd hk (by decide), rfl⟩
      · split at h
        · rename_i hk
          injection h with h
          subst h
          exact ⟨fun e => by rw [e] at hk; exact absurd hk (by decide), rfl⟩
        · cases h
theorem takeWhile_le (p : UInt8 → Bool) (l : List UInt8) : (l.takeWhile p).length ≤ l.length := (List.takeWhile_prefix (p := p) (l := l)).length_le
/-- The word at a place, by the three readers. -/
theorem word_is (c : UInt8) (l : List UInt8) : Lx.word? (c :: l) = (signO (c :: l)).or ((tagO (c :: l)).or (plainO (c :: l))) := by
  unfold Lx.word? signO
  cases hs : Lx.sign? (c :: l) with
  | some g => rfl
  | none =>
    simp only [Option.map_none, Option.none_or]
    unfold tagO
    by_cases h39 : c = 39
    · subst h39
      have hp : plainO ((39 : UInt8) :: l) = none := by
        have e : ((39 : UInt8) :: l).takeWhile Lx.goes = [] := by rw [List.takeWhile_cons_of_neg (by decide)]
        unfold plainO
        rw [e]
        decide
      rw [hp]
      by_cases ht : Lx.tagged (l.takeWhile Lx.goes) = true
      · simp [ht]
      · simp [ht]
    · simp only [h39, if_false, false_and, Option.none_or]
      unfold plainO
      rfl
theorem word_len {c : UInt8} {l : List UInt8} {r : Int × List UInt8 × Int × Nat} (h : Lx.word? (c :: l) = some r) : 1 ≤ r.2.2.2 ∧ r.2.2.2 ≤ (c :: l).length := by
  rw [word_is] at h
  cases hs : signO (c :: l) with
  | some x =>
    rw [hs] at h
    simp only [Option.some_or, Option.some.injEq] at h
    subst h
    unfold signO at hs
    cases hg : Lx.sign? (c :: l) with
    | none => rw [hg] at hs; cases hs
    | some g =>
      rw [hg] at hs
      injection hs with hs
      subst hs
      exact sign_len hg
  | none =>
    rw [hs, Option.none_or] at h
    cases ht : tagO (c :: l) with
    | some x =>
      rw [ht] at h
      simp only [Option.some_or, Option.some.injEq] at h
      subst h
      simp only [tagO] at ht
      split at ht
      · injection ht with ht
        subst ht
        have := takeWhile_le Lx.goes l
        exact ⟨by simp, by simp; omega⟩
      · cases ht
    | none =>
      rw [ht, Option.none_or] at h
      obtain ⟨h1, h2⟩ := plain_some h
      rw [h2]
      exact ⟨run_pos h1, takeWhile_le _ _⟩
theorem cut_word {s : ByteArray} {j i : Nat} {ws : List Lx.Wd} {r : Int × List UInt8 × Int × Nat} (h : CutR s j ws) (hj : j ≤ s.size) (hi : skipTo s j = i) (hlt : i < s.size) (hw : Lx.word? ((bl s).drop i) = some r) :
    CutR s (i + r.2.2.2) (ws ++ [⟨r.1, r.2.1, r.2.2.1, i⟩]) ∧ i + r.2.2.2 ≤ s.size ∧ 1 ≤ r.2.2.2 := by
  obtain ⟨f, hf, h⟩ := h
  have hge := skipTo_ge s hj
  have e := skip_cons hi hlt
  have hw' := hw
  rw [bl_drop s hlt] at hw'
  obtain ⟨l1, l2⟩ := word_len hw'
  rw [List.length_cons, List.length_drop, bl_len] at l2
  obtain ⟨k, t, m, len⟩ := r
  simp only at l1 l2 ⊢
  refine ⟨?_, by omega, l1⟩
  cases f with
  | zero => omega
  | succ f =>
    refine ⟨f, by omega, ?_⟩
    rw [h, Lx.cutF, e]
    simp only
    rw [hw']
    simp only
    have e2 : (s[i] :: (bl s).drop (i + 1)).drop len = (bl s).drop (i + len) := by rw [← bl_drop s hlt, List.drop_drop]
    rw [e2]
    have e3 : ((s.size : Nat) - (s[i] :: (bl s).drop (i + 1)).length : Nat) = i := by rw [List.length_cons, List.length_drop, bl_len]; omega
    cases Lx.cutF s.size f ((bl s).drop (i + len)) with
    | error x => rfl
    | ok x =>
      simp only [mapOk]
      have e4 : ((s.size : Int) - ((s[i] :: (bl s).drop (i + 1)).length : Nat)) = (i : Int) := by rw [List.length_cons, List.length_drop, bl_len]; omega
      rw [e4]
      simp
end Go.Proofs.YtmgjmagniefhoaaGreatDoor

/- Plain laws of cutting: places, odd bytes, what is joined. No program is walked here. -/
namespace Go.Proofs.YtmgjmagniefhoaaGreatDoor
namespace Lx

/-- Are bytes blanks, or in remarks? -/
def blankB : Bool → Bs → Bool
  | _, [] => true
  | r, c :: l => (fun r2 => (r2 || decide (c = 32) || decide (c = 10)) && blankB r2 l) (decide (c = 35) || (r && !decide (c = 10)))
/-- A word as it stands in the text. -/
def shown (k : Int) (t : Bs) : Bs := if k = 4 then 39 :: t else t

theorem skip_blank : ∀ (r : Bool) (l : Bs), ∃ p, l = p ++ skip r l ∧ blankB r p = true
  | r, [] => ⟨[], by cases r <;> rfl, rfl⟩
  | true, c :: l => by
    by_cases h : c = 10
    · obtain ⟨p, h1, h2⟩ := skip_blank false l
      subst h
      refine ⟨10 :: p, ?_, ?_⟩
      · show 10 :: l = 10 :: (p ++ skip false l)
        rw [← h1]
      · simp [blankB, h2]
    · obtain ⟨p, h1, h2⟩ := skip_blank true l
      refine ⟨c :: p, ?_, ?_⟩
      · have e : skip true (c :: l) = skip true l := by show (if c = 10 then _ else _) = _; rw [if_neg h]
        rw [e, List.cons_append, ← h1]
      · simp [blankB, h, h2]
  | false, c :: l => by
    by_cases h : c = 32 ∨ c = 10
    · obtain ⟨p, h1, h2⟩ := skip_blank false l
      have h35 : c ≠ 35 := by rintro rfl; rcases h with h | h <;> exact absurd h (by decide)
      refine ⟨c :: p, ?_, ?_⟩
      · have e : skip false (c :: l) = skip false l := by show (if _ then _ else _) = _; rw [if_pos h]
        rw [e, List.cons_append, ← h1]
      · rcases h with rfl | rfl <;> simp [blankB, h2]
    · by_cases h2 : c = 35
      · obtain ⟨p, h3, h4⟩ := skip_blank true l
        subst h2
        refine ⟨35 :: p, ?_, ?_⟩
        · show 35 :: l = 35 :: (p ++ skip true l)
          rw [← h3]
        · simp [blankB, h4]
      · refine ⟨[], ?_, rfl⟩
        show c :: l = (if _ then _ else if _ then _ else _)
        rw [if_neg h, if_neg h2]

theorem sign_take {l g : Bs} (h : sign? l = some g) : l.take g.length = g ∧ g ≠ [] ∧ g.length ≤ l.length := by
  obtain ⟨h1, h2⟩ := sign_len h
  have h3 : g.isPrefixOf l = true := List.find?_some (p := fun g => List.isPrefixOf g l) h
  rw [List.isPrefixOf_iff_prefix] at h3
  refine ⟨(List.prefix_iff_eq_take.1 h3).symm, ?_, h2⟩
  rintro rfl
  simp at h1
theorem takeWhile_take (p : UInt8 → Bool) (l : Bs) : l.take (l.takeWhile p).length = l.takeWhile p := (List.prefix_iff_eq_take.1 (List.takeWhile_prefix p)).symm
theorem tagged_ne {t : Bs} (h : tagged t = true) : t ≠ [] := by rintro rfl; cases h
theorem isKey_ne {t : Bs} (h : isKey t = true) : t ≠ [] := by rintro rfl; exact absurd h (by decide)
theorem isType_ne {t : Bs} (h : isType t = true) : t ≠ [] := by rintro rfl; cases h
theorem isName_tagged {t : Bs} (h : isName t = true) : tagged t = true := by unfold isName at h; rw [Bool.and_eq_true] at h; exact h.1
theorem number_ne {t : Bs} (h : 0 ≤ number t) : t ≠ [] := by rintro rfl; exact absurd h (by decide)
/-- What a word is, of the text. -/
theorem word_take {l t : Bs} {k m : Int} {len : Nat} (h : word? l = some (k, t, m, len)) : l.take len = shown k t ∧ len = (shown k t).length ∧ t ≠ [] ∧ len ≤ l.length := by
  unfold word? at h
  cases hs : sign? l with
  | some g =>
    rw [hs] at h
    obtain ⟨rfl, rfl, rfl, rfl⟩ : (6 : Int) = k ∧ g = t ∧ (0 : Int) = m ∧ g.length = len := by simpa using h
    obtain ⟨h1, h2, h3⟩ := sign_take hs
    exact ⟨h1, rfl, h2, h3⟩
  | none =>
    rw [hs] at h
    cases l with
    | nil => cases h
    | cons c l =>
      dsimp only at h
      split at h
      · rename_i hc
        subst hc
        split at h
        · rename_i ht
          obtain ⟨rfl, rfl, rfl, rfl⟩ : (4 : Int) = k ∧ l.takeWhile goes = t ∧ (0 : Int) = m ∧ (l.takeWhile goes).length + 1 = len := by simpa using h
          refine ⟨?_, rfl, tagged_ne ht, ?_⟩
          · rw [List.take_succ_cons, takeWhile_take]; rfl
          · have := takeWhile_le goes l
            simp only [List.length_cons]
            omega
        · cases h
      · have key : ∀ (k' m' : Int), k' ≠ 4 → (c :: l).takeWhile goes ≠ [] → (k', (c :: l).takeWhile goes, m', ((c :: l).takeWhile goes).length) = (k, t, m, len) → (c :: l).take len = shown k t ∧ len = (shown k t).length ∧ t ≠ [] ∧ len ≤ (c :: l).length := by
          intro k' m' hk hne e
          obtain ⟨rfl, rfl, rfl, rfl⟩ : k' = k ∧ (c :: l).takeWhile goes = t ∧ m' = m ∧ ((c :: l).takeWhile goes).length = len := by simpa using e
          have e2 : shown k' ((c :: l).takeWhile goes) = (c :: l).takeWhile goes := if_neg hk
          rw [e2]
          exact ⟨takeWhile_take _ _, rfl, hne, takeWhile_le _ _⟩
        split at h
        · rename_i hk
          exact key 5 0 (by decide) (isKey_ne hk) (Option.some.inj h)
        · split at h
          · rename_i hk
            exact key 1 0 (by decide) (tagged_ne (isName_tagged hk)) (Option.some.inj h)
          · split at h
            · rename_i hk
              exact key 2 0 (by decide) (isType_ne hk) (Option.some.inj h)
            · split at h
              · rename_i hk
                exact key 3 _ (by decide) (number_ne hk) (Option.some.inj h)
              · cases h

/-- Words at their places: what LexPlaces asks, from a place on. -/
def Places (L : Bs) : Nat → List Wd → Prop
  | a, [] => blankB false (L.drop a) = true
  | a, x :: ws => ∃ p : Nat, x.pos = p ∧ a ≤ p ∧ x.text ≠ [] ∧ p + (shown x.kind x.text).length ≤ L.length ∧ (L.drop p).take (shown x.kind x.text).length = shown x.kind x.text ∧ blankB false ((L.drop a).take (p - a)) = true ∧ Places L (p + (shown x.kind x.text).length) ws
theorem cutF_places (L : Bs) : ∀ (f : Nat) (a : Nat) (ws : List Wd), a ≤ L.length → L.length - a < f → cutF L.length f (L.drop a) = .ok ws → Places L a ws
  | 0, a, ws, _, h, _ => absurd h (Nat.not_lt_zero _)
  | f + 1, a, ws, ha, hf, h => by
    unfold cutF at h
    obtain ⟨p, hp1, hp2⟩ := skip_blank false (L.drop a)
    split at h
    · rename_i hs
      injection h with h
      subst h
      rw [hs, List.append_nil] at hp1
      show blankB false (L.drop a) = true
      rw [hp1]
      exact hp2
    · rename_i c r hs
      split at h
      · cases h
      · rename_i k t m len hw
        split at h
        · cases h
        · rename_i ws' hc
          injection h with h
          subst h
          obtain ⟨w1, w2, w3, w4⟩ := word_take hw
          rw [hs] at hp1
          have hl : (L.drop a).length = p.length + (c :: r).length := by rw [hp1, List.length_append]
          rw [List.length_drop] at hl
          have e1 : L.length - (c :: r).length = a + p.length := by omega
          have e2 : L.drop (a + p.length) = c :: r := by
            rw [← List.drop_drop, hp1, List.drop_left]
          have e3 : a + p.length - a = p.length := by omega
          have hlen1 : 1 ≤ (shown k t).length := by
            unfold shown
            cases t with
            | nil => exact absurd rfl w3
            | cons _ _ => split <;> simp
          have hcr : (c :: r).length = L.length - (a + p.length) := by rw [← e2, List.length_drop]
          refine ⟨a + p.length, (by show (L.length : Int) - ((c :: r).length : Int) = _; omega), by omega, w3, ?_, ?_, ?_, ?_⟩
          · show a + p.length + (shown k t).length ≤ L.length
            rw [← w2]
            omega
          · show (L.drop (a + p.length)).take (shown k t).length = shown k t
            rw [e2, ← w2]
            exact w1
          · rw [e3, hp1, List.take_left]
            exact hp2
          · show Places L (a + p.length + (shown k t).length) ws'
            rw [← e2, List.drop_drop, w2] at hc
            exact cutF_places L f _ _ (by omega) (by omega) hc
theorem cut_places {L : Bs} {ws : List Wd} (h : cut L = .ok ws) : Places L 0 ws := cutF_places L _ 0 ws (Nat.zero_le _) (by omega) h
/-- Where an error is. -/
theorem cutF_err : ∀ (n f : Nat) (l : Bs) (e : Nat), 0 < n → l.length ≤ n → cutF n f l = .error e → e < n
  | _, 0, _, _, _, _, h => by cases h
  | n, f + 1, l, e, hn, hl, h => by
    unfold cutF at h
    obtain ⟨p, hp1, _⟩ := skip_blank false l
    split at h
    · cases h
    · rename_i c r hs
      rw [hs] at hp1
      have hlen : l.length = p.length + (c :: r).length := by rw [hp1, List.length_append]
      split at h
      · injection h with h
        subst h
        simp only [List.length_cons] at *
        omega
      · split at h
        · rename_i he
          injection h with h
          subst h
          exact cutF_err n f _ _ hn (by rw [List.length_drop]; omega) he
        · cases h
theorem cut_err_lt {L : Bs} {e : Nat} (h : cut L = .error e) : e < L.length := by
  cases L with
  | nil => cases h
  | cons c l => exact cutF_err _ _ _ _ (by simp) (Nat.le_refl _) h

/-- A byte that stands in no word. -/
structure Odd (o : UInt8) : Prop where
  n32 : o ≠ 32
  n10 : o ≠ 10
  n35 : o ≠ 35
  n39 : o ≠ 39
  ng : goes o = false
  ns : ∀ g ∈ signsL, o ∉ g
theorem skip_odd {o : UInt8} (ho : Odd o) (R : Bs) : ∀ P : Bs, 35 ∉ P → ∃ Q, skip false (P ++ o :: R) = Q ++ o :: R ∧ Q.length ≤ P.length ∧ 35 ∉ Q
  | [], _ => ⟨[], by
    show (if _ then _ else if _ then _ else _) = _
    rw [if_neg (fun h => h.elim ho.n32 ho.n10), if_neg ho.n35]
    rfl, Nat.le_refl _, by simp⟩
  | c :: P, hP => by
    simp only [List.mem_cons, not_or] at hP
    by_cases h : c = 32 ∨ c = 10
    · obtain ⟨Q, h1, h2, h3⟩ := skip_odd ho R P hP.2
      refine ⟨Q, ?_, by simp only [List.length_cons]; omega, h3⟩
      show (if _ then _ else _) = _
      rw [if_pos h]
      exact h1
    · refine ⟨c :: P, ?_, Nat.le_refl _, by simp only [List.mem_cons, not_or]; exact hP⟩
      show (if _ then _ else if _ then _ else _) = _
      rw [if_neg h, if_neg (fun e => hP.1 e.symm)]
      rfl
theorem run_odd {p : UInt8 → Bool} {o : UInt8} (ho : p o = false) (R : Bs) : ∀ P : Bs, ((P ++ o :: R).takeWhile p).length ≤ P.length
  | [] => by simp [ho]
  | c :: P => by
    rw [List.cons_append]
    by_cases h : p c = true
    · rw [List.takeWhile_cons_of_pos h]
      have := run_odd ho R P
      simp only [List.length_cons]
      omega
    · rw [List.takeWhile_cons_of_neg h]
      simp
theorem word_odd {o : UInt8} (ho : Odd o) (R P : Bs) {k m : Int} {t : Bs} {len : Nat} (h : word? (P ++ o :: R) = some (k, t, m, len)) : len ≤ P.length := by
  obtain ⟨w1, w2, w3, w4⟩ := word_take h
  have e := h
  unfold word? at e
  cases hs : sign? (P ++ o :: R) with
  | some g =>
    rw [hs] at e
    obtain ⟨rfl, rfl, rfl, rfl⟩ : (6 : Int) = k ∧ g = t ∧ (0 : Int) = m ∧ g.length = len := by simpa using e
    rcases Nat.lt_or_ge P.length g.length with hlt | hge
    · exfalso
      have hm : o ∈ g := by
        have h5 : g[P.length]? = some o := by
          have h6 := congrArg (·[P.length]?) (sign_take hs).1
          simp only [List.getElem?_take, hlt, if_true, List.getElem?_append_right (Nat.le_refl _), Nat.sub_self, List.getElem?_cons_zero] at h6
          exact h6.symm
        exact List.mem_of_getElem? h5
      exact ho.ns g (List.mem_of_find?_eq_some hs) hm
    · exact hge
  | none =>
    rw [hs] at e
    cases P with
    | nil =>
      have h0 : ([] ++ o :: R : Bs).takeWhile goes = [] := by
        show (o :: R).takeWhile goes = []
        rw [List.takeWhile_cons_of_neg (by rw [ho.ng]; decide)]
      simp only [List.nil_append] at e h0
      rw [if_neg ho.n39, h0] at e
      have e' : (none : Option (Int × Bs × Int × Nat)) = some (k, t, m, len) := e
      cases e'
    | cons c P =>
      simp only [List.cons_append] at e
      have hr := run_odd ho.ng R P
      have hr2 := run_odd ho.ng R (c :: P)
      rw [List.cons_append] at hr2
      split at e
      · split at e
        · obtain ⟨_, _, _, rfl⟩ : (4 : Int) = k ∧ (P ++ o :: R).takeWhile goes = t ∧ (0 : Int) = m ∧ ((P ++ o :: R).takeWhile goes).length + 1 = len := by simpa using e
          simp only [List.length_cons]
          omega
        · cases e
      · have key : ∀ (k' m' : Int), (k', (c :: (P ++ o :: R)).takeWhile goes, m', ((c :: (P ++ o :: R)).takeWhile goes).length) = (k, t, m, len) → len ≤ (c :: P).length := by
          intro k' m' e
          have : ((c :: (P ++ o :: R)).takeWhile goes).length = len := by
            have := congrArg (fun x : Int × Bs × Int × Nat => x.2.2.2) e
            exact this
          omega
        repeat' split at e
        all_goals first | exact key _ _ (Option.some.inj e) | cases e
/-- An odd byte is told at its place, or ahead. -/
theorem cutF_odd {o : UInt8} (ho : Odd o) (R : Bs) (n : Nat) : ∀ (f : Nat) (P : Bs), 35 ∉ P → P.length < f → (P ++ o :: R).length ≤ n → ∃ a, cutF n f (P ++ o :: R) = .error a ∧ a + R.length + 1 ≤ n
  | 0, _, _, h, _ => absurd h (Nat.not_lt_zero _)
  | f + 1, P, h35, hf, hn => by
    obtain ⟨Q, q1, q2, q3⟩ := skip_odd ho R P h35
    unfold cutF
    rw [q1]
    obtain ⟨c, r, hcr⟩ : ∃ c r, Q ++ o :: R = c :: r := by
      cases Q with
      | nil => exact ⟨_, _, rfl⟩
      | cons c Q => exact ⟨_, _, rfl⟩
    have hl : (c :: r).length = Q.length + R.length + 1 := by rw [← hcr]; simp; omega
    have hn2 : P.length + R.length + 1 ≤ n := by simp at hn; omega
    simp only [hcr]
    cases hw : word? (c :: r) with
    | none => exact ⟨_, rfl, by rw [hl]; omega⟩
    | some x =>
      obtain ⟨k, t, m, len⟩ := x
      have hw2 := hw
      rw [← hcr] at hw2
      have hle := word_odd ho R Q hw2
      obtain ⟨_, w2, w3, _⟩ := word_take hw
      have h1 : 1 ≤ len := by
        rw [w2]
        unfold shown
        cases t with
        | nil => exact absurd rfl w3
        | cons _ _ => split <;> simp
      have e : (c :: r).drop len = Q.drop len ++ o :: R := by
        rw [← hcr, List.drop_append_of_le_length hle]
      dsimp only
      rw [e]
      obtain ⟨a, a1, a2⟩ := cutF_odd ho R n f (Q.drop len) (fun h => q3 (List.mem_of_mem_drop h)) (by rw [List.length_drop]; omega) (by simp only [List.length_append, List.length_drop, List.length_cons]; omega)
      rw [a1]
      exact ⟨a, rfl, a2⟩
theorem cut_odd {o : UInt8} (ho : Odd o) (P R : Bs) (h : 35 ∉ P) : ∃ a, cut (P ++ o :: R) = .error a ∧ a ≤ P.length := by
  obtain ⟨a, a1, a2⟩ := cutF_odd ho R (P ++ o :: R).length ((P ++ o :: R).length + 1) P h (by simp; omega) (Nat.le_refl _)
  exact ⟨a, a1, by simp at a2; omega⟩
end Lx
end Go.Proofs.YtmgjmagniefhoaaGreatDoor
