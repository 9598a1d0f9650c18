/- Lex: sign. Conditions: those that each theorem names. -/
import Derived.Test.YtmpdobpnnejmmaaDoorLj
namespace Go.Proofs.YtmpdobpnnejmmaaDoor
open Go.RowKit Go.Maps

theorem sign_index (k : Nat) (hk : k < 16) (W : World) : (Instr.index 60 (.agg (strV Lx.signsL)) (.int .i64 k)).run Tryd.prog W = .ok (.string (st (Lx.signsL.getD k []))) W := by
  rcases (by omega : k = 0 ∨ k = 1 ∨ k = 2 ∨ k = 3 ∨ k = 4 ∨ k = 5 ∨ k = 6 ∨ k = 7 ∨ k = 8 ∨ k = 9 ∨ k = 10 ∨ k = 11 ∨ k = 12 ∨ k = 13 ∨ k = 14 ∨ k = 15) with rfl | rfl | rfl | rfl | rfl | rfl | rfl | rfl | rfl | rfl | rfl | rfl | rfl | rfl | rfl | rfl <;> kernel_rfl
theorem var_cells {P : Program} {w : World} {n : String} {g : Nat} {cs : Array Value} (hg : P.globalNamed n = some g) (h : w.var? P n = some cs) : ∃ t fr, w.heap[g]? = some (.cells cs t fr) := by
  unfold World.var? at h
  rw [hg] at h
  simp only [Option.bind_some] at h
  split at h
  · rename_i cs' t fr heq
    injection h with h
    subst h
    exact ⟨t, fr, heq⟩
  · cases h

theorem find_at {l : List UInt8} {k : Nat} (hk : k < 16) (ha : ∀ j, j < k → (Lx.signsL.getD j []).isPrefixOf l = false) (h : (Lx.signsL.getD k []).isPrefixOf l = true) : Lx.sign? l = some (Lx.signsL.getD k []) := by
  unfold Lx.sign?
  have hkl : k < Lx.signsL.length := hk
  rw [List.find?_eq_some_iff_getElem]
  refine ⟨h, k, hkl, by simp [List.getD, hkl], fun j hj => ?_⟩
  have := ha j hj
  simp only [List.getD, List.getElem?_eq_getElem (show j < Lx.signsL.length by omega), Option.getD_some] at this
  rw [this]
  rfl
theorem find_no {l : List UInt8} (ha : ∀ j, j < 16 → (Lx.signsL.getD j []).isPrefixOf l = false) : Lx.sign? l = none := by
  unfold Lx.sign?
  rw [List.find?_eq_none]
  intro x hx
  obtain ⟨j, hj, rfl⟩ := List.mem_iff_getElem.1 hx
  have := ha j hj
  simp only [List.getD, List.getElem?_eq_getElem hj, Option.getD_some] at this
  rw [this]
  simp
set_option maxHeartbeats 4000000 in
set_option maxRecDepth 100000 in
theorem lex_sign {w : World} {cb : Nat} {s : ByteArray} {i : Nat} (hv : Env w) (h : Cur w cb s i) (hi : i ≤ s.size) :
    Calls Tryd.prog 25 #[.pointer (some ⟨cb, 0, none⟩)] w (RdP (signO ((bl s).drop i)) w) := by
  have HC := hid_ h
  have c0 : w.cell? ⟨cb, 0, none⟩ = some (.string s) := h.cell 0
  have c1 : w.cell? ⟨cb, 1, none⟩ = some (.int .i64 i) := h.cell 1
  have lt0 := h.lt
  have b0 : (0 : Int) ≤ (i : Int) := by omega
  have b1 : (i : Int) ≤ (s.size : Int) := by omega
  obtain ⟨tg, fr, hg⟩ := var_cells (P := Tryd.prog) (g := 1) (by kernel_rfl) hv.signs
  have hg2 : (w.alloc (Obj.cells #[Value.int IntKind.i64 0, Value.string { data := #[] }, Value.int IntKind.i64 0, Value.int IntKind.i64 0] 30)).heap[1]? = some (.cells (strV Lx.signsL) tg fr) := by
    have hb := (Below.refl w.heap.size w).alloc (Nat.le_refl _) (Obj.cells #[Value.int IntKind.i64 0, Value.string { data := #[] }, Value.int IntKind.i64 0, Value.int IntKind.i64 0] 30)
    rw [hb.block _ (by
      rcases Nat.lt_or_ge 1 w.heap.size with h1 | h1
      · exact h1
      · rw [Array.getElem?_eq_none h1] at hg; cases hg)]
    exact hg
  have HG := hid_ hg2
  have hx : bl (s.extract i s.size) = (bl s).drop i := by
    have := congrArg bl (extract_st s i s.size)
    rw [bl_st] at this
    rw [this, List.take_of_length_le (by rw [List.length_drop, bl_len]; exact Nat.le_refl _)]
  have HP := hid_ (show ∀ (k : Nat) W, Calls Tryd.prog 45 #[.string (s.extract i s.size), .string (st (Lx.signsL.getD k []))] W fun e w' => e = .returned (.bool (Lib.hasPrefix ((bl s).drop i) (Lx.signsL.getD k []))) ∧ w' = W from fun k W => by
    have := Tryd.strings_HasPrefix (s.extract i s.size) (st (Lx.signsL.getD k [])) W
    rw [show (s.extract i s.size).data.toList = (bl s).drop i from hx, show (st (Lx.signsL.getD k [])).data.toList = Lx.signsL.getD k [] from bl_st _] at this
    exact this)
  have HBs := hid_ (fun W => (fun k hk => sign_index k hk W))
  clear h hv hg hg2 hx
  go_enter Tryd.func25, Tryd.ntmps25
  have hg3 := HG.out
  go_wp2_with (refine wpList_load_row rfl 60 _ rfl 1 rfl tg _ fr _ hg3 Tryd.underlying60 rfl (by kernel_rfl) ?_)
  have HB0 := hid_ (Blk.new w 30 #[Value.int IntKind.i64 0, Value.string { data := #[] }, Value.int IntKind.i64 0, Value.int IntKind.i64 0])
  have Hb0 := hid_ ((Below.refl w.heap.size w).alloc (Nat.le_refl _) (Obj.cells #[Value.int IntKind.i64 0, Value.string { data := #[] }, Value.int IntKind.i64 0, Value.int IntKind.i64 0] 30))
  have c0' := below_cell Hb0.out c0
  have c1' := below_cell Hb0.out c1
  clear hg3 HG c0 c1
  generalize w.alloc (Obj.cells #[Value.int IntKind.i64 0, Value.string { data := #[] }, Value.int IntKind.i64 0, Value.int IntKind.i64 0] 30) = w1 at *
  go_loopw [8] (fun v wr => ∃ k nd : Nat, v = .int .i64 k ∧ k ≤ 16 ∧ wr = w1.drewN nd ∧ ∀ j, j < k → (Lx.signsL.getD j []).isPrefixOf ((bl s).drop i) = false) (fun v _ => 16 - (intOf v).toNat)
  case atStart => exact ⟨0, 0, rfl, by omega, rfl, fun _ h => by omega⟩
  case round =>
    obtain ⟨k, nd, rfl, hk, rfl, hall⟩ := hrel
    have HA := hid_ hall
    clear hall
    have HBd := hid_ (HB0.out.drewN nd)
    have Hbd := hid_ (bdrewN Hb0.out nd)
    by_cases hlt : k < 16
    · have k1 : (k : Int) < 16 := by omega
      have k0 : (0 : Int) ≤ (k : Int) := by omega
      have hix := HBs.out (w1.drewN nd) k hlt
      have HPk := hid_ (HP.out k)
      have HF := hid_ (fun h => find_at (l := (bl s).drop i) hlt HA.out h)
      have HN := hid_ (show Lib.hasPrefix ((bl s).drop i) (Lx.signsL.getD k []) = (Lx.signsL.getD k []).isPrefixOf ((bl s).drop i) from rfl)
      have hsz : (st (Lx.signsL.getD k [])).size = (Lx.signsL.getD k []).length := st_size _
      have HA2 := hid_ (show (Lx.signsL.getD k []).isPrefixOf ((bl s).drop i) = false → ∀ j, j < k + 1 → (Lx.signsL.getD j []).isPrefixOf ((bl s).drop i) = false from fun h j hj => by
        by_cases e : j = k
        · subst e; exact h
        · exact HA.out j (by omega))
      rw [HN.out] at HPk
      clear HN
      generalize hp : (Lx.signsL.getD k []).isPrefixOf ((bl s).drop i) = b at *
      generalize Lx.signsL.getD k [] = g at *
      have HSz := hid_ hsz
      clear hsz hp
      generalize hst : st g = tx at *
      have HSt := hid_ hst
      clear hst
      cases b with
      | true =>
        go_wp2
        go_quiet ((go_at_call 45; first | exact Calls.quiet_of_same (HPk.out _) | exact q_add_same (HPk.out _)))
        obtain ⟨e0, e1, e2, e3, g0, g1, g2, g3⟩ := word_cells (HB0.out.drewN (nd + nq))
        go_wp2
        refine bodyPost_ret (v := .tuple #[.agg #[.int .i64 6, .string tx, .int .i64 0, .int .i64 0], .int .i64 (tx.size : Int), .bool true]) (by simp [results, Tryd.results25, go_sem, e0, e1, e2, e3]) rfl ⟨6, tx, 0, _, _, rfl, fun r hr => ?_, fun hn => ?_, ?_⟩
        · unfold signO at hr
          rw [HF.out (by trivial)] at hr
          injection hr with hr
          subst hr
          exact ⟨rfl, rfl, HSt.out.symm, rfl, by have := HSz.out; show (tx.size : Int) = ((g.length : Nat) : Int); omega⟩
        · unfold signO at hn
          rw [HF.out (by trivial)] at hn
          cases hn
        · exact ((((bdrewN Hb0.out _).setCell (Nat.le_refl _) _).setCell (Nat.le_refl _) _).setCell (Nat.le_refl _) _).setCell (Nat.le_refl _) _
      | false =>
        go_wp2
        go_quiet ((go_at_call 45; first | exact Calls.quiet_of_same (HPk.out _) | exact q_add_same (HPk.out _)))
        go_wp2
        go_roundw
        case rel => exact ⟨k + 1, nd + nq, by go_num, by omega, (by first | rfl | exact dr_two _ _ _), HA2.out (by trivial)⟩
        case measure => simp [intOf]; omega
    · have k1 : ¬ (k : Int) < 16 := by omega
      have HF := hid_ (find_no (l := (bl s).drop i) (fun j hj => HA.out j (by omega)))
      obtain ⟨e0, e1, e2, e3, g0, g1, g2, g3⟩ := word_cells HBd.out
      go_wp2
      refine bodyPost_ret (v := .tuple #[.agg #[.int .i64 0, .string ⟨#[]⟩, .int .i64 0, .int .i64 0], .int .i64 0, .bool false]) (by simp [results, Tryd.results25, go_sem, e0, e1, e2, e3]) rfl ⟨0, ⟨#[]⟩, 0, _, _, rfl, fun r hr => ?_, fun _ => rfl, ?_⟩
      · unfold signO at hr
        rw [HF.out] at hr
        cases hr
      · exact (((Hbd.out.setCell (Nat.le_refl _) _).setCell (Nat.le_refl _) _).setCell (Nat.le_refl _) _).setCell (Nat.le_refl _) _
end Go.Proofs.YtmpdobpnnejmmaaDoor
