/- ordered: walked. Conditions: those that each theorem names. -/
import Derived.Test.YtmgjmagniefhoaaGreatDoorAb06
namespace Go.Proofs.YtmgjmagniefhoaaGreatDoor
open Go.RowKit Go.Maps
theorem made_ints (n : Nat) : (madeCells (Value.int .i64 0).cells (n * 1)).toList = ints (Tr.cnt [] n) := by
  rw [Tr.cnt_nil, Nat.mul_one]
  unfold ints madeCells
  rw [List.map_replicate]
  apply List.ext_getElem
  · simp
  · intro i h1 h2
    simp [Value.cells, Nat.mod_one]
theorem rootFs_ge : ∀ l : List Tr.Fd, l.length ≤ (Tr.rootFs l).length
  | [] => Nat.le_refl _
  | x :: l => by
    have := rootFs_ge l
    have e : Tr.rootFs (x :: l) = Tr.rootF x ++ Tr.rootFs l := List.flatMap_cons
    rw [e, List.length_append, List.length_cons]
    have : 1 ≤ (Tr.rootF x).length := by unfold Tr.rootF; simp only [List.length_append, List.length_cons]; omega
    omega
section
variable {w w0 W W1 W' : World}
theorem OrS.init {bx n : Nat} {cs : Array Value} {W2 : World} (hbel : Below w0.heap.size w0 W) (hb : Blk W bx 31 cs) (hbase : w0.heap.size ≤ W.heap.size)
    (hown : W1.ownsRow w0.heap.size 3 1 (.slice (some ⟨W.heap.size, 0, none⟩) n n) n (madeCells (Value.int .i64 0).cells (n * 1)).toList) (hg : W.grownBy W1 none) (h2 : W2 = W1.alloc (.cells #[] 3)) :
    OrS w0 W2 bx W.heap.size cs n (Tr.cnt [] n) (.slice (some ⟨W1.heap.size, 0, none⟩) 0 0) [] := by
  subst h2
  have hk : Kp (fun _ => False) W W1 := (Kp.of_below (Below.refl W.heap.size W) _).grown hg (fun q hq => by cases hq)
  have hk2 : Kp (fun _ => False) W (W1.alloc (.cells #[] 3)) := hk.trans (Kp.of_below (below_alloc W1 _) _) (fun _ hq => False.elim hq)
  rw [made_ints] at hown
  have hW1 : W.heap.size < W1.heap.size := own_lt hown (k := W.heap.size) rfl
  refine ⟨hbel.trans (hk2.toBelow hbase (fun _ _ e => e)), hb.kp hk2 (fun e => e), own_kp hown (Kp.of_below (below_alloc W1 _) (fun _ => False)) (fun _ _ e => e), ?_, fun e => ?_, Tr.cnt_len _ _⟩
  · exact ⟨by simp [ints], .inr ⟨W1.heap.size, 0, #[], rfl, by omega, heap_alloc_new W1 _, Nat.le_refl _, by unfold maxLen; omega, rfl, rfl⟩⟩
  · injection e with e
    have e : W1.heap.size = W.heap.size := e
    omega
end
set_option maxHeartbeats 16000000 in
set_option maxRecDepth 100000 in
theorem ordered_c {w : World} {mv : Value} {m : Tr.Md} (hm : ModAt w mv m) (hl : Tr.Lo m.nodes (Tr.roots m)) : Calls Tryz.prog 12 #[mv] w fun e w' => e = .returned (.bool true) ∧ Below w.heap.size w w' := by
  obtain ⟨Ai, ci, At, ct, Af, cf, An, cn, rfl, ho⟩ := hm.open
  obtain ⟨i0, hi0, hz0, hz1, hz2⟩ := info_parts Tryz.infoI
  have hnf := hl.few
  have htl : m.types.length ≤ 4000 := by
    have := hl.pre_few (Tr.roots_ty m m.types.length)
    rw [List.take_length] at this
    simpa [Tr.tysV] using this
  have hfl : m.fns.length ≤ 4000 := by
    have h1 := hl.roots_few
    have h2 := rootFs_ge m.fns
    unfold Tr.roots at h1
    rw [List.length_append] at h1
    omega
  have HO := hid_ ho
  have HL := hid_ hl
  have HBx := hid_ (Blk.new w 31 #[.string (st m.name), .slice Ai m.imports.length ci, .slice At m.types.length ct, .slice Af m.fns.length cf, .slice An m.nodes.length cn])
  have HB0 := hid_ (below_alloc w (.cells #[.string (st m.name), .slice Ai m.imports.length ci, .slice At m.types.length ct, .slice Af m.fns.length cf, .slice An m.nodes.length cn] 31))
  clear ho hl hm
  go_enter Tryz.func12, Tryz.ntmps12
  go_upto_region 1 with fail
  generalize w.alloc (.cells #[.string (st m.name), .slice Ai m.imports.length ci, .slice At m.types.length ct, .slice Af m.fns.length cf, .slice An m.nodes.length cn] 31) = W0 at *
  have n4 : W0.cell? ⟨w.heap.size, 4, none⟩ = some (.slice An m.nodes.length cn) := HBx.out.cell 4
  go_wp2_with (first | (at_make; go_loud (refine wpList_make_full _ rfl _ _ 22 rfl w.heap.size 3 i0 (.int .i64 0) 1 Tryz.underlying22 hi0 hz0 hz1 .i64 .i64 (m.nodes.length : Int) (m.nodes.length : Int) m.nodes.length rfl rfl rfl rfl (by rw [hz2]; omega) (by unfold maxLen; omega) HB0.out.size ?_); intro w1 hown hgrow))
  have HS := hid_ (OrS.init HB0.out HBx.out HB0.out.size hown hgrow rfl)
  clear hown hgrow n4
  generalize W0.heap.size = hb at *
  generalize w1.alloc (.cells #[] 3) = W2 at *
  generalize w1.heap.size = rb at *
  clear HB0 HBx
  go_loopg [4, 5] (m.types.length + 1) (fun g v4 v5 wr => ∃ i : Nat, v5 = .int .i64 i ∧ i ≤ m.types.length ∧ OrS w wr w.heap.size hb #[.string (st m.name), .slice Ai m.imports.length ci, .slice At m.types.length ct, .slice Af m.fns.length cf, .slice An m.nodes.length cn] m.nodes.length (Tr.cnt [] m.nodes.length) v4 (Tr.tysV (m.types.take i)) ∧ m.types.length - i + 1 ≤ g)
  case atStart => exact ⟨0, rfl, by omega, HS.out, by omega⟩
  case round =>
    obtain ⟨i, rfl, hi, hs, hg⟩ := hrel
    have HS1 := hid_ hs
    obtain ⟨B, d, rfl⟩ := own_form hs.row
    clear hs
    have c2 : wr.cell? ⟨w.heap.size, 2, none⟩ = some (.slice At m.types.length ct) := HS1.out.box.cell 2
    by_cases hlt : i < m.types.length
    · have b0 : (0 : Int) ≤ (i : Int) := by omega
      have b1 : (i : Int) < (m.types.length : Int) := by omega
      obtain ⟨b, off, hAt, _, t1⟩ := (HO.out.below HS1.out.bel).ty i hlt
      have hpf := HL.out.pre_few (Tr.roots_ty m i)
      generalize hR : Tr.tysV (m.types.take i) = R at *
      have HT := hid_ (Tr.tys_take m.types hlt)
      rw [hR] at HT
      have HR := hid_ hR
      clear hR
      subst hAt
      have hS2 := HS1.out.below (below_alloc wr (.cells #[.int .i64 m.types[i].type] 3))
      have HS2 := hid_ hS2
      clear hS2
      go_wp2_with (first | (at_builtin; go_loud (refine wpList_append_any rfl (.tmp 27) (.tmp 34) 22 rfl w.heap.size 3 i0 _ 1 8 Tryz.underlying22 hi0 hz0 hz1 hz2 rfl (by omega) (.slice B R.length d) R.length _ rfl HS2.out.row (some ⟨wr.heap.size, 0, none⟩) 1 1 [.int .i64 m.types[i].type] rfl rfl (fun h => by cases h) (by intro ad had j u hu; injection had with had; subst had; exact World.news_of_block (heap_alloc_new _ _) j u hu) (by simp [Value.oneCell']) (by unfold maxLen; omega) (by omega) (Nat.le_trans HS1.out.bel.size (below_alloc _ _).size) ?_); intro A1 c1 w6 hown hgrow hat))
      have HS3 := hid_ (HS1.out.grown (Z := [m.types[i].type]) (below_alloc wr _) hgrow hown hat)
      clear hown hgrow hat
      go_wp2_with fail
      go_roundg (gk - 1)
      case rel => exact ⟨i + 1, by go_num, by omega, by rw [← HT.out]; exact HS3.out, by omega⟩
      case measure => omega
    · have b1 : ¬ (i : Int) < (m.types.length : Int) := by omega
      have e : i = m.types.length := by omega
      have HR := hid_ (show Tr.tysV (m.types.take i) = Tr.tysV m.types by rw [e, List.take_length])
      generalize Tr.tysV (m.types.take i) = R at *
      clear e hi hg
      go_wp2_with fail
      obtain ⟨wo, rfl⟩ : ∃ wo : World, wo = wr := ⟨_, rfl⟩
      go_loopg [4, 6, 7, 8, 9] (m.fns.length + 1) (fun g v4 v6 _ _ _ wr => ∃ i : Nat, v6 = .int .i64 i ∧ i ≤ m.fns.length ∧ OrS w wr w.heap.size hb #[.string (st m.name), .slice Ai m.imports.length ci, .slice At m.types.length ct, .slice Af m.fns.length cf, .slice An m.nodes.length cn] m.nodes.length (Tr.cnt [] m.nodes.length) v4 (Tr.tysV m.types ++ Tr.rootFs (m.fns.take i)) ∧ m.fns.length - i + 1 ≤ g)
      case atStart => exact ⟨0, rfl, by omega, by rw [show Tr.tysV m.types ++ Tr.rootFs (m.fns.take 0) = Tr.tysV m.types by simp [Tr.rootFs], ← HR.out]; exact HS1.out, by omega⟩
      case round =>
        clear HS1 HR c2 b1
        obtain ⟨i, rfl, hi, hs, hg⟩ := hrel
        have HS1 := hid_ hs
        obtain ⟨B, d, rfl⟩ := own_form hs.row
        clear hs
        have c3 : wr.cell? ⟨w.heap.size, 3, none⟩ = some (.slice Af m.fns.length cf) := HS1.out.box.cell 3
        by_cases hlt : i < m.fns.length
        · have b0 : (0 : Int) ≤ (i : Int) := by omega
          have b1 : (i : Int) < (m.fns.length : Int) := by omega
          obtain ⟨b, off, vv, pv, hAf, u0, u1, u2, u3, u4, hvv, hpv⟩ := HO.out.fn i hlt
          obtain ⟨Vv, dv, rfl⟩ := hvv.form
          obtain ⟨Pv, dp, rfl⟩ := hpv.form
          have t0 := below_cell HS1.out.bel u0
          have t1 := below_cell HS1.out.bel u1
          have t2 := below_cell HS1.out.bel u2
          have t3 := below_cell HS1.out.bel u3
          have t4 := below_cell HS1.out.bel u4
          have HVv := hid_ hvv
          have HPv := hid_ hpv
          have HP1 := hid_ (fun k => HL.out.pre_few (Tr.roots_fn m hlt (X := Tr.tysV (m.fns[i].vars.take k)) (((Tr.tys_pre _ _).trans (List.prefix_append _ _)).trans (List.prefix_append _ _))))
          have HP2 := hid_ (show ∀ k, ((Tr.tysV m.types ++ Tr.rootFs (m.fns.take i) ++ Tr.tysV m.fns[i].vars) ++ Tr.tysV (m.fns[i].params.take k)).length ≤ 4000 from fun k => by
            rw [List.append_assoc]
            exact HL.out.pre_few (Tr.roots_fn m hlt (X := Tr.tysV m.fns[i].vars ++ Tr.tysV (m.fns[i].params.take k)) (((List.prefix_append_right_inj _).2 (Tr.tys_pre _ _)).trans (List.prefix_append _ _))))
          have HT0 := hid_ (show Tr.tysV m.types ++ Tr.rootFs (m.fns.take (i + 1)) = ((Tr.tysV m.types ++ Tr.rootFs (m.fns.take i) ++ Tr.tysV m.fns[i].vars) ++ Tr.tysV m.fns[i].params) ++ [m.fns[i].ret, m.fns[i].body] by
            rw [← Tr.rootFs_take m.fns hlt]
            simp only [Tr.rootF, List.append_assoc])
          have hvl : m.fns[i].vars.length ≤ 4000 := by
            have := HP1.out m.fns[i].vars.length
            rw [List.take_length, List.length_append, List.length_append] at this
            have e : (Tr.tysV m.fns[i].vars).length = m.fns[i].vars.length := by simp [Tr.tysV]
            omega
          have hpl : m.fns[i].params.length ≤ 4000 := by
            have := HP2.out m.fns[i].params.length
            rw [List.take_length, List.length_append] at this
            have e : (Tr.tysV m.fns[i].params).length = m.fns[i].params.length := by simp [Tr.tysV]
            omega
          clear u0 u1 u2 u3 u4 hvv hpv
          rw [hAf] at c3
          clear hAf
          generalize m.fns[i] = F at *
          go_upto_region 11 with fail
          have HBf := hid_ (Blk.new wr 54 #[.string (st F.name), .slice Vv F.vars.length dv, .slice Pv F.params.length dp, .int .i64 F.ret, .int .i64 F.body])
          have HS2 := hid_ (HS1.out.below (below_alloc wr (.cells #[.string (st F.name), .slice Vv F.vars.length dv, .slice Pv F.params.length dp, .int .i64 F.ret, .int .i64 F.body] 54)))
          clear t0 t1 t2 t3 t4 c3 HS1
          generalize wr.alloc (.cells #[.string (st F.name), .slice Vv F.vars.length dv, .slice Pv F.params.length dp, .int .i64 F.ret, .int .i64 F.body] 54) = W3 at *
          generalize wr.heap.size = fb at *
          generalize Tr.tysV m.types ++ Tr.rootFs (m.fns.take i) = R0 at *
          obtain ⟨gk0, rfl⟩ : ∃ g, g = gk := ⟨_, rfl⟩
          go_wp2_with fail
          obtain ⟨wo2, rfl⟩ : ∃ wo : World, wo = wr := ⟨_, rfl⟩
          go_loopg [4, 8] (F.vars.length + 1) (fun g v4 v8 wr => ∃ k : Nat, v8 = .int .i64 k ∧ k ≤ F.vars.length ∧ OrS w wr w.heap.size hb #[.string (st m.name), .slice Ai m.imports.length ci, .slice At m.types.length ct, .slice Af m.fns.length cf, .slice An m.nodes.length cn] m.nodes.length (Tr.cnt [] m.nodes.length) v4 (R0 ++ Tr.tysV (F.vars.take k)) ∧ Blk wr fb 54 #[.string (st F.name), .slice Vv F.vars.length dv, .slice Pv F.params.length dp, .int .i64 F.ret, .int .i64 F.body] ∧ F.vars.length - k + 1 ≤ g)
          case atStart => exact ⟨0, rfl, by omega, by rw [show R0 ++ Tr.tysV (F.vars.take 0) = R0 by simp [Tr.tysV]]; exact HS2.out, HBf.out, by omega⟩
          case round =>
            clear HS2 HBf
            obtain ⟨k, rfl, hk, hs, hbf, hg2⟩ := hrel
            have HS2 := hid_ hs
            have HBf := hid_ hbf
            obtain ⟨B, d, rfl⟩ := own_form hs.row
            clear hs hbf
            have c3 : wr.cell? ⟨fb, 1, none⟩ = some (.slice Vv F.vars.length dv) := HBf.out.cell 1
            by_cases hlt2 : k < F.vars.length
            · have b2 : (0 : Int) ≤ (k : Int) := by omega
              have b3 : (k : Int) < (F.vars.length : Int) := by omega
              obtain ⟨b, off, c, e, t1⟩ := vr_at (HVv.out.below HS2.out.bel) hlt2
              injection e with e1 _ e2
              subst e1 e2
              have hpf := HP1.out k
              have HT := hid_ (Tr.tys_take F.vars hlt2)
              generalize hR : R0 ++ Tr.tysV (F.vars.take k) = R at *
              have HT2 := hid_ (show R ++ [F.vars[k].type] = R0 ++ Tr.tysV (F.vars.take (k + 1)) by rw [← hR, List.append_assoc, HT.out])
              clear hR HT
              have HS3 := hid_ (HS2.out.below (below_alloc wr (.cells #[.int .i64 F.vars[k].type] 3)))
              go_wp2_with (first | (at_builtin; go_loud (refine wpList_append_any rfl (.tmp 55) (.tmp 62) 22 rfl w.heap.size 3 i0 _ 1 8 Tryz.underlying22 hi0 hz0 hz1 hz2 rfl (by omega) (.slice B R.length d) R.length _ rfl HS3.out.row (some ⟨wr.heap.size, 0, none⟩) 1 1 [.int .i64 F.vars[k].type] rfl rfl (fun h => by cases h) (by intro ad had j u hu; injection had with had; subst had; exact World.news_of_block (heap_alloc_new _ _) j u hu) (by simp [Value.oneCell']) (by unfold maxLen; omega) (by omega) (Nat.le_trans HS2.out.bel.size (below_alloc _ _).size) ?_); intro A1 c1 w6 hown hgrow hat))
              have HS4 := hid_ (HS2.out.grown (Z := [F.vars[k].type]) (below_alloc wr _) hgrow hown hat)
              have HBf4 := hid_ (HS2.out.grown_blk (below_alloc wr _) hgrow HBf.out (by decide))
              clear hown hgrow hat
              go_wp2_with fail
              go_roundg (gk - 1)
              case rel => exact ⟨k + 1, by go_num, by omega, by rw [← HT2.out]; exact HS4.out, HBf4.out, by omega⟩
              case measure => omega
            · have b3 : ¬ (k : Int) < (F.vars.length : Int) := by omega
              have e : k = F.vars.length := by omega
              have HR := hid_ (show R0 ++ Tr.tysV (F.vars.take k) = R0 ++ Tr.tysV F.vars by rw [e, List.take_length])
              generalize R0 ++ Tr.tysV (F.vars.take k) = R1 at *
              clear e hk hg2
              have HP2 := hid_ (show ∀ k, (R1 ++ Tr.tysV (F.params.take k)).length ≤ 4000 by rw [HR.out]; exact HP2.out)
              have HT0 := hid_ (show Tr.tysV m.types ++ Tr.rootFs (m.fns.take (i + 1)) = (R1 ++ Tr.tysV F.params) ++ [F.ret, F.body] by rw [HR.out]; exact HT0.out)
              clear HR HP1
              go_wp2_with fail
              obtain ⟨wj, rfl⟩ : ∃ wj : World, wj = wr := ⟨_, rfl⟩
              go_loopg [4, 9] (F.params.length + 1) (fun g v4 v8 wr => ∃ k : Nat, v8 = .int .i64 k ∧ k ≤ F.params.length ∧ OrS w wr w.heap.size hb #[.string (st m.name), .slice Ai m.imports.length ci, .slice At m.types.length ct, .slice Af m.fns.length cf, .slice An m.nodes.length cn] m.nodes.length (Tr.cnt [] m.nodes.length) v4 (R1 ++ Tr.tysV (F.params.take k)) ∧ Blk wr fb 54 #[.string (st F.name), .slice Vv F.vars.length dv, .slice Pv F.params.length dp, .int .i64 F.ret, .int .i64 F.body] ∧ F.params.length - k + 1 ≤ g)
              case atStart => exact ⟨0, rfl, by omega, by rw [show R1 ++ Tr.tysV (F.params.take 0) = R1 by simp [Tr.tysV]]; exact HS2.out, HBf.out, by omega⟩
              case round =>
                clear HS2 HBf
                obtain ⟨k, rfl, hk, hs, hbf, hg2⟩ := hrel
                have HS2 := hid_ hs
                have HBf := hid_ hbf
                obtain ⟨B, d, rfl⟩ := own_form hs.row
                clear hs hbf
                have c3 : wr.cell? ⟨fb, 2, none⟩ = some (.slice Pv F.params.length dp) := HBf.out.cell 2
                by_cases hlt2 : k < F.params.length
                · have b2 : (0 : Int) ≤ (k : Int) := by omega
                  have b3 : (k : Int) < (F.params.length : Int) := by omega
                  obtain ⟨b, off, c, e, t1⟩ := vr_at (HPv.out.below HS2.out.bel) hlt2
                  injection e with e1 _ e2
                  subst e1 e2
                  have hpf := HP2.out k
                  have HT := hid_ (Tr.tys_take F.params hlt2)
                  generalize hR : R1 ++ Tr.tysV (F.params.take k) = R at *
                  have HT2 := hid_ (show R ++ [F.params[k].type] = R1 ++ Tr.tysV (F.params.take (k + 1)) by rw [← hR, List.append_assoc, HT.out])
                  clear hR HT
                  have HS3 := hid_ (HS2.out.below (below_alloc wr (.cells #[.int .i64 F.params[k].type] 3)))
                  go_wp2_with (first | (at_builtin; go_loud (refine wpList_append_any rfl (.tmp 71) (.tmp 78) 22 rfl w.heap.size 3 i0 _ 1 8 Tryz.underlying22 hi0 hz0 hz1 hz2 rfl (by omega) (.slice B R.length d) R.length _ rfl HS3.out.row (some ⟨wr.heap.size, 0, none⟩) 1 1 [.int .i64 F.params[k].type] rfl rfl (fun h => by cases h) (by intro ad had j u hu; injection had with had; subst had; exact World.news_of_block (heap_alloc_new _ _) j u hu) (by simp [Value.oneCell']) (by unfold maxLen; omega) (by omega) (Nat.le_trans HS2.out.bel.size (below_alloc _ _).size) ?_); intro A1 c1 w6 hown hgrow hat))
                  have HS4 := hid_ (HS2.out.grown (Z := [F.params[k].type]) (below_alloc wr _) hgrow hown hat)
                  have HBf4 := hid_ (HS2.out.grown_blk (below_alloc wr _) hgrow HBf.out (by decide))
                  clear hown hgrow hat
                  go_wp2_with fail
                  go_roundg (gk - 1)
                  case rel => exact ⟨k + 1, by go_num, by omega, by rw [← HT2.out]; exact HS4.out, HBf4.out, by omega⟩
                  case measure => omega
                · have b3 : ¬ (k : Int) < (F.params.length : Int) := by omega
                  have e : k = F.params.length := by omega
                  have HR := hid_ (show R1 ++ Tr.tysV (F.params.take k) = R1 ++ Tr.tysV F.params by rw [e, List.take_length])
                  generalize R1 ++ Tr.tysV (F.params.take k) = R at *
                  clear e hk hg2
                  have t3 : wr.cell? ⟨fb, 3, none⟩ = some (.int .i64 F.ret) := HBf.out.cell 3
                  have t4 : wr.cell? ⟨fb, 4, none⟩ = some (.int .i64 F.body) := HBf.out.cell 4
                  have hpf : R.length ≤ 4000 := by rw [HR.out]; have := HP2.out F.params.length; rwa [List.take_length] at this
                  have HS3 := hid_ (HS2.out.below (below_alloc wr (.cells #[.int .i64 F.ret, .int .i64 F.body] 3)))
                  go_wp2_with (first | (at_builtin; go_loud (refine wpList_append_any rfl (.tmp 80) (.tmp 85) 22 rfl w.heap.size 3 i0 _ 1 8 Tryz.underlying22 hi0 hz0 hz1 hz2 rfl (by omega) (.slice B R.length d) R.length _ rfl HS3.out.row (some ⟨wr.heap.size, 0, none⟩) 2 2 [.int .i64 F.ret, .int .i64 F.body] rfl rfl (fun h => by cases h) (by intro ad had j u hu; injection had with had; subst had; exact World.news_of_block (heap_alloc_new _ _) j u hu) (by simp [Value.oneCell']) (by unfold maxLen; omega) (by omega) (Nat.le_trans HS2.out.bel.size (below_alloc _ _).size) ?_); intro A1 c1 w6 hown hgrow hat))
                  have HS4 := hid_ (HS2.out.grown (Z := [F.ret, F.body]) (below_alloc wr _) hgrow hown hat)
                  clear hown hgrow hat
                  go_wp2_with fail
                  go_roundg (gk0 - 1)
                  case rel => exact ⟨i + 1, by go_num, by omega, by rw [HT0.out, ← HR.out]; exact HS4.out, by omega⟩
                  case measure => omega

        · have b1 : ¬ (i : Int) < (m.fns.length : Int) := by omega
          have e : i = m.fns.length := by omega
          have HR := hid_ (show Tr.tysV m.types ++ Tr.rootFs (m.fns.take i) = Tr.roots m by rw [e, List.take_length]; rfl)
          generalize Tr.tysV m.types ++ Tr.rootFs (m.fns.take i) = R at *
          clear e hi hg
          have hRl : R.length ≤ 4000 := by rw [HR.out]; exact HL.out.roots_few
          have HPerm := hid_ (show (R ++ Tr.hadL m.nodes).Perm (Tr.nums m.nodes.length) by rw [HR.out]; exact List.perm_append_comm.trans HL.out.perm)
          have HRr := hid_ (show ∀ i (h : i < R.length), ∃ z : Nat, R[i] = (z : Int) ∧ z < m.nodes.length from fun i h => by
            have key : ∀ z ∈ R, 0 ≤ z ∧ z < m.nodes.length := by rw [HR.out]; exact fun z hz => HL.out.lt hz
            have := key _ (List.getElem_mem h)
            exact ⟨R[i].toNat, by omega, by omega⟩)
          have HHf := hid_ (show (R ++ Tr.hadL m.nodes).length ≤ 4000 by rw [HR.out]; exact HL.out.had_few)
          go_wp2_with fail
          obtain ⟨wo3, rfl⟩ : ∃ wo : World, wo = wr := ⟨_, rfl⟩
          go_loopg [10] (R.length + 1) (fun g v10 wr => ∃ i : Nat, v10 = .int .i64 i ∧ i ≤ R.length ∧ OrS w wr w.heap.size hb #[.string (st m.name), .slice Ai m.imports.length ci, .slice At m.types.length ct, .slice Af m.fns.length cf, .slice An m.nodes.length cn] m.nodes.length (Tr.cnt (R.take i) m.nodes.length) (.slice B R.length d) R ∧ R.length - i + 1 ≤ g)
          case atStart => exact ⟨0, rfl, by omega, HS1.out, by omega⟩
          case round =>
            clear HS1 c3 b1
            obtain ⟨i, rfl, hi, hs, hg⟩ := hrel
            have HS1 := hid_ hs
            clear hs
            by_cases hlt : i < R.length
            · have b0 : (0 : Int) ≤ (i : Int) := by omega
              have b1 : (i : Int) < (R.length : Int) := by omega
              obtain ⟨z, hz, hzn⟩ := HRr.out i hlt
              obtain ⟨q, c, e, r0⟩ := HS1.out.root hlt
              injection e with e1 _ e2
              rw [hz] at r0
              obtain ⟨h0, f0⟩ := HS1.out.at_ hzn
              rw [Tr.cnt_at _ hzn] at h0
              have b2 : (0 : Int) ≤ (z : Int) := by omega
              have b3 : (z : Int) < (m.nodes.length : Int) := by omega
              have hcn : (R.take i).count (z : Int) ≤ 4000 := Nat.le_trans List.count_le_length (by rw [List.length_take]; omega)
              have HC := hid_ (show Tr.cnt (R.take (i + 1)) m.nodes.length = (Tr.cnt (R.take i) m.nodes.length).set z ((((R.take i).count (z : Int) : Nat) : Int) + 1) by
                rw [Tr.cnt_put _ hzn, ← hz, Tr.take_snoc R hlt])
              generalize (R.take i).count (z : Int) = cc at *
              have HS2 := hid_ (HS1.out.bump z ((cc : Int) + 1))
              clear hz
              subst e1 e2
              go_wp2_with fail
              go_region
              all_goals
                go_wp2_with fail
                go_roundg (gk - 1)
                case rel => exact ⟨i + 1, by go_num, by omega, by rw [HC.out]; first | exact HS2.out | exact HS2.out.drew, by omega⟩
                case measure => omega
            · have b1 : ¬ (i : Int) < (R.length : Int) := by omega
              have e : i = R.length := by omega
              have HS1 := hid_ (show OrS w wr w.heap.size hb #[.string (st m.name), .slice Ai m.imports.length ci, .slice At m.types.length ct, .slice Af m.fns.length cf, .slice An m.nodes.length cn] m.nodes.length (Tr.cnt R m.nodes.length) (.slice B R.length d) R by
                have := HS1.out
                rw [e, List.take_length] at this
                exact this)
              clear e hi hg HRr
              go_wp2_with fail
              obtain ⟨wo4, rfl⟩ : ∃ wo : World, wo = wr := ⟨_, rfl⟩
              go_loopg [11, 12, 13] (m.nodes.length + 1) (fun g v11 _ _ wr => ∃ i : Nat, v11 = .int .i64 i ∧ i ≤ m.nodes.length ∧ OrS w wr w.heap.size hb #[.string (st m.name), .slice Ai m.imports.length ci, .slice At m.types.length ct, .slice Af m.fns.length cf, .slice An m.nodes.length cn] m.nodes.length (Tr.cnt (R ++ Tr.hadL (m.nodes.take i)) m.nodes.length) (.slice B R.length d) R ∧ m.nodes.length - i + 1 ≤ g)
              case atStart => exact ⟨0, rfl, by omega, by rw [show R ++ Tr.hadL (m.nodes.take 0) = R by simp [Tr.hadL]]; exact HS1.out, by omega⟩
              case round =>
                clear HS1 b1
                obtain ⟨i, rfl, hi, hs, hg⟩ := hrel
                have HS1 := hid_ hs
                clear hs
                have c4 : wr.cell? ⟨w.heap.size, 4, none⟩ = some (.slice An m.nodes.length cn) := HS1.out.box.cell 4
                by_cases hlt : i < m.nodes.length
                · have b0 : (0 : Int) ≤ (i : Int) := by omega
                  have b1 : (i : Int) < (m.nodes.length : Int) := by omega
                  obtain ⟨b, off, kv, lv, hAn, _, _, _, _, _, u5, _, hlv⟩ := HO.out.nd i hlt
                  obtain ⟨Lv, dl, rfl⟩ := hlv.form
                  have t5 := below_cell HS1.out.bel u5
                  have HLv := hid_ hlv
                  have hll := HL.out.l_few hlt
                  have HAt := hid_ (show ∀ k (hk : k < m.nodes[i].l.length), 0 ≤ m.nodes[i].l[k] ∧ m.nodes[i].l[k] < (i : Int) ∧ (0 < k → ∃ h : k - 1 < m.nodes[i].l.length, m.nodes[i].l[k - 1] < m.nodes[i].l[k]) from fun k hk => by
                    obtain ⟨a1, a2, a3⟩ := HL.out.at_ hlt hk
                    exact ⟨a1, a2, fun h0 => ⟨by omega, a3 h0⟩⟩)
                  have HPre := hid_ (fun k => show (R ++ (Tr.hadL (m.nodes.take i) ++ m.nodes[i].l.take k)).length ≤ 4000 by
                    have h1 := HHf.out
                    have h2 := (Tr.had_pre m.nodes (k := k) hlt).length_le
                    rw [List.length_append] at h1 ⊢
                    omega)
                  have HT0 := hid_ (show R ++ Tr.hadL (m.nodes.take (i + 1)) = (R ++ Tr.hadL (m.nodes.take i)) ++ m.nodes[i].l by rw [List.append_assoc, Tr.hadL_take m.nodes hlt])
                  rw [hAn] at c4
                  clear hAn u5 hlv
                  generalize m.nodes[i].l = l at *
                  obtain ⟨gk0, rfl⟩ : ∃ g, g = gk := ⟨_, rfl⟩
                  go_wp2_with fail
                  obtain ⟨wo5, rfl⟩ : ∃ wo : World, wo = wr := ⟨_, rfl⟩
                  go_loopg [13] (l.length + 1) (fun g v13 wr => ∃ k : Nat, v13 = .int .i64 k ∧ k ≤ l.length ∧ OrS w wr w.heap.size hb #[.string (st m.name), .slice Ai m.imports.length ci, .slice At m.types.length ct, .slice Af m.fns.length cf, .slice An m.nodes.length cn] m.nodes.length (Tr.cnt ((R ++ Tr.hadL (m.nodes.take i)) ++ l.take k) m.nodes.length) (.slice B R.length d) R ∧ l.length - k + 1 ≤ g)
                  case atStart => exact ⟨0, rfl, by omega, by rw [show (R ++ Tr.hadL (m.nodes.take i)) ++ l.take 0 = R ++ Tr.hadL (m.nodes.take i) by simp]; exact HS1.out, by omega⟩
                  case round =>
                    clear HS1 c4 t5
                    obtain ⟨k, rfl, hk, hs, hg2⟩ := hrel
                    have HS1 := hid_ hs
                    clear hs
                    by_cases hlt2 : k < l.length
                    · have b2 : (0 : Int) ≤ (k : Int) := by omega
                      have b3 : (k : Int) < (l.length : Int) := by omega
                      obtain ⟨a1, a2, a3⟩ := HAt.out k hlt2
                      obtain ⟨z, hz⟩ : ∃ z : Nat, l[k] = (z : Int) := ⟨l[k].toNat, by omega⟩
                      have hzn : z < m.nodes.length := by omega
                      obtain ⟨q, off2, c, e, hc⟩ := (HLv.out.below HS1.out.bel).get (by omega)
                      injection e with e1 _ e2
                      have r0 := hc k _ (ints_at hlt2)
                      rw [hz] at r0 a2
                      have HX := hid_ (fun (h0 : 0 < k) => (show ∃ y : Int, y < (z : Int) ∧ wr.cell? ⟨q, off2 + (k - 1), none⟩ = some (.int .i64 y) by
                        obtain ⟨h1, h2⟩ := a3 h0
                        exact ⟨l[k - 1], by omega, hc (k - 1) _ (ints_at h1)⟩))
                      obtain ⟨h0, f0⟩ := HS1.out.at_ hzn
                      rw [Tr.cnt_at _ hzn] at h0
                      have b4 : (0 : Int) ≤ (z : Int) := by omega
                      have b5 : (z : Int) < (m.nodes.length : Int) := by omega
                      have hcn : ((R ++ Tr.hadL (m.nodes.take i)) ++ l.take k).count (z : Int) ≤ 4000 := Nat.le_trans List.count_le_length (by rw [List.append_assoc]; exact HPre.out k)
                      have HC := hid_ (show Tr.cnt ((R ++ Tr.hadL (m.nodes.take i)) ++ l.take (k + 1)) m.nodes.length = (Tr.cnt ((R ++ Tr.hadL (m.nodes.take i)) ++ l.take k) m.nodes.length).set z (((((R ++ Tr.hadL (m.nodes.take i)) ++ l.take k).count (z : Int) : Nat) : Int) + 1) by
                        rw [Tr.cnt_put _ hzn, ← hz, List.append_assoc (R ++ Tr.hadL (m.nodes.take i)) (l.take k), Tr.take_snoc l hlt2])
                      generalize ((R ++ Tr.hadL (m.nodes.take i)) ++ l.take k).count (z : Int) = cc at *
                      have HS2 := hid_ (HS1.out.bump z ((cc : Int) + 1))
                      clear hz a1 a3 hc
                      subst e1 e2
                      have q1 : decide ((z : Int) < 0) = false := decide_eq_false (by omega)
                      have q2 : decide ((i : Int) ≤ (z : Int)) = false := decide_eq_false (by omega)
                      have q5 : decide (i ≤ z) = false := decide_eq_false (by omega)
                      by_cases hk0 : 0 < k
                      · obtain ⟨y, hy, x1⟩ := HX.out hk0
                        have w1 : IntKind.i64.wrap ((k : Int) - 1) = (k : Int) - 1 := IntWalk.i64_in _ (by omega)
                        have w2 : (0 : Int) ≤ (k : Int) - 1 := by omega
                        have w3 : ((k : Int) - 1).toNat = k - 1 := by omega
                        have w4 : (k : Int) - 1 < (l.length : Int) := by omega
                        have q3 : decide ((0 : Int) < (k : Int)) = true := decide_eq_true (by omega)
                        have q6 : decide (0 < k) = true := decide_eq_true hk0
                        have q4 : decide ((z : Int) ≤ y) = false := decide_eq_false (by omega)
                        clear HX
                        go_wp2_with fail
                        go_quiet (fail)
                        clear w1 w2 w3 w4 q1 q2 q3 q4 q5 q6
                        go_wp2_with fail
                        go_region
                        all_goals
                          go_wp2_with fail
                          go_roundg (gk - 1)
                          case rel => exact ⟨k + 1, by go_num, by omega, by rw [HC.out]; exact (HS1.out.drewN _).bump z _, by omega⟩
                          case measure => omega
                      · have q3 : decide ((0 : Int) < (k : Int)) = false := decide_eq_false (by omega)
                        have q6 : decide (0 < k) = false := decide_eq_false hk0
                        clear HX
                        go_wp2_with fail
                        go_quiet (fail)
                        clear q1 q2 q3 q5 q6
                        go_wp2_with fail
                        go_region
                        all_goals
                          go_wp2_with fail
                          go_roundg (gk - 1)
                          case rel => exact ⟨k + 1, by go_num, by omega, by rw [HC.out]; exact (HS1.out.drewN _).bump z _, by omega⟩
                          case measure => omega
                    · have b3 : ¬ (k : Int) < (l.length : Int) := by omega
                      have e : k = l.length := by omega
                      have HS2 := hid_ (show OrS w wr w.heap.size hb #[.string (st m.name), .slice Ai m.imports.length ci, .slice At m.types.length ct, .slice Af m.fns.length cf, .slice An m.nodes.length cn] m.nodes.length (Tr.cnt (R ++ Tr.hadL (m.nodes.take (i + 1))) m.nodes.length) (.slice B R.length d) R by
                        have := HS1.out
                        rw [e, List.take_length] at this
                        rw [HT0.out]
                        exact this)
                      clear e HS1
                      go_wp2_with fail
                      go_roundg (gk0 - 1)
                      case rel => exact ⟨i + 1, by go_num, by omega, HS2.out, by omega⟩
                      case measure => omega
                · have b1 : ¬ (i : Int) < (m.nodes.length : Int) := by omega
                  have e : i = m.nodes.length := by omega
                  have HS2 := hid_ (show OrS w wr w.heap.size hb #[.string (st m.name), .slice Ai m.imports.length ci, .slice At m.types.length ct, .slice Af m.fns.length cf, .slice An m.nodes.length cn] m.nodes.length (Tr.cnt (R ++ Tr.hadL m.nodes) m.nodes.length) (.slice B R.length d) R by
                    have := HS1.out
                    rw [e, List.take_length] at this
                    exact this)
                  clear e HS1 hg hi
                  go_wp2_with fail
                  clear b1 c4
                  obtain ⟨wo6, rfl⟩ : ∃ wo : World, wo = wr := ⟨_, rfl⟩
                  go_loopg [14] (m.nodes.length + 1) (fun g v14 wr => ∃ i : Nat, v14 = .int .i64 i ∧ i ≤ m.nodes.length ∧ OrS w wr w.heap.size hb #[.string (st m.name), .slice Ai m.imports.length ci, .slice At m.types.length ct, .slice Af m.fns.length cf, .slice An m.nodes.length cn] m.nodes.length (Tr.cnt (R ++ Tr.hadL m.nodes) m.nodes.length) (.slice B R.length d) R ∧ m.nodes.length - i + 1 ≤ g)
                  case atStart => exact ⟨0, rfl, by omega, HS2.out, by omega⟩
                  case round =>
                    clear HS2
                    obtain ⟨i, rfl, hi, hs, hg⟩ := hrel
                    have HS1 := hid_ hs
                    clear hs
                    by_cases hlt : i < m.nodes.length
                    · have b0 : (0 : Int) ≤ (i : Int) := by omega
                      have b1 : (i : Int) < (m.nodes.length : Int) := by omega
                      obtain ⟨h0, f0⟩ := HS1.out.at_ hlt
                      rw [Tr.cnt_at _ hlt, Tr.cnt_one HPerm.out hlt] at h0
                      have h0 : wr.cell? ⟨hb, i, none⟩ = some (.int .i64 1) := h0
                      go_wp2_with fail
                      go_roundg (gk - 1)
                      case rel => exact ⟨i + 1, by go_num, by omega, HS1.out, by omega⟩
                      case measure => omega
                    · have b1 : ¬ (i : Int) < (m.nodes.length : Int) := by omega
                      go_wp2_with fail
                      go_ret
                      exact ⟨rfl, HS1.out.bel⟩
end Go.Proofs.YtmgjmagniefhoaaGreatDoor
