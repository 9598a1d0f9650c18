/- What stands in these texts of the proof: Ts Tt. Conditions: those that each theorem names. -/
import Derived.Test.YtmgjmagniefhoaaGreatDoorAa12
/- The tree's reader: shape. Conditions: those that each theorem names. -/
namespace Go.Proofs.YtmgjmagniefhoaaGreatDoor
open Go.RowKit Go.Maps
section
variable {w w' w0 : World} {rb k : Nat} {c : RC} {L : List Lx.Wd} {ns : List Tr.Nd}
theorem flatN_getA (xs : List (Tr.Nd × Value × Value)) (n : Nat) (hn : n < xs.length) (j : Nat) (hj : j < 6) : (flatN xs)[n * 6 + j]? = (cellN xs[n].1 xs[n].2.1 xs[n].2.2)[j]? := by
  induction xs generalizing n with
  | nil => simp at hn
  | cons x xs ih =>
    have e : flatN (x :: xs) = cellN x.1 x.2.1 x.2.2 ++ flatN xs := by simp [flatN]
    rw [e]
    cases n with
    | zero => rw [List.getElem?_append_left (by show _ < 6; omega)]; simp
    | succ n =>
      rw [List.getElem?_append_right (by show 6 ≤ _; omega)]
      have e2 : (n + 1) * 6 + j - (cellN x.1 x.2.1 x.2.2).length = n * 6 + j := by show (n + 1) * 6 + j - 6 = _; omega
      rw [e2, ih n (by simpa using hn)]
      simp
/-- The nodes' cells. -/
theorem Rd.nodesAt (h : Rd w rb c L k ns) (h0 : 0 < ns.length) : ∃ b cc, w.cell? ⟨rb, 6, none⟩ = some (.slice (some ⟨b, 0, none⟩) ns.length cc) ∧ ∀ n (hn : n < ns.length), ∃ kv lv, w.cell? ⟨b, n * 6, none⟩ = some (.int .i64 ns[n].kind) ∧ w.cell? ⟨b, n * 6 + 1, none⟩ = some (.int .i64 ns[n].num) ∧ w.cell? ⟨b, n * 6 + 2, none⟩ = some (.string (st ns[n].mod)) ∧
    w.cell? ⟨b, n * 6 + 3, none⟩ = some (.string (st ns[n].name)) ∧ w.cell? ⟨b, n * 6 + 4, none⟩ = some kv ∧ w.cell? ⟨b, n * 6 + 5, none⟩ = some lv ∧ w.ownsRow rb 3 1 lv ns[n].l.length (ints ns[n].l) ∧ w.ownsRow rb 9 1 kv ns[n].keys.length (strs ns[n].keys) := by
  obtain ⟨nv, hb, xs, hxs, hown, hnd⟩ := h.blk
  rcases hown.2 with ⟨hv, hz⟩ | ⟨g, cap, cur, hv, _⟩
  · omega
  · subst hv
    refine ⟨g, cap, hb.cell 6, fun n hn => ?_⟩
    have hl : xs.length = ns.length := by rw [← hxs, List.length_map]
    have hn2 : n < xs.length := by omega
    have e : ns[n] = xs[n].1 := by
      have : (xs.map (·.1))[n]? = some ns[n] := by rw [hxs]; exact List.getElem?_eq_getElem hn
      rw [List.getElem?_map, List.getElem?_eq_getElem hn2] at this
      injection this with this
      exact this.symm
    rw [e]
    have key : ∀ j, j < 6 → ∀ u, (cellN xs[n].1 xs[n].2.1 xs[n].2.2)[j]? = some u → w.cell? ⟨g, n * 6 + j, none⟩ = some u := fun j hj u hu => own_cell hown (n * 6 + j) u (by rw [flatN_getA xs n hn2 j hj]; exact hu)
    exact ⟨_, _, key 0 (by omega) _ rfl, key 1 (by omega) _ rfl, key 2 (by omega) _ rfl, key 3 (by omega) _ rfl, key 4 (by omega) _ rfl, key 5 (by omega) _ rfl, (hnd _ (List.getElem_mem hn2)).2, (hnd _ (List.getElem_mem hn2)).1⟩
theorem set_sz (w : World) (p : Addr) (v : Value) : (w.setCell p v).heap.size = w.heap.size := by simp
theorem st_app (a b : List UInt8) : st a ++ st b = st (a ++ b) := by
  apply bl_inj
  rw [bl_st]
  show (ByteArray.append _ _).data.toList = _
  simp [ByteArray.append, st]
/-- What stands behind an is, plainly. -/
def shapeT (L : List Lx.Wd) (n : Int) (k : Nat) (M : List Tr.Nd) : Tr.An Int :=
  if (Tr.now L (k + 1)).kind = 4 then Tr.node L ⟨21, 0, [], 39 :: (Tr.now L (k + 1)).text, [], [n]⟩ (k + 2) M
  else if (Tr.now L (k + 1)).kind = 5 ∧ (Tr.now L (k + 1)).text ∈ [[110, 117, 108, 108], [98, 111, 111, 108], [105, 110, 116], [114, 101, 99]] then Tr.node L ⟨21, 0, [], (Tr.now L (k + 1)).text, [], [n]⟩ (k + 2) M
  else .error ((Tr.now L (k + 1)).pos, 30)
theorem getD_at {α : Type} {M : List α} {n : Nat} (h : n < M.length) (a : α) : M.getD n a = M[n] := by
  rw [List.getD_eq_getElem?_getD, List.getElem?_eq_getElem h]; rfl
theorem shape_is {n : Nat} (hn : n < ns.length) (hok : NOk ns) : ∃ bad : Bool, Tr.shapeF L n k ns = (if bad = true then .error ((Tr.now L k).pos, 30) else shapeT L n k ns) ∧
    ((ns[n].kind = 16 ∧ bad = false) ∨ (ns[n].kind ≠ 16 ∧ ns[n].kind ≠ 18 ∧ bad = true) ∨ (ns[n].kind = 18 ∧ ∃ m : Nat, ns[n].l = [(m : Int)] ∧ ∃ hm : m < ns.length, (ns[m].kind = 16 ∧ bad = false) ∨ (ns[m].kind ≠ 16 ∧ bad = true))) := by
  have e : ∀ bad : Bool, (bad = true ↔ (ns[n].kind ≠ 16 ∧ (ns[n].kind ≠ 18 ∨ (ns.getD (ns[n].l.getD 0 0).toNat (Tr.leaf 0 [])).kind ≠ 16))) → Tr.shapeF L n k ns = (if bad = true then .error ((Tr.now L k).pos, 30) else shapeT L n k ns) := by
    intro bad hb
    unfold Tr.shapeF
    dsimp only
    rw [show ((n : Int)).toNat = n from Int.toNat_natCast n, getD_at hn]
    by_cases h : bad = true
    · rw [if_pos h, if_pos (hb.1 h)]; rfl
    · rw [if_neg h, if_neg (fun h2 => h (hb.2 h2))]; rfl
  by_cases h1 : ns[n].kind = 16
  · exact ⟨false, e _ ⟨fun h => absurd h (by decide), fun h => absurd h1 h.1⟩, .inl ⟨h1, rfl⟩⟩
  by_cases h2 : ns[n].kind = 18
  · obtain ⟨m, hm, h3, h4⟩ := hok _ (List.getElem_mem hn) h2
    obtain ⟨m, rfl⟩ : ∃ q : Nat, m = q := ⟨m.toNat, by omega⟩
    have hm2 : m < ns.length := by omega
    have e2 : ns.getD (ns[n].l.getD 0 0).toNat (Tr.leaf 0 []) = ns[m] := by
      rw [hm, show ([(m : Int)].getD 0 0).toNat = m from Int.toNat_natCast m, getD_at hm2]
    rw [e2] at e
    by_cases h5 : ns[m].kind = 16
    · exact ⟨false, e _ ⟨fun h => absurd h (by decide), fun h => h.2.elim (fun h => absurd h2 h) (fun h => absurd h5 h)⟩, .inr (.inr ⟨h2, m, hm, hm2, .inl ⟨h5, rfl⟩⟩)⟩
    · exact ⟨true, e _ ⟨fun _ => ⟨h1, .inr h5⟩, fun _ => rfl⟩, .inr (.inr ⟨h2, m, hm, hm2, .inr ⟨h5, rfl⟩⟩)⟩
  · exact ⟨true, e _ ⟨fun _ => ⟨h1, .inl h2⟩, fun _ => rfl⟩, .inr (.inl ⟨h1, h2, rfl⟩)⟩
set_option maxHeartbeats 4000000 in
set_option maxRecDepth 100000 in
theorem shape_c (h : Rd w rb c L k ns) (hk : 1 ≤ k) (hk2 : k + 1 < L.length) (n : Int) (hin : Tr.In n ns) : Calls Tryz.prog 126 #[rv rb, .int .i64 n] w (EP (fun z => .int .i64 z) w rb c L (Tr.shapeF L n k ns)) := by
  obtain ⟨n, rfl⟩ : ∃ m : Nat, n = m := ⟨n.toNat, by have := hin.1; omega⟩
  have hn : n < ns.length := by have := hin.2; omega
  have HR := hid_ h
  obtain ⟨b, cc, c6, hc⟩ := h.nodesAt (by omega)
  obtain ⟨kv, lv, x0, x1, x2, x3, x4, x5, hlv, hkv⟩ := hc n hn
  obtain ⟨Bk, dk, rfl⟩ := own_form hkv
  obtain ⟨Bl, dl, rfl⟩ := own_form hlv
  have b0 : (0 : Int) ≤ (n : Int) := by omega
  have b1 : (n : Int) < (ns.length : Int) := by omega
  have HHc := hid_ hc
  have HLv := hid_ hlv
  obtain ⟨bad, he, hcase⟩ := shape_is (L := L) (k := k) hn h.nok
  have HE := hid_ he
  have HCase := hid_ hcase
  have HFr := hid_ (Fr.refl h)
  clear h hc hlv hkv hin he hcase
  generalize Tr.shapeF L n k ns = A at *
  unfold rv
  go_enter Tryz.func126, Tryz.ntmps126
  go_upto_region 2 with fail
  have HBk := hid_ (Blk.new w 57 #[.int .i64 ns[n].kind, .int .i64 ns[n].num, .string (st ns[n].mod), .string (st ns[n].name), .slice Bk ns[n].keys.length dk, .slice Bl ns[n].l.length dl])
  have HB0 := hid_ (below_alloc w (Obj.cells #[.int .i64 ns[n].kind, .int .i64 ns[n].num, .string (st ns[n].mod), .string (st ns[n].name), .slice Bk ns[n].keys.length dk, .slice Bl ns[n].l.length dl] 57))
  generalize w.alloc (Obj.cells #[.int .i64 ns[n].kind, .int .i64 ns[n].num, .string (st ns[n].mod), .string (st ns[n].name), .slice Bk ns[n].keys.length dk, .slice Bl ns[n].l.length dl] 57) = W0 at HBk HB0 ⊢
  have HR0 := hid_ (HR.out.below HB0.out)
  have HF0 := hid_ (Fr.of_below HB0.out HR.out)
  have y0 : W0.cell? ⟨w.heap.size, 0, none⟩ = some (.int .i64 ns[n].kind) := HBk.out.cell 0
  have y5 : W0.cell? ⟨w.heap.size, 5, none⟩ = some (.slice Bl ns[n].l.length dl) := HBk.out.cell 5
  have d6 : W0.cell? ⟨rb, 6, none⟩ = some (.slice (some ⟨b, 0, none⟩) ns.length cc) := below_cell HB0.out c6
  clear x0 x1 x2 x3 x4 x5 c6
  go_cut [38] (fun s38 wx => s38 = .bool bad ∧ Rd wx rb c L k ns ∧ Fr rb w wx)
  case first =>
    rcases HCase.out with ⟨h1, rfl⟩ | ⟨h1, h2, rfl⟩ | ⟨h2, m, hm, hm2, h3⟩
    · have q0 : (ns[n].kind != 16) = false := by rw [h1]; rfl
      clear HCase h1
      go_quiet (fail)
      go_wp2_with fail
      go_meet
      exact ⟨rfl, by first | exact HR0.out | exact HR0.out.drew _, by first | exact HF0.out | exact HF0.out.trans (Fr.drew HR0.out _)⟩
    · have q0 : (ns[n].kind != 16) = true := by simp [h1]
      have q1 : (ns[n].kind != 18) = true := by simp [h2]
      clear HCase h1 h2
      go_quiet (fail)
      go_wp2_with fail
      go_meet
      exact ⟨rfl, by first | exact HR0.out | exact HR0.out.drew _, by first | exact HF0.out | exact HF0.out.trans (Fr.drew HR0.out _)⟩
    · have q0 : (ns[n].kind != 16) = true := by rw [h2]; rfl
      have q1 : (ns[n].kind != 18) = false := by rw [h2]; rfl
      have hq : ∃ q, Bl = some ⟨q, 0, none⟩ ∧ W0.cell? ⟨q, 0, none⟩ = some (.int .i64 (m : Int)) := by
        rcases HLv.out.2 with ⟨hv, h0⟩ | ⟨g, cap, cur, hv, _⟩
        · rw [hm] at h0; exact absurd h0 (by simp)
        · injection hv with hv1 hv2 hv3
          subst hv1
          subst hv3
          exact ⟨g, rfl, below_cell HB0.out (own_cell HLv.out 0 _ (by rw [hm]; rfl))⟩
      obtain ⟨q, rfl, e0⟩ := hq
      obtain ⟨_, _, z0, _⟩ := HHc.out m hm2
      have z0 := below_cell HB0.out z0
      have hl1 : ns[n].l.length = 1 := by rw [hm]; rfl
      rw [hl1] at y5
      have m0 : (0 : Int) ≤ (m : Int) := by omega
      have m1 : (m : Int) < (ns.length : Int) := by omega
      rcases h3 with ⟨h3, rfl⟩ | ⟨h3, rfl⟩
      · have q2 : (ns[m].kind != 16) = false := by rw [h3]; rfl
        clear HCase hm h2 h3 hl1
        go_quiet (fail)
        go_wp2_with fail
        go_meet
        exact ⟨rfl, by first | exact HR0.out | exact HR0.out.drew _, by first | exact HF0.out | exact HF0.out.trans (Fr.drew HR0.out _)⟩
      · have q2 : (ns[m].kind != 16) = true := by simp [h3]
        clear HCase hm h2 h3 hl1
        go_quiet (fail)
        go_wp2_with fail
        go_meet
        exact ⟨rfl, by first | exact HR0.out | exact HR0.out.drew _, by first | exact HF0.out | exact HF0.out.trans (Fr.drew HR0.out _)⟩
  case rest =>
    obtain ⟨rfl, hR1, hF1⟩ := hcut
    have HR1 := hid_ hR1
    have HF1 := hid_ hF1
    clear hR1 hF1 y0 y5 d6
    cases bad with
    | true =>
      have HA := hid_ (HE.out.trans (if_pos rfl))
      have HFl := hid_ (fail_c HR1.out 30)
      unfold rv at HFl
      clear HE
      go_wp2_with fail
      refine HFl.out.mono ?_
      rintro e w6 ⟨rfl, hb6⟩
      have HB6 := hid_ ((HF1.out.bel HR.out).trans hb6)
      clear hb6
      go_wp2_with fail
      rw [HA.out]
      exact ⟨rfl, rfl, HB6.out⟩
    | false =>
      have HA := hid_ (HE.out.trans (if_neg (by decide)))
      obtain ⟨c1, f1⟩ := HR1.out.at1
      have hfew := HR1.out.few
      have HS := hid_ (HR1.out.stepI hk2)
      have HF2 := hid_ (HF1.out.trans HS.out.2)
      have HN := hid_ (now_c HS.out.1)
      unfold rv wordV at HN
      clear HE
      go_wp2_with fail
      refine HN.out.mono ?_
      rintro e w2 ⟨rfl, hb2⟩
      have HR2 := hid_ (HS.out.1.below hb2)
      have HF3 := hid_ (HF2.out.trans (Fr.of_below hb2 HS.out.1))
      have HBw := hid_ (Blk.new w2 88 #[.int .i64 (Tr.now L (k + 1)).kind, .string (st (Tr.now L (k + 1)).text), .int .i64 (Tr.now L (k + 1)).num, .int .i64 (Tr.now L (k + 1)).pos])
      have HB3 := hid_ (below_alloc w2 (.cells #[.int .i64 (Tr.now L (k + 1)).kind, .string (st (Tr.now L (k + 1)).text), .int .i64 (Tr.now L (k + 1)).num, .int .i64 (Tr.now L (k + 1)).pos] 88))
      clear hb2 c1 f1 HN
      go_upto_region 6 with fail
      generalize w2.alloc (.cells #[.int .i64 (Tr.now L (k + 1)).kind, .string (st (Tr.now L (k + 1)).text), .int .i64 (Tr.now L (k + 1)).num, .int .i64 (Tr.now L (k + 1)).pos] 88) = W3 at HBw HB3 ⊢
      have HR4 := hid_ (HR2.out.below HB3.out)
      have HF4 := hid_ (HF3.out.trans (Fr.of_below HB3.out HR2.out))
      have e0 : W3.cell? ⟨w2.heap.size, 0, none⟩ = some (.int .i64 (Tr.now L (k + 1)).kind) := HBw.out.cell 0
      have e1 : W3.cell? ⟨w2.heap.size, 1, none⟩ = some (.string (st (Tr.now L (k + 1)).text)) := HBw.out.cell 1
      obtain ⟨c1, f1⟩ := HR4.out.at1
      rw [show ((k + 1 : Nat) : Int) = (k : Int) + 1 from by omega] at c1
      have htxt := HR4.out.txt (k + 1)
      have ⟨hsz1, hsz2⟩ : ¬ maxLen < (⟨#[39]⟩ : ByteArray).size + (st (Tr.now L (k + 1)).text).size ∧ (st (Tr.now L (k + 1)).text).size ≤ 70000 := by
        rw [st_size]
        exact ⟨by show ¬ maxLen < 1 + _; unfold maxLen; omega, htxt⟩
      have es : (⟨#[39]⟩ : ByteArray) ++ st (Tr.now L (k + 1)).text = st (39 :: (Tr.now L (k + 1)).text) := st_app [39] _
      have HEs := hid_ es
      clear es htxt
      by_cases h4 : (Tr.now L (k + 1)).kind = 4
      · have q4 : ((Tr.now L (k + 1)).kind == 4) = true := by rw [h4]; rfl
        have HA2 := hid_ (HA.out.trans (if_pos h4))
        have hSt := HR4.out.stepI (HR4.out.more (by rw [h4]; decide))
        rw [show ((k + 1 : Nat) : Int) = (k : Int) + 1 from by omega] at hSt
        have HSt := hid_ hSt
        have HF5 := hid_ (HF4.out.trans HSt.out.2)
        have HNd := hid_ (nodeL_c HSt.out.1 (by omega) ⟨21, 0, [], 39 :: (Tr.now L (k + 1)).text, [], [(n : Int)]⟩ rfl 1 rfl (by omega))
        unfold rv at HNd
        rw [← HEs.out, set_sz] at HNd
        clear HA h4 hSt
        go_wp2_with fail
        refine (HNd.out).mono ?_
        intro e w99 hE
        have hE2 := hE.pre HR.out HF5.out
        rw [← HA2.out] at hE2
        rcases hE2.cases with ⟨x, k99, ns99, hA, rfl, hR, hF⟩ | ⟨er, hA, rfl, hB⟩
        · have HE2 := hid_ hE2
          clear hE hE2 hA hR hF
          go_wp2_with fail
          go_ret
          exact HE2.out
        · have HE2 := hid_ hE2
          clear hE hE2 hA hB
          go_wp2_with fail
          exact ⟨rfl, HE2.out⟩
      have q4 : ((Tr.now L (k + 1)).kind == 4) = false := by rw [beq_eq_false_iff_ne]; exact h4
      have HA2 := hid_ (HA.out.trans (if_neg h4))
      clear HA h4
      by_cases h4 : (Tr.now L (k + 1)).kind = 5
      · have q5 : ((Tr.now L (k + 1)).kind != 5) = false := by rw [h4]; rfl
        have HMd := hid_ (MyR.made (w0 := W3) (e := 9) HR4.out (Nat.le_refl _) 4 #[.string ⟨#[110, 117, 108, 108]⟩, .string ⟨#[98, 111, 111, 108]⟩, .string ⟨#[105, 110, 116]⟩, .string ⟨#[114, 101, 99]⟩] rfl)
        have HBa := hid_ (below_alloc W3 (.cells #[.string ⟨#[110, 117, 108, 108]⟩, .string ⟨#[98, 111, 111, 108]⟩, .string ⟨#[105, 110, 116]⟩, .string ⟨#[114, 101, 99]⟩] 9))
        have HHas := hid_ (has_c (l := [[110, 117, 108, 108], [98, 111, 111, 108], [105, 110, 116], [114, 101, 99]]) _ HMd.out.own (by decide) (Tr.now L (k + 1)).text)
        have e2 : ∀ o, (W3.alloc o).cell? ⟨w2.heap.size, 1, none⟩ = some (.string (st (Tr.now L (k + 1)).text)) := fun o => (HBw.out.alloc o).cell 1
        have H4 := hid_ h4
        clear h4
        go_wp2_with fail
        refine HHas.out.mono ?_
        rintro e w5 ⟨rfl, hb5⟩
        have HR5 := hid_ ((HR4.out.below HBa.out).below hb5)
        have HF5 := hid_ (HF4.out.trans ((Fr.of_below HBa.out HR4.out).trans (Fr.of_below hb5 (HR4.out.below HBa.out))))
        obtain ⟨d1, g1⟩ := HR5.out.at1
        rw [show ((k + 1 : Nat) : Int) = (k : Int) + 1 from by omega] at d1
        clear hb5 c1 f1
        by_cases hm : (Tr.now L (k + 1)).text ∈ [[110, 117, 108, 108], [98, 111, 111, 108], [105, 110, 116], [114, 101, 99]]
        · have qm := decide_eq_true hm
          have HA3 := hid_ (HA2.out.trans (if_pos ⟨H4.out, hm⟩))
          have hSt := HR5.out.stepI (HR5.out.more (by rw [H4.out]; decide))
          rw [show ((k + 1 : Nat) : Int) = (k : Int) + 1 from by omega] at hSt
          have HSt := hid_ hSt
          have HF6 := hid_ (HF5.out.trans HSt.out.2)
          have HNd := hid_ (nodeL_c HSt.out.1 (by omega) ⟨21, 0, [], (Tr.now L (k + 1)).text, [], [(n : Int)]⟩ rfl 1 rfl (by omega))
          unfold rv at HNd
          rw [set_sz] at HNd
          clear HA2 hSt hm
          rw [qm]
          go_wp2_with fail
          refine (HNd.out).mono ?_
          intro e w99 hE
          have hE2 := hE.pre HR.out HF6.out
          rw [← HA3.out] at hE2
          rcases hE2.cases with ⟨x, k99, ns99, hA, rfl, hR, hF⟩ | ⟨er, hA, rfl, hB⟩
          · have HE2 := hid_ hE2
            clear hE hE2 hA hR hF
            go_wp2_with fail
            go_ret
            exact HE2.out
          · have HE2 := hid_ hE2
            clear hE hE2 hA hB
            go_wp2_with fail
            exact ⟨rfl, HE2.out⟩
        · have qm := decide_eq_false hm
          have HA3 := hid_ (HA2.out.trans (if_neg (fun h => hm h.2)))
          have HFl := hid_ (fail_c HR5.out 30)
          unfold rv at HFl
          clear HA2 hm
          rw [qm]
          go_wp2_with fail
          refine HFl.out.mono ?_
          rintro e w6 ⟨rfl, hb6⟩
          have HB6 := hid_ ((HF5.out.bel HR.out).trans hb6)
          clear hb6
          go_wp2_with fail
          rw [HA3.out]
          exact ⟨rfl, rfl, HB6.out⟩
      · have q5 : ((Tr.now L (k + 1)).kind != 5) = true := by simp [h4]
        have HA3 := hid_ (HA2.out.trans (if_neg (fun h => h4 h.1)))
        have HFl := hid_ (fail_c HR4.out 30)
        unfold rv at HFl
        clear HA2 h4
        go_wp2_with fail
        refine HFl.out.mono ?_
        rintro e w6 ⟨rfl, hb6⟩
        have HB6 := hid_ ((HF4.out.bel HR.out).trans hb6)
        clear hb6
        go_wp2_with fail
        rw [HA3.out]
        exact ⟨rfl, rfl, HB6.out⟩
end
end Go.Proofs.YtmgjmagniefhoaaGreatDoor

/- The tree's reader: what the closures of named do. Conditions: those that each theorem names. -/
namespace Go.Proofs.YtmgjmagniefhoaaGreatDoor
open Go.RowKit Go.Maps
section
variable {w w' : World} {rb k : Nat} {c : RC} {L : List Lx.Wd} {ns : List Tr.Nd}
/-- The variables of named, from block g on: the reader, the depth, the node. -/
structure NmV (w0 : World) (rb g : Nat) (d num : Int) (mod name : List UInt8) (lv : Value) (s : List Int) (W : World) : Prop where
  rB : Blk W g 63 #[rv rb]
  dB : Blk W (g + 1) 3 #[.int .i64 d]
  nB : Blk W (g + 2) 57 #[.int .i64 19, .int .i64 num, .string (st mod), .string (st name), .slice none 0 0, lv]
  ls : MyR w0 W rb 3 lv s.length (ints s)
  ne : lv.ownBlock ≠ some (g + 1)
  fr : ∀ i, i < 3 → Free W rb (g + i)
  le : w0.heap.size ≤ g
def NmI (w0 : World) (rb g : Nat) (d num : Int) (mod name : List UInt8) (s : List Int) (W : World) : Prop := ∃ lv, NmV w0 rb g d num mod name lv s W
variable {w0 W : World} {g V : Nat} {d num : Int} {mod name : List UInt8} {lv : Value} {s : List Int}
theorem NmV.to (h : NmV w0 rb g d num mod name lv s w) (hF : Fr rb w w') : NmV w0 rb g d num mod name lv s w' := by
  have key : ∀ i, i < 3 → ¬ (g + i = rb ∨ nvOf w rb = some (g + i)) := fun i hi hS => hS.elim (fun e => by have := (h.fr i hi).1; omega) (fun e => (h.fr i hi).2.1 e)
  have hlt := h.nB.lt
  exact ⟨h.rB.kp hF.kp (key 0 (by omega)), h.dB.kp hF.kp (key 1 (by omega)), h.nB.kp hF.kp (key 2 (by omega)), h.ls.fr hF, h.ne, fun i hi => (h.fr i hi).fr (by omega) hF, h.le⟩
theorem NmI.to (h : NmI w0 rb g d num mod name s w) (hF : Fr rb w w') : NmI w0 rb g d num mod name s w' := by
  obtain ⟨lv, h⟩ := h
  exact ⟨lv, h.to hF⟩
/-- A cell of the node is set: not its lists. -/
theorem NmV.set (h : NmV w0 rb g d num mod name lv s w) (hR : Rd w rb c L k ns) (hF : Fr rb w0 w) (i : Nat) (u : Value) :
    Blk (w.setCell ⟨g + 2, i, none⟩ u) (g + 2) 57 ((#[.int .i64 19, .int .i64 num, .string (st mod), .string (st name), .slice none 0 0, lv] : Array Value).setIfInBounds i u) ∧ Rd (w.setCell ⟨g + 2, i, none⟩ u) rb c L k ns ∧ Fr rb w0 (w.setCell ⟨g + 2, i, none⟩ u) ∧
      Blk (w.setCell ⟨g + 2, i, none⟩ u) g 63 #[rv rb] ∧ Blk (w.setCell ⟨g + 2, i, none⟩ u) (g + 1) 3 #[.int .i64 d] ∧ MyR w0 (w.setCell ⟨g + 2, i, none⟩ u) rb 3 lv s.length (ints s) ∧ (∀ i', i' < 3 → Free (w.setCell ⟨g + 2, i, none⟩ u) rb (g + i')) := by
  have k3 : Kp (fun q => q = g + 2) w (w.setCell ⟨g + 2, i, none⟩ u) := (Kp.refl (fun q => q = g + 2) w).setCell (p := ⟨g + 2, i, none⟩) (.inl rfl) u
  obtain ⟨hr, hfree, hf⟩ := hR.far k3 (fun q hq => by rw [hq]; exact h.fr 2 (by omega))
  have l3 : lv.ownBlock ≠ some (g + 2) := own_blk_ne h.ls.own h.nB (by decide)
  exact ⟨h.nB.set_ i u, hr, hf w0 hF (fun q hq => by rw [hq]; have := h.le; omega), h.rB.kp k3 (by omega), h.dB.kp k3 (by omega), ⟨own_kp h.ls.own k3 (fun q hq e => l3 (by rw [hq, e])), fun q hq => hfree q (h.ls.free q hq)⟩, fun i' hi' => hfree _ (h.fr i' hi')⟩
/-- The node's number, its names are set. -/
theorem NmV.setNum (h : NmV w0 rb g d num mod name lv s w) (hR : Rd w rb c L k ns) (hF : Fr rb w0 w) (z : Int) : NmV w0 rb g d z mod name lv s (w.setCell ⟨g + 2, 1, none⟩ (.int .i64 z)) ∧ Rd (w.setCell ⟨g + 2, 1, none⟩ (.int .i64 z)) rb c L k ns ∧ Fr rb w0 (w.setCell ⟨g + 2, 1, none⟩ (.int .i64 z)) := by
  obtain ⟨h1, h2, h3, h4, h5, h6, h7⟩ := h.set hR hF 1 (.int .i64 z)
  exact ⟨⟨h4, h5, h1, h6, h.ne, h7, h.le⟩, h2, h3⟩
theorem NmV.setMod (h : NmV w0 rb g d num mod name lv s w) (hR : Rd w rb c L k ns) (hF : Fr rb w0 w) (z : List UInt8) : NmV w0 rb g d num z name lv s (w.setCell ⟨g + 2, 2, none⟩ (.string (st z))) ∧ Rd (w.setCell ⟨g + 2, 2, none⟩ (.string (st z))) rb c L k ns ∧ Fr rb w0 (w.setCell ⟨g + 2, 2, none⟩ (.string (st z))) := by
  obtain ⟨h1, h2, h3, h4, h5, h6, h7⟩ := h.set hR hF 2 (.string (st z))
  exact ⟨⟨h4, h5, h1, h6, h.ne, h7, h.le⟩, h2, h3⟩
theorem NmV.setName (h : NmV w0 rb g d num mod name lv s w) (hR : Rd w rb c L k ns) (hF : Fr rb w0 w) (z : List UInt8) : NmV w0 rb g d num mod z lv s (w.setCell ⟨g + 2, 3, none⟩ (.string (st z))) ∧ Rd (w.setCell ⟨g + 2, 3, none⟩ (.string (st z))) rb c L k ns ∧ Fr rb w0 (w.setCell ⟨g + 2, 3, none⟩ (.string (st z))) := by
  obtain ⟨h1, h2, h3, h4, h5, h6, h7⟩ := h.set hR hF 3 (.string (st z))
  exact ⟨⟨h4, h5, h1, h6, h.ne, h7, h.le⟩, h2, h3⟩
/-- A number is put behind the others. -/
theorem NmV.put {lv' : Value} {w1 w3 : World} {x : Int} (h : NmV w0 rb g d num mod name lv s w) (hR : Rd w rb c L k ns) (hF : Fr rb w0 w) (hW : Below w.heap.size w w1) (hg : w1.grownBy w3 lv.ownBlock) (hown : w3.ownsRow w0.heap.size 3 1 lv' (s.length + 1) (ints s ++ [.int .i64 x])) (hat : ∀ q, lv'.ownBlock = some q → lv.ownBlock = some q ∨ w1.heap.size ≤ q) :
    w3.cell? ⟨g + 2, 5, none⟩ = some lv ∧ w3.frozen? ⟨g + 2, 5, none⟩ = false ∧ Rd (w3.setCell ⟨g + 2, 5, none⟩ lv') rb c L k ns ∧ Fr rb w0 (w3.setCell ⟨g + 2, 5, none⟩ lv') ∧ NmI w0 rb g d num mod name (s ++ [x]) (w3.setCell ⟨g + 2, 5, none⟩ lv') := by
  obtain ⟨r0, d0, m0, hls, hne, hfr, hle⟩ := h
  obtain ⟨hm, hr, hf, hk, hfree⟩ := hls.grown hR hF hW hg hown hat
  have n0 : lv.ownBlock ≠ some g := own_blk_ne hls.own r0 (by decide)
  have n3 : lv.ownBlock ≠ some (g + 2) := own_blk_ne hls.own m0 (by decide)
  have b0 := r0.kp hk n0
  have b1 := d0.kp hk hne
  have b3 := m0.kp hk n3
  have hlt : g + 1 < w1.heap.size := Nat.lt_of_lt_of_le d0.lt hW.size
  have k3 : Kp (fun q => q = g + 2) w3 (w3.setCell ⟨g + 2, 5, none⟩ lv') := (Kp.refl (fun q => q = g + 2) w3).setCell (p := ⟨g + 2, 5, none⟩) (.inl rfl) lv'
  obtain ⟨hr2, hfree2, hf2⟩ := hr.far k3 (fun q hq => by rw [hq]; exact hfree _ (hfr 2 (by omega)))
  have m3 : lv'.ownBlock ≠ some (g + 2) := own_blk_ne hown b3 (by decide)
  refine ⟨b3.cell 5, b3.frozen 5, hr2, hf2 w0 hf (fun q hq => by rw [hq]; omega), ?_⟩
  refine ⟨lv', b0.kp k3 (by omega), b1.kp k3 (by omega), b3.set_ 5 lv', ⟨?_, fun q hq => hfree2 q (hm.free q hq)⟩, fun e => ?_, fun i hi => hfree2 _ (hfree _ (hfr i hi)), hle⟩
  · have := own_kp hm.own k3 (fun q hq e => m3 (by rw [hq, e]))
    simpa [ints] using this
  · rcases hat _ e with e | e
    · exact hne e
    · omega
/-- One thing of a list, plainly. -/
def oneG (VF : Nat → Int → Nat → List Tr.Nd → Tr.An Int) (d : Int) (f : Nat) (_many : Nat) (s : List Int) (k : Nat) (M : List Tr.Nd) : Tr.An (List Int) :=
  Tr.bind (VF f (d + 1) k M) fun n k M => .ok (s ++ [n], k, M)
theorem list_row (L : List Lx.Wd) (t : Bool) (d : Int) (b : Nat) : RowF L (fun many s => s.length = b + many) (oneG (valF L t) d) (fun f many s k M => Tr.listF L f t d many s k M) := by
  refine ⟨fun f many s k M hP => ?_, fun f many s k M s' k' M' h => ?_, fun f many s k M s' k' M' hP h => ?_⟩
  · show Tr.listF L (f + 1) t d many s k M = _
    rw [Tr.listF]
    unfold oneG
    cases t <;> simp only [Tr.bind_bind] <;> rfl
  · unfold oneG at h
    obtain ⟨n, k3, M3, h3, g3⟩ := Tr.bind_ok h
    have := valF_on h3
    obtain ⟨_, rfl, _⟩ := Tr.ok_inj g3
    omega
  · unfold oneG at h
    obtain ⟨n, k3, M3, h3, g3⟩ := Tr.bind_ok h
    obtain ⟨rfl, _, _⟩ := Tr.ok_inj g3
    rw [List.length_append, hP]
    show b + many + 1 = _
    omega
set_option maxHeartbeats 4000000 in
set_option maxRecDepth 100000 in
theorem named1_c {k0 : Nat} {VF : Nat → Int → Nat → List Tr.Nd → Tr.An Int} (hV : ValC L k0 95 VF) {w0 : World} (h00 : ∃ k ns, Rd w0 rb c L k ns) (g b : Nat) (hb : b ≤ 16) (d num : Int) (mod name : List UInt8) (hd0 : 0 ≤ d) (hd : d ≤ 60) :
    OneC (NmI w0 rb g d num mod name) w0 rb c L k0 (fun many s => s.length = b + many) (oneG VF d) 181 #[.pointer (some ⟨g + 2, 0, none⟩), .pointer (some ⟨g, 0, none⟩), .pointer (some ⟨g + 1, 0, none⟩)] := by
  intro f many s k ns w hk0 hk1 hmany hP hf hR hF hI
  have HP2 := hid_ hP
  have wd : IntKind.i64.wrap (d + 1) = d + 1 := IntWalk.i64_in _ (by omega)
  obtain ⟨kz, nsz, h00⟩ := h00
  obtain ⟨lv, hI⟩ := hI
  obtain ⟨A4, dd4, rfl⟩ := own_form hI.ls.own
  have HR0 := hid_ h00
  have HR5 := hid_ hR
  have HF5 := hid_ hF
  have HFd5 := hid_ hI
  have HV := hid_ hV
  have HA5 := hid_ (show oneG VF d f many s k ns = Tr.bind (VF f (d + 1) k ns) fun n k M => .ok (s ++ [n], k, M) from rfl)
  have c5 : w.cell? ⟨g + 2, 5, none⟩ = some (.slice A4 s.length dd4) := hI.nB.cell 5
  have c2 : w.cell? ⟨g, 0, none⟩ = some (rv rb) := hI.rB.cell 0
  have c1' : w.cell? ⟨g + 1, 0, none⟩ = some (.int .i64 d) := hI.dB.cell 0
  have HVc := hid_ (fun n => HV.out (w.drewN n) rb k c ns f (d + 1) (by omega) (by omega) (by omega) (by omega) (by omega) (HR5.out.drew n))
  obtain ⟨j0, hj0, hy0, hy1, hy2⟩ := info_parts Tryz.infoI
  clear h00 hR hF hI hV hP
  generalize oneG VF d f many s k ns = A at *
  unfold rv at c2 HVc
  show Calls _ _ #[_, _, _, _] _ _
  go_enter Tryz.func181, Tryz.ntmps181
  go_wp2_with fail
  go_region_law (first
    | (refine step_append_any (by rfl) (.tmp 6) (.tmp 11) 22 (by rfl) w0.heap.size 3 j0 _ 1 8 Tryz.underlying22 hj0 hy0 hy1 hy2 rfl (by omega) (.slice A4 s.length dd4) s.length _ (by rfl) HO7.out.own (some ⟨w6.heap.size, 0, none⟩) 1 1 [.int .i64 n6] (by rfl) rfl (fun h => by cases h) (by intro ad had j u hu; injection had with had; subst had; exact World.news_of_block (heap_alloc_new _ _) j u hu) (by simp [Value.oneCell']) (by have := HP2.out; unfold maxLen; omega) (by have := HP2.out; omega) (Nat.le_trans HF6.out.kp.size (below_alloc _ _).size) ?_; intro A7 c7 w7 hown hgrow hat; obtain ⟨e1, e2, hr, hf2, hz⟩ := HFd6.out.put HR6.out HF6.out (below_alloc _ _) hgrow hown hat; have HRk := hid_ hr; have HFk := hid_ hf2; have HZk := hid_ hz; clear hr hf2 hz hown hgrow hat)
    | (go_simp; refine (HVc.out 1).mono ?_; intro e w6 hE; rcases hE.cases with ⟨n6, k6, ns6, hA, rfl, hR, hF⟩ | ⟨er, hA, rfl, hB⟩; rotate_left; (focus (have HAe := hid_ (HA5.out.trans (Tr.bind_err hA)); have HBe := hid_ ((HF5.out.bel HR0.out).trans ((Fr.drew HR5.out 1).bel HR5.out |>.trans hB)); have HQ := hid_ (show EPI (NmI w0 rb g d num mod name) w0 rb c L A (.panicked (thrown er)) w6 from by rw [HAe.out]; exact ⟨rfl, HBe.out⟩); clear hE hA hB; exact ⟨rfl, HQ.out⟩)); have HA6 := hid_ (HA5.out.trans (Tr.bind_good hA)); have HF6 := hid_ (HF5.out.trans ((Fr.drew HR5.out 1).trans hF)); have HR6 := hid_ hR; have HFd6 := hid_ ((HFd5.out.to (Fr.drew HR5.out 1)).to hF); have HO7 := hid_ (HFd6.out.ls.fr (Fr.of_below (below_alloc w6 (.cells #[.int .i64 n6] 3)) hR)); have d4 := HFd6.out.nB.cell 5; have e4 := fun o => (HFd6.out.nB.alloc o).cell 5; clear hE hA hR hF)
    | fail)
  all_goals
    go_wp2_with fail
    go_end0
    rw [HA6.out]
    exact ⟨rfl, HRk.out, HFk.out, HZk.out⟩
set_option maxHeartbeats 4000000 in
set_option maxRecDepth 100000 in
theorem named2_c {k0 : Nat} {VF : Nat → Int → Nat → List Tr.Nd → Tr.An Int} (hV : ValC L k0 97 VF) {w0 : World} (h00 : ∃ k ns, Rd w0 rb c L k ns) (g b : Nat) (hb : b ≤ 16) (d num : Int) (mod name : List UInt8) (hd0 : 0 ≤ d) (hd : d ≤ 60) :
    OneC (NmI w0 rb g d num mod name) w0 rb c L k0 (fun many s => s.length = b + many) (oneG VF d) 182 #[.pointer (some ⟨g + 2, 0, none⟩), .pointer (some ⟨g, 0, none⟩), .pointer (some ⟨g + 1, 0, none⟩)] := by
  intro f many s k ns w hk0 hk1 hmany hP hf hR hF hI
  have HP2 := hid_ hP
  have wd : IntKind.i64.wrap (d + 1) = d + 1 := IntWalk.i64_in _ (by omega)
  obtain ⟨kz, nsz, h00⟩ := h00
  obtain ⟨lv, hI⟩ := hI
  obtain ⟨A4, dd4, rfl⟩ := own_form hI.ls.own
  have HR0 := hid_ h00
  have HR5 := hid_ hR
  have HF5 := hid_ hF
  have HFd5 := hid_ hI
  have HV := hid_ hV
  have HA5 := hid_ (show oneG VF d f many s k ns = Tr.bind (VF f (d + 1) k ns) fun n k M => .ok (s ++ [n], k, M) from rfl)
  have c5 : w.cell? ⟨g + 2, 5, none⟩ = some (.slice A4 s.length dd4) := hI.nB.cell 5
  have c2 : w.cell? ⟨g, 0, none⟩ = some (rv rb) := hI.rB.cell 0
  have c1' : w.cell? ⟨g + 1, 0, none⟩ = some (.int .i64 d) := hI.dB.cell 0
  have HVc := hid_ (fun n => HV.out (w.drewN n) rb k c ns f (d + 1) (by omega) (by omega) (by omega) (by omega) (by omega) (HR5.out.drew n))
  obtain ⟨j0, hj0, hy0, hy1, hy2⟩ := info_parts Tryz.infoI
  clear h00 hR hF hI hV hP
  generalize oneG VF d f many s k ns = A at *
  unfold rv at c2 HVc
  show Calls _ _ #[_, _, _, _] _ _
  go_enter Tryz.func182, Tryz.ntmps182
  go_wp2_with fail
  go_region_law (first
    | (refine step_append_any (by rfl) (.tmp 6) (.tmp 11) 22 (by rfl) w0.heap.size 3 j0 _ 1 8 Tryz.underlying22 hj0 hy0 hy1 hy2 rfl (by omega) (.slice A4 s.length dd4) s.length _ (by rfl) HO7.out.own (some ⟨w6.heap.size, 0, none⟩) 1 1 [.int .i64 n6] (by rfl) rfl (fun h => by cases h) (by intro ad had j u hu; injection had with had; subst had; exact World.news_of_block (heap_alloc_new _ _) j u hu) (by simp [Value.oneCell']) (by have := HP2.out; unfold maxLen; omega) (by have := HP2.out; omega) (Nat.le_trans HF6.out.kp.size (below_alloc _ _).size) ?_; intro A7 c7 w7 hown hgrow hat; obtain ⟨e1, e2, hr, hf2, hz⟩ := HFd6.out.put HR6.out HF6.out (below_alloc _ _) hgrow hown hat; have HRk := hid_ hr; have HFk := hid_ hf2; have HZk := hid_ hz; clear hr hf2 hz hown hgrow hat)
    | (go_simp; refine (HVc.out 1).mono ?_; intro e w6 hE; rcases hE.cases with ⟨n6, k6, ns6, hA, rfl, hR, hF⟩ | ⟨er, hA, rfl, hB⟩; rotate_left; (focus (have HAe := hid_ (HA5.out.trans (Tr.bind_err hA)); have HBe := hid_ ((HF5.out.bel HR0.out).trans ((Fr.drew HR5.out 1).bel HR5.out |>.trans hB)); have HQ := hid_ (show EPI (NmI w0 rb g d num mod name) w0 rb c L A (.panicked (thrown er)) w6 from by rw [HAe.out]; exact ⟨rfl, HBe.out⟩); clear hE hA hB; exact ⟨rfl, HQ.out⟩)); have HA6 := hid_ (HA5.out.trans (Tr.bind_good hA)); have HF6 := hid_ (HF5.out.trans ((Fr.drew HR5.out 1).trans hF)); have HR6 := hid_ hR; have HFd6 := hid_ ((HFd5.out.to (Fr.drew HR5.out 1)).to hF); have HO7 := hid_ (HFd6.out.ls.fr (Fr.of_below (below_alloc w6 (.cells #[.int .i64 n6] 3)) hR)); have d4 := HFd6.out.nB.cell 5; have e4 := fun o => (HFd6.out.nB.alloc o).cell 5; clear hE hA hR hF)
    | fail)
  all_goals
    go_wp2_with fail
    go_end0
    rw [HA6.out]
    exact ⟨rfl, HRk.out, HFk.out, HZk.out⟩
end
end Go.Proofs.YtmgjmagniefhoaaGreatDoor
