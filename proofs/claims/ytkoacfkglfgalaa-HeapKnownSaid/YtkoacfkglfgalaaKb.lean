/- HeapKnown: the walk. Conditions: none. -/
import Derived.Test.YtkoacfkglfgalaaRj
import Derived.Test.YtkoacfkglfgalaaKa
import Derived.Test.YtkoacfkglfgalaaY
namespace Go.Proofs.Ytkoacfkglfgalaa
open Go.RowKit Go.Maps

set_option maxHeartbeats 1000000 in
/-- Does a heap pop that? (At any footprint.) -/
theorem pops_any {F : Nat → Prop} {w : World} {hb : Nat} {S : List Item} (h : IsH F w hb S) (id r : Int) :
    Calls Try.prog 29 #[.pointer (some ⟨hb, 0, none⟩), .int .i64 id, .int .i64 r] w fun e w' => e = .returned (.bool (popI S == id && popK S == r && popE S == 0)) ∧ Left F w hb S.tail w' := by
  have H0 := hid_ h
  clear h
  generalize h1 : (popI S == id) = b1
  generalize h2 : (popK S == r) = b2
  generalize h3 : (popE S == 0) = b3
  cases b1 <;> cases b2 <;> cases b3 <;>
  · go_enter Try.func29, Try.ntmps29
    go_wp2_with fail
    refine (pop_any H0.out).mono ?_
    rintro e w1 ⟨rfl, hl⟩
    have HL := hid_ hl
    clear hl
    go_wp2
    go_ret
    exact ⟨rfl, HL.out⟩

section
variable {X : Nat → Prop} {B ha hb : Nat} {w0 w w' : World} {S T : List Item}
theorem Tp.pops (h : Tp X B w0 w ha hb S T) (id r : Int) : Calls Try.prog 29 #[.pointer (some ⟨ha, 0, none⟩), .int .i64 id, .int .i64 r] w fun e w' => e = .returned (.bool (popI S == id && popK S == r && popE S == 0)) ∧ Tp X B w0 w' ha hb S.tail T := by
  obtain ⟨F, G, h1, h2, h3, h4⟩ := h.isH
  exact (pops_any h1 id r).mono fun e w' ⟨he, hl⟩ => ⟨he, (h.on h2 h3 h4 hl).tp⟩
theorem Tp.length (h : Tp X B w0 w ha hb S T) : Calls Try.prog 13 #[.pointer (some ⟨ha, 0, none⟩)] w fun e w' => e = .returned (.int .i64 S.length) ∧ w = w' := by
  obtain ⟨F, G, h1, _⟩ := h.isH
  exact hlen_c h1
theorem Tp.copied {hb' : Nat} {w1 : World} (h : Own B w0 w hb S) (hI : IsH (fun q => w.heap.size ≤ q) w1 hb' S) (b : Below w.heap.size w w1) : Tp (fun _ => False) B w0 w1 hb hb' S S := by
  have k1 := b.size
  exact ⟨⟨_, _, h.isH.blocks.below b, hI.blocks, fun q hq => ⟨hq.1, by have := hq.2; omega, id, fun x => by have := hq.2; have := x.1; omega⟩, fun q hq => ⟨by have := h.le; have := hq.1; omega, hq.2, id⟩⟩, h.below.trans (b.mono h.le), Nat.le_trans h.le k1, fun q hq => hq.elim⟩
end

/-- What a literal row of triples reads as. -/
theorem RdD.lit (w : World) (cs : List Int) (t : TypeId) (h : cs.length = 18) (hw : ∀ z ∈ cs, Wf z) : RdD (w.alloc (.cells (cs.map (Value.int .i64)).toArray t)) (some ⟨w.heap.size, 0, none⟩) 6 (fun j l => cs.getD (j * 3 + l) 0) := by
  refine ⟨by omega, fun j l hj hl => ?_, fun _ => ⟨w.heap.size, 0, rfl, fun j hj l hl => ?_⟩⟩
  · have : j * 3 + l < cs.length := by omega
    rw [List.getD_eq_getElem?_getD, List.getElem?_eq_getElem this]
    exact hw _ (List.getElem_mem _)
  · rw [World.cell?_alloc_at _ _ _ _ rfl]
    have : j * 3 + l < cs.length := by omega
    simp [List.getD_eq_getElem?_getD, this]

def endsL : List Int := [-9223372036854775808, -1, 0, 1, 9999, 10000, 9007199254740991, 9007199254740992, 9223372036854775807]
theorem ends_wf : ∀ z ∈ endsL, Wf z := by decide

set_option maxHeartbeats 8000000 in
set_option maxRecDepth 100000 in
theorem known_try (w : World) : Calls Try.prog 8 #[] w fun e w' => e = .returned (.bool true) ∧ Below w.heap.size w w' := by
  go_enter Try.func8, Try.ntmps8
  go_wp2
  go_loopw [2] (fun v2 wr => ∃ (i : Nat), v2 = .int .i64 i ∧ i ≤ 9 ∧ Below w.heap.size w wr ∧ ∃ t, Fn wr w.heap.size t 9 (fun j => .int .i64 (endsL.getD j 0))) (fun v _ => 9 - (intOf v).toNat)
  case atStart =>
    refine ⟨0, rfl, by omega, (Below.refl _ _).alloc (Nat.le_refl _) _, _, Fn.new _ _ _ _ (fun j hj => ?_)⟩
    match j, hj with
    | 0, _ => rfl
    | 1, _ => rfl
    | 2, _ => rfl
    | 3, _ => rfl
    | 4, _ => rfl
    | 5, _ => rfl
    | 6, _ => rfl
    | 7, _ => rfl
    | 8, _ => rfl
  case round =>
    obtain ⟨i, rfl, hi, hb0, t, hF⟩ := hrel
    have HB := hid_ hb0
    have HF := hid_ hF
    clear hb0 hF
    have HS := hid_ HB.out.size
    generalize hee : w.heap.size = ee at *
    by_cases hlt : i < 9
    · have b1 : (i : Int) < 9 := by omega
      have b0 : (0 : Int) ≤ (i : Int) := by omega
      go_wp2
      generalize wr = w1 at *
      go_loopw [3] (fun v3 wq => ∃ (k : Nat), v3 = .int .i64 k ∧ k ≤ 9 ∧ Below w1.heap.size w1 wq) (fun v _ => 9 - (intOf v).toNat)
      case atStart => exact ⟨0, rfl, by omega, Below.refl _ _⟩
      case round =>
        obtain ⟨k, rfl, hk, hbq⟩ := hrel
        have HQ := hid_ hbq
        clear hbq
        by_cases hlk : k < 9
        · have c1 : (k : Int) < 9 := by omega
          have c0 : (0 : Int) ≤ (k : Int) := by omega
          have x0 := below_cell HQ.out (HF.out.cell i (by omega))
          have y0 := below_cell HQ.out (HF.out.cell k (by omega))
          have wx : Wf (endsL.getD i 0) := by
            rw [List.getD_eq_getElem?_getD, List.getElem?_eq_getElem (show i < endsL.length from hlt)]
            exact ends_wf _ (List.getElem_mem _)
          have wy : Wf (endsL.getD k 0) := by
            rw [List.getD_eq_getElem?_getD, List.getElem?_eq_getElem (show k < endsL.length from hlk)]
            exact ends_wf _ (List.getElem_mem _)
          have HW := hid_ (And.intro wx wy)
          clear wx wy
          generalize endsL.getD i 0 = x at *
          generalize endsL.getD k 0 = y at *
          go_wp2
          have HL := hid_ ((RdD.lit wr [0, 5, 5, 0, x, y, 6, x, 0, 0, x, y, 7, y, 0, 4, 0, 0] 53 rfl (by
            intro z hz
            simp only [List.mem_cons, List.not_mem_nil, or_false] at hz
            rcases hz with rfl | rfl | rfl | rfl | rfl | rfl | rfl | rfl | rfl | rfl | rfl | rfl | rfl | rfl | rfl | rfl | rfl | rfl
            all_goals first | exact HW.out.1 | exact HW.out.2 | decide)).below ((Below.refl _ _).drew))
          have HA := hid_ ((((Below.refl wr.heap.size wr).alloc (Nat.le_refl _) (.cells ([0, 5, 5, 0, x, y, 6, x, 0, 0, x, y, 7, y, 0, 4, 0, 0].map (Value.int .i64)).toArray 53)).drew))
          go_region_held3 (fun W => W.cell? ⟨ee, i, none⟩ = some (.int .i64 x) ∧ W.cell? ⟨ee, k, none⟩ = some (.int .i64 y))
            (first | exact ⟨x0, y0⟩ | (refine And.intro ?_ ?_ <;> (go_keep; done)) | (refine And.intro ?_ ?_ <;> exact below_cell HZ.out (by assumption)))
            ((go_at_call 7; refine (plays_try HL.out).mono ?_; rintro e wa ⟨rfl, hl⟩; have HZ := hid_ (HA.out.trans (hl.mono HA.out.size))))
          clear x0 y0 HL HA
          go_wp2
          go_roundw
          case rel => exact ⟨k + 1, by go_num, by omega, HQ.out.trans (HZ.out.mono HQ.out.size)⟩
          case measure => simp [intOf]; omega
        · have c1 : ¬ (k : Int) < 9 := by omega
          go_wp2
          go_roundw
          case rel => exact ⟨i + 1, by go_num, by omega, HB.out.trans (HQ.out.mono HS.out), t, HF.out.below HQ.out⟩
          case measure => simp [intOf]; omega
    · have b1 : ¬ (i : Int) < 9 := by omega
      have hSd : decide ((i : Int) < 9) = false := decide_eq_false b1
      go_wp2_with fail
      refine (hnew_c wr).mono ?_
      rintro e w2 ⟨hb, rfl, hN, hB2⟩
      have O1 := hid_ (Own.start hN hB2)
      have HB2 := hid_ (HB.out.trans (hB2.mono HS.out))
      clear hN hB2
      go_wp2_with fail
      refine (put_any O1.out.isH 1 1).mono ?_
      rintro e w3 ⟨rfl, hl⟩
      rw [show putE 1 1 = 0 from rfl]
      have O2 := hid_ (show Own wr.heap.size wr w3 hb [(1, 1)] from O1.out.left hl)
      clear hl O1
      go_wp2_with fail
      refine (copy_c O2.out.isH).mono ?_
      rintro e w4 ⟨cb, rfl, hI, hB4⟩
      have T1 := hid_ (Tp.copied O2.out hI hB4).swap
      clear hI hB4
      go_wp2_with fail
      refine (T1.out.put 2 0).mono ?_
      rintro e w5 ⟨rfl, hl⟩
      rw [show putE 2 0 = 0 from rfl]
      have T2 := hid_ (show Tp (fun _ => False) wr.heap.size wr w5 hb cb [(1, 1)] [(2, 0), (1, 1)] from hl.tp.swap)
      clear hl T1
      go_wp2_with fail
      refine T2.out.length.mono ?_
      rintro e w6 ⟨rfl, rfl⟩
      go_wp2_with fail
      refine (T2.out.pops 1 1).mono ?_
      rintro e w6 ⟨rfl, hl⟩
      have T3 := hid_ (show Tp (fun _ => False) wr.heap.size wr w6 cb hb [(2, 0), (1, 1)] [] from hl.swap)
      rw [show (popI [((1 : Int), (1 : Int))] == 1 && popK [((1 : Int), (1 : Int))] == 1 && popE [((1 : Int), (1 : Int))] == 0) = true from rfl]
      clear hl T2
      go_wp2_with fail
      refine T3.out.length.mono ?_
      rintro e w7 ⟨rfl, rfl⟩
      go_wp2_with fail
      refine (T3.out.pops 2 0).mono ?_
      rintro e w7 ⟨rfl, hl⟩
      have T4 := hid_ (show Tp (fun _ => False) wr.heap.size wr w7 cb hb [(1, 1)] [] from hl)
      rw [show (popI [((2 : Int), (0 : Int)), (1, 1)] == 2 && popK [((2 : Int), (0 : Int)), (1, 1)] == 0 && popE [((2 : Int), (0 : Int)), (1, 1)] == 0) = true from rfl]
      clear hl T3
      go_wp2_with fail
      refine (T4.out.pops 1 1).mono ?_
      rintro e w8 ⟨rfl, hl⟩
      rw [show (popI [((1 : Int), (1 : Int))] == 1 && popK [((1 : Int), (1 : Int))] == 1 && popE [((1 : Int), (1 : Int))] == 0) = true from rfl]
      have HB8 := hid_ (HB.out.trans (hl.below.mono HS.out))
      clear hl T4
      go_wp2_with fail
      generalize hes : w8.heap.size = es at *
      have HBs := hid_ (show Below es w8 w8 from Below.refl _ _)
      go_loopw [6, 7] (fun v6 v7 wx => ∃ (z : Nat), v7 = .int .i64 z ∧ z ≤ 2 ∧ Nh wx v6 ∧ Below es w8 wx) (fun _ v _ => 2 - (intOf v).toNat)
      case atStart => exact ⟨0, rfl, by omega, .inl rfl, HBs.out⟩
      case round =>
        obtain ⟨z, rfl, hz, hn, hbx⟩ := hrel
        rename_i v6 _ _
        have HNh := hid_ hn
        have HX := hid_ hbx
        clear hn hbx
        by_cases hlz : z < 2
        · have d1 : (z : Int) < 2 := by omega
          go_wp2_with fail
          refine (pop_n HNh.out).mono ?_
          rintro e wa ⟨rfl, rfl⟩
          go_wp2_with fail
          refine (first_n HNh.out).mono ?_
          rintro e wa ⟨rfl, rfl⟩
          go_wp2_with fail
          refine (rank_n HNh.out 0).mono ?_
          rintro e wa ⟨rfl, rfl⟩
          go_wp2_with fail
          refine (put_n HNh.out 0 0).mono ?_
          rintro e wa ⟨rfl, rfl⟩
          go_wp2_with fail
          refine (remove_n HNh.out 0).mono ?_
          rintro e wa ⟨rfl, rfl⟩
          go_wp2_with fail
          refine (len_n HNh.out).mono ?_
          rintro e wa ⟨rfl, rfl⟩
          go_wp2_with fail
          refine (ids_n HNh.out).mono ?_
          rintro e wa ⟨rfl, rfl⟩
          go_wp2_with fail
          refine (copy_n HNh.out).mono ?_
          rintro e wa ⟨rfl, rfl⟩
          go_wp2
          go_roundw
          case rel => exact ⟨z + 1, by go_num, by omega, .inr ⟨_, _, rfl, Blk.new _ _ _⟩, HX.out.trans (((Below.refl _ _).alloc (Nat.le_refl _) _).mono (by have := HX.out.size; omega))⟩
          case measure => simp [intOf]; omega
        · have d1 : ¬ (z : Int) < 2 := by omega
          go_wp2_with fail
          refine (works_c _).mono ?_
          rintro e wa ⟨rfl, hl⟩
          have HB9 := hid_ (HB8.out.trans ((HX.out.trans (hl.mono (by have := HX.out.size; omega))).mono (by have := HB8.out.size; omega)))
          clear hl
          go_wp2
          go_ret
          exact ⟨rfl, by rw [hee]; exact HB9.out⟩
end Go.Proofs.Ytkoacfkglfgalaa
