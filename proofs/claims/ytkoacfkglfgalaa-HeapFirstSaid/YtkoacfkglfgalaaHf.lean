/- HeapFirst: the walk. Conditions: what its argument reads as. -/
import Derived.Test.YtkoacfkglfgalaaV
namespace Go.Proofs.Ytkoacfkglfgalaa
open Go.RowKit Go.Maps

/-- A slice of arrays of three numbers that reads as f. -/
structure RdT (w : World) (A : Option Addr) (n : Nat) (f : Nat → Nat → Int) : Prop where
  low : n ≤ 100000000000000
  cells : 0 < n → ∃ b off, A = some ⟨b, off, none⟩ ∧ ∀ j, j < n → ∀ l, l < 3 → w.cell? ⟨b, off + j * 3 + l, none⟩ = some (.int .i64 (f j l))
theorem RdT.below {w w' : World} {A : Option Addr} {n : Nat} {f : Nat → Nat → Int} (h : RdT w A n f) (hb : Below w.heap.size w w') : RdT w' A n f :=
  ⟨h.low, fun h0 => by
    obtain ⟨b, off, e, hc⟩ := h.cells h0
    exact ⟨b, off, e, fun j hj l hl => below_cell hb (hc j hj l hl)⟩⟩

/-- One heap of the call's own. -/
abbrev Hq (B : Nat) (w0 w : World) (hb : Nat) (S : List Item) : Prop := Hp (fun _ => False) B w0 w hb S
section
variable {B hb : Nat} {w0 w w' : World} {S : List Item}
theorem Hq.put (h : Hq B w0 w hb S) (id r : Int) : Calls Try.prog 12 #[.pointer (some ⟨hb, 0, none⟩), .int .i64 id, .int .i64 r] w fun e w' => e = .returned (.int .i64 (putE id r)) ∧ Hq B w0 w' hb (putR id r S) := by
  obtain ⟨F, h1, h2⟩ := h.isH
  exact (put_any h1 id r).mono fun e w' ⟨he, hl⟩ => ⟨he, h.left h2 (fun _ x => x.elim) hl⟩
theorem Hq.pop (h : Hq B w0 w hb S) : Calls Try.prog 14 #[.pointer (some ⟨hb, 0, none⟩)] w fun e w' => e = .returned (.tuple #[.int .i64 (popI S), .int .i64 (popK S), .int .i64 (popE S)]) ∧ Hq B w0 w' hb S.tail := by
  obtain ⟨F, h1, h2⟩ := h.isH
  exact (pop_any h1).mono fun e w' ⟨he, hl⟩ => ⟨he, h.left h2 (fun _ x => x.elim) hl⟩
theorem Hq.first (h : Hq B w0 w hb S) : Calls Try.prog 16 #[.pointer (some ⟨hb, 0, none⟩)] w fun e w' => e = .returned (.tuple #[.int .i64 (popI S), .int .i64 (popK S), .int .i64 (popE S)]) ∧ Hq B w0 w' hb S := by
  obtain ⟨F, h1, h2⟩ := h.isH
  exact (first_any h1).mono fun e w' ⟨he, hl⟩ => ⟨he, h.after hl⟩
theorem Hq.ids (h : Hq B w0 w hb S) : Calls Try.prog 17 #[.pointer (some ⟨hb, 0, none⟩)] w fun e w' => ∃ A c, e = .returned (.slice A S.length c) ∧ RdI w' A S.length (idsS S) ∧ Hq B w0 w' hb S := by
  obtain ⟨F, h1, h2⟩ := h.isH
  have hl := h1.good.len
  exact (ids_c h1).mono fun e w' ⟨A, c, he, hown, hb⟩ => ⟨A, c, he, RdI.of_own hown (by omega), h.after hb⟩
theorem Hq.rankc (h : Hq B w0 w hb S) {p : Item} (hp : p ∈ S) : Calls Try.prog 18 #[.pointer (some ⟨hb, 0, none⟩), .int .i64 p.1] w fun e w' => e = .returned (.tuple #[.int .i64 p.2, .bool true]) ∧ w = w' := by
  obtain ⟨F, h1, h2⟩ := h.isH
  exact rank_c (r := p.2) h1 hp
theorem Hq.srt (h : Hq B w0 w hb S) : Srt S := by
  obtain ⟨F, h1, h2⟩ := h.isH
  exact h1.srt
end
theorem ids_mem {S : List Item} {k : Nat} (h : k < S.length) : ∃ p ∈ S, (idsS S).getD k 0 = p.1 := by
  have hl : (idsS S).length = S.length := by simp [idsS]
  have h1 : (idsS S).getD k 0 ∈ idsS S := by
    rw [List.getD_eq_getElem?_getD, List.getElem?_eq_getElem (by omega)]
    exact List.getElem_mem _
  have h2 : (idsS S).getD k 0 ∈ S.map (·.1) := (List.mergeSort_perm _ _).mem_iff.1 h1
  obtain ⟨p, hp, e⟩ := List.mem_map.1 h2
  exact ⟨p, hp, e.symm⟩

set_option maxHeartbeats 8000000 in
set_option maxRecDepth 100000 in
theorem first_try {w : World} {A : Option Addr} {n c : Nat} {f : Nat → Nat → Int} (h : RdT w A n f) :
    Calls Try.prog 5 #[.slice A n c] w fun e w' => e = .returned (.bool true) ∧ Below w.heap.size w w' := by
  have HX := hid_ h
  have hlow := h.low
  clear h
  go_enter Try.func5, Try.ntmps5
  go_wp2_with fail
  refine (hnew_c w).mono ?_
  rintro e w1 ⟨hb, rfl, hN, hB⟩
  have P0 := hid_ (show Hq w.heap.size w w1 hb [] from Hp.start hN (fun _ h => h.elim) hB hB.size)
  clear hN hB
  go_wp2
  go_loopw [4] (fun v wr => ∃ (i : Nat) (S : List Item), v = .int .i64 i ∧ i ≤ n ∧ i ≤ 60 ∧ Hq w.heap.size w wr hb S) (fun v _ => n - (intOf v).toNat)
  case atStart => exact ⟨0, [], rfl, by omega, by omega, P0.out⟩
  case round =>
    obtain ⟨i, S, rfl, hin, hi60, hH⟩ := hrel
    have HH := hid_ hH
    clear hH
    by_cases hlt : i < n ∧ i < 60
    · obtain ⟨hlt1, hlt2⟩ := hlt
      obtain ⟨b, off, hA, hc⟩ := (HX.out.below HH.out.below).cells (by omega)
      have c0 : wr.cell? ⟨b, off + i * 3, none⟩ = some (.int .i64 (f i 0)) := hc i hlt1 0 (by omega)
      have c1 := hc i hlt1 1 (by omega)
      have c2w := (by
        obtain ⟨b', off', hA', hc'⟩ := HX.out.cells (by omega)
        rw [hA] at hA'
        injection hA' with hA'
        injection hA' with e1 e2
        subst e1 e2
        exact hc' i hlt1 2 (by omega) : w.cell? ⟨b, off + i * 3 + 2, none⟩ = some (.int .i64 (f i 2)))
      subst hA
      clear hc
      generalize f i 0 = x0 at *
      generalize f i 1 = x1 at *
      generalize f i 2 = x2 at *
      have b0 : (0 : Int) ≤ (i : Int) := by omega
      have b1 : (i : Int) < (n : Int) := by omega
      have b2 : (i : Int) < 60 := by omega
      go_wp2
      go_region_held3 (fun W => Hq w.heap.size w W hb S ∧ W.cell? ⟨b, off + i * 3, none⟩ = some (.int .i64 x0) ∧ W.cell? ⟨b, off + i * 3 + 1, none⟩ = some (.int .i64 x1))
        ((repeat' apply And.intro) <;> first | (go_keep; done) | (go_simp; done) | (exact HH.out.drew) | (exact Hp.after (by assumption) hbl) | (exact below_cell hbl (by go_simp)) | (exact Hp.after (Hp.drew (by assumption)) hbl) | (exact Hp.drew (by assumption)))
        (first | (go_at_call 11; refine (row_c _ _ _).mono ?_; (rintro e w' ⟨rfl, hbl⟩)))
      rename_i hS
      obtain ⟨hq, _, _⟩ := hS
      have HQ := hid_ hq
      clear hq
      generalize x0 % 60 = id1 at *
      generalize x1 % 12 = r1 at *
      go_wp2_with fail
      refine (HQ.out.put id1 r1).mono ?_
      rintro e wb ⟨rfl, hl⟩
      have HL := hid_ hl
      have c2 := below_cell hl.below c2w
      clear hl
      have hn0 : 0 ≤ x2 % 3 := Int.emod_nonneg _ (by omega)
      have hn1 : x2 % 3 < 3 := Int.emod_lt_of_pos _ (by omega)
      have CB := hid_ (fun w => bring_c x2 3 w (by omega) (by omega))
      generalize x2 % 3 = y at *
      obtain ⟨t, rfl⟩ := Int.eq_ofNat_of_zero_le hn0
      go_wp2_with fail
      refine (CB.out _).mono ?_
      rintro e wc ⟨rfl, rfl⟩
      clear CB
      go_wp2
      go_loopw [7] (fun v wr => ∃ (z : Nat) (S : List Item), v = .int .i64 z ∧ z ≤ 2 ∧ Hq w.heap.size w wr hb S) (fun v _ => (intOf v).toNat)
      case atStart => exact ⟨t, _, rfl, by omega, HL.out⟩
      case round =>
        obtain ⟨z, S2, rfl, hz, hH2⟩ := hrel
        have HH2 := hid_ hH2
        clear hH2
        by_cases hz0 : 0 < z
        · have z1 : (0 : Int) < (z : Int) := by omega
          have q1 : (popI S2 != popI S2) = false := by simp
          have q2 : (popK S2 != popK S2) = false := by simp
          have q3 : (popE S2 != popE S2) = false := by simp
          go_wp2_with fail
          refine HH2.out.first.mono ?_
          rintro e wd ⟨rfl, hl⟩
          have HF := hid_ hl
          clear hl
          go_wp2_with fail
          refine HF.out.pop.mono ?_
          rintro e we ⟨rfl, hl⟩
          have HP := hid_ hl
          clear hl
          go_wp2_with fail
          refine HP.out.ids.mono ?_
          rintro e wg ⟨A2, c2, rfl, hrd, hl⟩
          have HR := hid_ hrd
          have HI := hid_ hl
          clear hl hrd
          cases S2 with
          | nil =>
            rw [show popE ([] : List Item) = 9 from rfl] at *
            go_wp2
            go_loopw [15] (fun v wr => v = .int .i64 0 ∧ Hq w.heap.size w wr hb []) (fun _ _ => 0)
            case atStart => exact ⟨rfl, HI.out⟩
            case round =>
              obtain ⟨rfl, hH3⟩ := hrel
              have HH3 := hid_ hH3
              clear hH3
              have l0 : ¬ (0 : Int) < ((([] : List Item).tail.length : Nat) : Int) := by simp
              go_wp2
              go_roundw
              case rel => exact ⟨z - 1, _, by rw [show ((z - 1 : Nat) : Int) = (z : Int) - 1 by omega], by omega, HH3.out⟩
              case measure => simp [intOf]; omega
          | cons p S2 =>
            have hsrt := HF.out.srt
            have hgood := (List.pairwise_cons.1 hsrt).1
            have HGd := hid_ hgood
            clear hsrt hgood
            rw [show popE (p :: S2) = 0 from rfl, show popI (p :: S2) = p.1 from rfl, show popK (p :: S2) = p.2 from rfl] at *
            rw [show (p :: S2).tail = S2 from rfl] at *
            have hlen : S2.length ≤ 10000 := by
              obtain ⟨F, h1, _⟩ := HI.out.isH
              exact h1.good.len
            go_wp2
            go_loopw [15] (fun v wr => ∃ k : Nat, v = .int .i64 k ∧ k ≤ S2.length ∧ Hq w.heap.size w wr hb S2 ∧ RdI wr A2 S2.length (idsS S2)) (fun v _ => S2.length - (intOf v).toNat)
            case atStart => exact ⟨0, rfl, by omega, HI.out, HR.out⟩
            case round =>
              obtain ⟨k, rfl, hk, hH3, hR3⟩ := hrel
              have HH3 := hid_ hH3
              have HR3 := hid_ hR3
              clear hH3 hR3
              by_cases hks : k < S2.length
              · obtain ⟨g, hA3, hc3⟩ := HR3.out.cells (by omega)
                have c3 := hc3 k hks
                subst hA3
                clear hc3
                obtain ⟨p', hp', e'⟩ := ids_mem hks
                rw [e'] at c3
                have ho := HGd.out p' hp'
                have k0 : (0 : Int) ≤ (k : Int) := by omega
                have k1 : (k : Int) < (S2.length : Int) := by omega
                have CR := hid_ (HH3.out.rankc hp')
                obtain ⟨pa, pb⟩ := p
                obtain ⟨pa', pb'⟩ := p'
                clear e' hp'
                go_wp2_with fail
                refine CR.out.mono ?_
                rintro e wh ⟨rfl, rfl⟩
                clear CR
                have ho2 : pb < pb' ∨ pb = pb' ∧ pa < pa' := by simpa [ltI] using ho
                clear ho
                rcases ho2 with ho2 | ⟨rfl, ho2⟩
                · have d1 : ¬ pb' < pb := by omega
                  have d2 : (pb' == pb) = false := by rw [beq_eq_false_iff_ne]; omega
                  go_wp2
                  go_roundw
                  case rel => exact ⟨k + 1, by go_num, by omega, HH3.out, HR3.out⟩
                  case measure => simp [intOf]; omega
                · have d1 : ¬ pb < pb := by omega
                  have d2 : (pb == pb) = true := by simp
                  have d3 : ¬ pa' ≤ pa := by omega
                  go_wp2
                  go_roundw
                  case rel => exact ⟨k + 1, by go_num, by omega, HH3.out, HR3.out⟩
                  case measure => simp [intOf]; omega
              · have l0 : ¬ (k : Int) < ((S2.length : Nat) : Int) := by omega
                go_wp2
                go_roundw
                case rel => exact ⟨z - 1, _, by rw [show ((z - 1 : Nat) : Int) = (z : Int) - 1 by omega], by omega, HH3.out⟩
                case measure => simp [intOf]; omega
        · have hz1 : z = 0 := by omega
          subst hz1
          go_wp2
          go_roundw
          case rel => exact ⟨i + 1, _, by go_num, by omega, by omega, HH2.out⟩
          case measure => simp [intOf]; omega
    · have hcond : (¬ (i : Int) < (n : Int)) ∨ ((i : Int) < (n : Int) ∧ ¬ (i : Int) < 60) := by omega
      rcases hcond with b1 | ⟨b1, b2⟩
      all_goals
        go_wp2_with fail
        refine (works_c _).mono ?_
        rintro e wa ⟨rfl, hb⟩
        have HBB := hid_ (HH.out.below.trans (hb.mono HH.out.le))
        clear hb
        go_wp2
        go_ret
        exact ⟨rfl, HBB.out⟩
end Go.Proofs.Ytkoacfkglfgalaa
