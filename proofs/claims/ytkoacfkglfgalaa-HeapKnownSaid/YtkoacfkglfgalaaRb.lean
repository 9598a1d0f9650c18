/- The reference heap: its functions at, Pop, Remove, First, Rank, New. Conditions: those that each theorem names. -/
import Derived.Test.YtkoacfkglfgalaaRa
import Derived.Test.YtkoacfkglfgalaaY
namespace Go.Proofs.Ytkoacfkglfgalaa
open Go.RowKit Go.Maps

/-- What a call on the reference heap leaves. -/
structure RfLeft (G : Nat → Prop) (w : World) (mb : Nat) (S : List Item) (w' : World) : Prop where
  rf : Rf (fun q => G q ∨ w.heap.size ≤ q) w' mb S
  kp : Kp (fun q => q = mb) w w'

section
variable {G : Nat → Prop} {w w' : World} {mb : Nat} {S : List Item}
theorem Rf.lt (h : Rf G w mb S) : mb < w.heap.size := by
  obtain ⟨A, c, hB, _⟩ := h.body
  exact hB.lt
theorem Rf.kp {F : Nat → Prop} (h : Rf G w mb S) (hk : Kp F w w') (hd : ∀ q, G q → ¬ F q) : Rf G w' mb S := by
  obtain ⟨A, c, hB, hown, hq⟩ := h.body
  exact ⟨h.fm, A, c, hB.kp hk (hd _ h.fm), own_kp hown hk (fun k hk2 => hd _ (hq k hk2).1), hq⟩
theorem Rf.below (h : Rf G w mb S) (hk : Below w.heap.size w w') : Rf G w' mb S := h.kp (Kp.of_below hk fun _ => False) (fun _ _ => id)
theorem Rf.mono {F : Nat → Prop} (h : Rf G w mb S) (hg : ∀ q, G q → F q) : Rf F w mb S := by
  obtain ⟨A, c, hB, hown, hq⟩ := h.body
  exact ⟨hg _ h.fm, A, c, hB, hown, fun q hk => ⟨hg _ (hq q hk).1, (hq q hk).2⟩⟩
/-- Only the heap's own blocks count. -/
theorem Rf.blocks (h : Rf G w mb S) : Rf (fun q => G q ∧ q < w.heap.size) w mb S := by
  obtain ⟨A, c, hB, hown, hq⟩ := h.body
  exact ⟨⟨h.fm, hB.lt⟩, A, c, hB, hown, fun q hk => ⟨⟨(hq q hk).1, own_lt hown hk⟩, (hq q hk).2⟩⟩
/-- The cells. -/
theorem Rf.cells (h : Rf G w mb S) (h0 : 0 < S.length) : ∃ g c, w.cell? ⟨mb, 0, none⟩ = some (.slice (some ⟨g, 0, none⟩) S.length c) ∧ ∀ i, i < S.length → w.cell? ⟨g, i * 2, none⟩ = some (.int .i64 (S.getD i (0, 0)).1) ∧ w.cell? ⟨g, i * 2 + 1, none⟩ = some (.int .i64 (S.getD i (0, 0)).2) := by
  obtain ⟨A, c, hB, hown, hq⟩ := h.body
  obtain ⟨g, cap, hv, _, hglt⟩ := hown.form (by omega)
  injection hv with hv1 hv2 hv3
  subst hv1 hv3
  refine ⟨g, c, hB.cell 0, fun i hi => ⟨own_cell hown _ _ ?_, own_cell hown _ _ ?_⟩⟩
  · rw [flat_at0 S i hi]; simp [List.getD, hi]
  · rw [flat_at1 S i hi]; simp [List.getD, hi]
theorem Rf.empty (h : Rf G w mb []) : ∃ A c, w.cell? ⟨mb, 0, none⟩ = some (.slice A 0 c) := by
  obtain ⟨A, c, hB, _⟩ := h.body
  exact ⟨A, c, hB.cell 0⟩
theorem Rf.head (h : Rf G w mb S) : ∃ A c, w.cell? ⟨mb, 0, none⟩ = some (.slice A S.length c) := by
  obtain ⟨A, c, hB, _⟩ := h.body
  exact ⟨A, c, hB.cell 0⟩

theorem outS_erase {S : List Item} {k : Nat} {id : Int} (hs : Srt S) (g : Good S) (hk : k < S.length) (he : (S.getD k (0, 0)).1 = id) : S.eraseIdx k = outS id S := by
  have hkk : S.getD k (0, 0) = S[k] := by simp [List.getD, hk]
  rw [hkk] at he
  refine srt_ext (hs.sublist (List.eraseIdx_sublist _ _)) (hs.sublist List.filter_sublist) (fun p => ?_)
  rw [List.mem_eraseIdx_iff_getElem, mem_outS]
  constructor
  · rintro ⟨i, hi, hne, rfl⟩
    exact ⟨List.getElem_mem _, fun e => hne (g.inj hi hk (e.trans he.symm))⟩
  · rintro ⟨hp, hne⟩
    obtain ⟨i, hi, rfl⟩ := List.mem_iff_getElem.1 hp
    exact ⟨i, hi, fun e => by subst e; exact hne he, rfl⟩

/-- What at answers. -/
def AtR (S : List Item) (id : Int) (z : Int) : Prop := (∃ k : Nat, k < S.length ∧ (S.getD k (0, 0)).1 = id ∧ z = k) ∨ (id ∉ S.map (·.1) ∧ z = -1)
/-- The place of an id. -/
theorem at_c (h : Rf G w mb S) (id : Int) (hS : S.length ≤ 1000) :
    Calls Try.prog 40 #[.pointer (some ⟨mb, 0, none⟩), .int .i64 id] w fun e w' => w = w' ∧ ∃ z, e = .returned (.int .i64 z) ∧ AtR S id z := by
  have HH := hid_ h
  obtain ⟨A, c, hc⟩ := h.head
  clear h
  go_enter Try.func40, Try.ntmps40
  go_wp2
  go_loopw [5] (fun v wr => ∃ k : Nat, v = .int .i64 k ∧ k ≤ S.length ∧ wr = w ∧ ∀ j, j < k → (S.getD j (0, 0)).1 ≠ id) (fun v _ => S.length - (intOf v).toNat)
  case atStart => exact ⟨0, rfl, by omega, rfl, fun _ h => by omega⟩
  case round =>
    obtain ⟨k, rfl, hk, rfl, hall⟩ := hrel
    have HA := hid_ hall
    clear hall
    by_cases hlt : k < S.length
    · obtain ⟨g, c', hc', hcx⟩ := HH.out.cells (by omega)
      obtain ⟨x0, x1⟩ := hcx k hlt
      rw [hc] at hc'
      injection hc' with hc'
      injection hc' with h1 h2 h3
      subst h1 h3
      clear hcx x1
      generalize hx : (S.getD k (0, 0)).1 = x at *
      have HXX := hid_ hx
      clear hx
      have b0 : (0 : Int) ≤ (k : Int) := by omega
      have b1 : (k : Int) < (S.length : Int) := by omega
      by_cases he : x = id
      · have e1 : (x == id) = true := by simp [he]
        have HE := hid_ he
        clear he
        go_wp2
        go_ret
        exact ⟨(by first | trivial | rfl), _, rfl, .inl ⟨k, hlt, HXX.out.trans HE.out, rfl⟩⟩
      · have e1 : (x == id) = false := by simp [he]
        have HE := hid_ he
        clear he
        go_wp2
        go_roundw
        case rel => exact ⟨k + 1, by go_num, by omega, (by first | trivial | rfl), fun j hj => by
          by_cases e : j = k
          · subst e; rw [HXX.out]; exact HE.out
          · exact HA.out j (by omega)⟩
        case measure => simp [intOf]; omega
    · have b1 : ¬ (k : Int) < (S.length : Int) := by omega
      go_wp2
      go_ret
      refine ⟨(by first | trivial | rfl), _, rfl, .inr ⟨fun hm => ?_, rfl⟩⟩
      obtain ⟨p, hp, e⟩ := List.mem_map.1 hm
      obtain ⟨i, hi, rfl⟩ := List.mem_iff_getElem.1 hp
      refine HA.out i (by omega) ?_
      simpa [List.getD, hi] using e

theorem out_c (h : Rf G w mb S) {i : Nat} (hi : i < S.length) (hS : S.length ≤ 1000) :
    Calls Try.prog 41 #[.pointer (some ⟨mb, 0, none⟩), .int .i64 i] w fun e w' => e = .returned (.agg #[.int .i64 (S.getD i (0, 0)).1, .int .i64 (S.getD i (0, 0)).2]) ∧ RfLeft G w mb (S.eraseIdx i) w' :=
  (out_try h hi hS).mono fun e w' ⟨h1, h2, h3⟩ => ⟨h1, h2, h3⟩

theorem rnew_c (w : World) : Calls Try.prog 21 #[] w fun e w' => ∃ mb, e = .returned (.pointer (some ⟨mb, 0, none⟩)) ∧ Rf (fun q => w.heap.size ≤ q) w' mb [] ∧ Below w.heap.size w w' := by
  go_enter Try.func21, Try.ntmps21
  go_wp2
  go_ret
  exact ⟨_, rfl, ⟨Nat.le_refl _, none, 0, Blk.new w 80 #[.slice none 0 0], World.ownsRow_nil _ _ _ _, fun q hq => by simp [Value.ownBlock] at hq⟩, (Below.refl _ _).alloc (Nat.le_refl _) _⟩

theorem rremove_c (h : Rf G w mb S) (hs : Srt S) (hg : Good S) (id : Int) (hS : S.length ≤ 1000) :
    Calls Try.prog 24 #[.pointer (some ⟨mb, 0, none⟩), .int .i64 id] w fun e w' => e = .returned (.int .i64 (remE id S)) ∧ RfLeft G w mb (outS id S) w' := by
  have HA := hid_ (at_c h id hS)
  have HH := hid_ h
  have HS := hid_ hs
  have HG := hid_ hg
  clear h hs hg
  go_enter Try.func24, Try.ntmps24
  go_wp2_with fail
  refine HA.out.mono ?_
  rintro e w' ⟨rfl, z, rfl, hz⟩
  rcases hz with ⟨k, hk, hki, rfl⟩ | ⟨hno, rfl⟩
  · have b0 : ¬ (k : Int) < 0 := by omega
    have HO := hid_ (out_c HH.out hk hS)
    have HKI := hid_ hki
    clear hki HA
    go_wp2_with fail
    refine HO.out.mono ?_
    rintro e w1 ⟨rfl, hl⟩
    have HL := hid_ hl
    clear hl
    go_wp2
    go_ret
    have e1 : remE id S = 0 := by
      unfold remE
      rw [if_pos]
      rw [hasS_mem]
      exact ⟨S.getD k (0, 0), by simp [List.getD, hk], HKI.out⟩
    refine ⟨by rw [e1]; rfl, ?_⟩
    rw [← outS_erase HS.out HG.out hk HKI.out]
    exact HL.out
  · have HNo := hid_ hno
    clear hno
    go_wp2
    go_ret
    have e1 : remE id S = 50 := by
      unfold remE
      rw [if_neg]
      rw [hasS_mem]
      rintro ⟨p, hp, e⟩
      exact HNo.out (List.mem_map.2 ⟨p, hp, e⟩)
    refine ⟨by rw [e1]; rfl, ?_⟩
    rw [outS_none HNo.out]
    exact ⟨HH.out.mono fun q hq => .inl hq, Kp.refl _ _⟩

theorem rpop_c (h : Rf G w mb S) (hS : S.length ≤ 1000) :
    Calls Try.prog 23 #[.pointer (some ⟨mb, 0, none⟩)] w fun e w' => e = .returned (.tuple #[.int .i64 (popI S), .int .i64 (popK S), .int .i64 (popE S)]) ∧ RfLeft G w mb S.tail w' := by
  have HH := hid_ h
  cases S with
  | nil =>
    obtain ⟨A, c, hc⟩ := h.head
    clear h
    go_enter Try.func23, Try.ntmps23
    go_wp2
    go_ret3
    exact ⟨rfl, HH.out.mono fun q hq => .inl hq, Kp.refl _ _⟩
  | cons p S =>
    obtain ⟨A, c, hc⟩ := h.head
    have HO := hid_ (out_c (i := 0) HH.out (by simp) hS)
    have b0 : (((p :: S).length : Int) == 0) = false := by rw [beq_eq_false_iff_ne]; simp; omega
    clear h
    generalize (((p :: S).length : Nat) : Int) = n at *
    go_enter Try.func23, Try.ntmps23
    go_wp2_with fail
    refine HO.out.mono ?_
    rintro e w1 ⟨rfl, hl⟩
    have HL := hid_ hl
    clear hl
    rw [show (p :: S).getD 0 (0, 0) = p from rfl]
    obtain ⟨pa, pb⟩ := p
    go_wp2
    go_region
    go_wp2
    go_ret3
    exact ⟨rfl, ⟨HL.out.rf.below ((Below.refl _ _).alloc (Nat.le_refl _) _).drew, (HL.out.kp.alloc _).drew⟩⟩

theorem rfirst_c (h : Rf G w mb S) (hS : S.length ≤ 1000) :
    Calls Try.prog 45 #[.pointer (some ⟨mb, 0, none⟩)] w fun e w' => e = .returned (.tuple #[.int .i64 (popI S), .int .i64 (popK S), .int .i64 (popE S)]) ∧ Below w.heap.size w w' := by
  cases S with
  | nil =>
    obtain ⟨A, c, hc⟩ := h.head
    clear h
    go_enter Try.func45, Try.ntmps45
    go_wp2
    go_ret3
    exact ⟨rfl, Below.refl _ _⟩
  | cons p S =>
    obtain ⟨g, c, hc, hcx⟩ := h.cells (by simp)
    obtain ⟨x0, x1⟩ := hcx 0 (by simp)
    rw [show (p :: S).getD 0 (0, 0) = p from rfl] at x0 x1
    obtain ⟨pa, pb⟩ := p
    rw [show 0 * 2 = 0 by omega] at x0 x1
    have b0 : ((((pa, pb) :: S).length : Int) == 0) = false := by rw [beq_eq_false_iff_ne]; simp; omega
    have b1 : (0 : Int) < (((pa, pb) :: S).length : Int) := by simp only [List.length_cons]; omega
    clear h hcx
    generalize (((pa, pb) :: S).length : Nat) = n at *
    go_enter Try.func45, Try.ntmps45
    go_wp2
    go_quiet (fail)
    go_wp2
    go_ret3
    exact ⟨rfl, bdrewN (Below.refl _ _) _⟩

theorem rrank_c (h : Rf G w mb S) (hg : Good S) (id : Int) (hS : S.length ≤ 1000) :
    Calls Try.prog 46 #[.pointer (some ⟨mb, 0, none⟩), .int .i64 id] w fun e w' => e = .returned (.tuple #[.int .i64 (rankS id S), .bool (hasS id S)]) ∧ Below w.heap.size w w' := by
  have HA := hid_ (at_c h id hS)
  have HH := hid_ h
  have HG := hid_ hg
  clear h hg
  go_enter Try.func46, Try.ntmps46
  go_wp2_with fail
  refine HA.out.mono ?_
  rintro e w' ⟨rfl, z, rfl, hz⟩
  rcases hz with ⟨k, hk, hki, rfl⟩ | ⟨hno, rfl⟩
  · have b0 : ¬ (k : Int) < 0 := by omega
    have b1 : (0 : Int) ≤ (k : Int) := by omega
    have b2 : (k : Int) < (S.length : Int) := by omega
    obtain ⟨g, c, hc, hcx⟩ := HH.out.cells (by omega)
    obtain ⟨x0, x1⟩ := hcx k hk
    have e1 : hasS id S = true := by
      rw [hasS_mem]
      exact ⟨S.getD k (0, 0), by simp [List.getD, hk], hki⟩
    have e2 : rankS id S = (S.getD k (0, 0)).2 := rankS_of HG.out (by
      have h1 : S.getD k (0, 0) ∈ S := by simp [List.getD, hk]
      rw [← hki]
      exact h1)
    generalize S.getD k (0, 0) = p at *
    obtain ⟨pa, pb⟩ := p
    have E12 := hid_ (And.intro e1 e2)
    clear e1 e2 hki hcx HA
    generalize S.length = n at *
    go_wp2
    go_ret2
    exact ⟨by rw [E12.out.1, E12.out.2]; rfl, Below.refl _ _⟩
  · have e1 : hasS id S = false := by
      cases hh : hasS id S with
      | false => rfl
      | true =>
        obtain ⟨p, hp, e⟩ := hasS_mem.1 hh
        exact absurd (List.mem_map.2 ⟨p, hp, e⟩) hno
    have e2 : rankS id S = 0 := rankS_none hno
    have E12 := hid_ (And.intro e1 e2)
    clear e1 e2 hno HA
    go_wp2
    go_ret2
    exact ⟨by rw [E12.out.1, E12.out.2]; rfl, Below.refl _ _⟩
end
end Go.Proofs.Ytkoacfkglfgalaa
