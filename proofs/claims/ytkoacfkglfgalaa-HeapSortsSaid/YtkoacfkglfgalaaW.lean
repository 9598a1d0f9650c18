/- HeapSorts: the walk. Conditions: what its argument reads as. -/
import Derived.Test.YtkoacfkglfgalaaV
namespace Go.Proofs.Ytkoacfkglfgalaa
open Go.RowKit Go.Maps

/-- The two local arrays. -/
def XX (rk tb : Nat) (q : Nat) : Prop := q = rk ∨ q = tb
/-- What holds at the head of the first loop's rounds. -/
def SortsR (B : Nat) (w0 : World) (hb rk tb : Nat) (m : Value) (wr : World) : Prop :=
  ∃ (S : List Item) (g : Nat → Int), m = .int .i64 S.length ∧ Hp (XX rk tb) B w0 wr hb S ∧ (∀ p ∈ S, p.1 < 60) ∧ Fn wr tb 27 60 (fun j => .bool (hasS j S)) ∧ Fn wr rk 26 60 (fun j => .int .i64 (g j)) ∧ (∀ p ∈ S, g p.1.toNat = p.2)

theorem sorts_step {B : Nat} {w0 wr : World} {hb rk tb : Nat} {S : List Item} {g : Nat → Int} {i : Nat} {r : Int} (h1 : Hp (XX rk tb) B w0 wr hb (putS i r S)) (hi : i < 60) (hBr : B ≤ rk) (hBt : B ≤ tb) (h60 : ∀ p ∈ S, p.1 < 60) (hpos : ∀ p ∈ S, 0 ≤ p.1)
    (hT : Fn wr tb 27 60 (fun j => .bool (hasS j S))) (hR : Fn wr rk 26 60 (fun j => .int .i64 (g j))) (hg : ∀ p ∈ S, g p.1.toNat = p.2) (hne : rk ≠ tb) {m : Value} (hm : m = .int .i64 (putS i r S).length) :
    SortsR B w0 hb rk tb m ((wr.setCell ⟨rk, i, none⟩ (.int .i64 r)).setCell ⟨tb, i, none⟩ (.bool true)) := by
  refine ⟨putS i r S, fun k => if k = i then r else g k, hm, (h1.set_ (p := ⟨rk, i, none⟩) (.inl rfl) hBr _).set_ (p := ⟨tb, i, none⟩) (.inr rfl) hBt _, fun p hp => ?_, ?_, ?_, fun p hp => ?_⟩
  · rcases mem_putS.1 hp with rfl | ⟨hp, _⟩
    · show (i : Int) < 60; omega
    · exact h60 p hp
  · refine ((hT.far (p := ⟨rk, i, none⟩) (Ne.symm hne) _).set_ i _).congr (fun j hj => ?_)
    show (if j = i then Value.bool true else .bool (hasS j S)) = .bool (hasS j (putS i r S))
    rw [hasS_put]
    by_cases e : j = i
    · subst e; simp
    · rw [if_neg e]
      have : ((j : Int) == (i : Int)) = false := by rw [beq_eq_false_iff_ne]; omega
      rw [this]; rfl
  · refine ((hR.set_ i _).far (p := ⟨tb, i, none⟩) hne _).congr (fun j hj => ?_)
    show (if j = i then Value.int .i64 r else .int .i64 (g j)) = .int .i64 (if j = i then r else g j)
    split <;> rfl
  · rcases mem_putS.1 hp with rfl | ⟨hp, hn⟩
    · simp
    · have : ¬ p.1.toNat = i := fun e => hn (by have := hpos p hp; omega)
      simp only [this, if_false]
      exact hg p hp

/-- What holds at the head of the second loop's rounds. -/
def SortsQ (B : Nat) (w0 : World) (hb rk tb m : Nat) (v10 v11 v12 : Value) (wr : World) : Prop :=
  ∃ (S : List Item) (g : Nat → Int) (k : Nat) (was before : Int), v10 = .int .i64 was ∧ v11 = .int .i64 before ∧ v12 = .int .i64 k ∧ k + S.length = m ∧ Hp (XX rk tb) B w0 wr hb S ∧ (∀ p ∈ S, p.1 < 60) ∧
    Fn wr tb 27 60 (fun j => .bool (hasS j S)) ∧ Fn wr rk 26 60 (fun j => .int .i64 (g j)) ∧ (∀ p ∈ S, g p.1.toNat = p.2) ∧ (∀ p ∈ S, before < p.2 ∨ before = p.2 ∧ was < p.1)

theorem sorts_pop {B : Nat} {w0 wr : World} {hb rk tb m k : Nat} {S : List Item} {g : Nat → Int} {i : Nat} {r : Int} (h1 : Hp (XX rk tb) B w0 wr hb S) (hS : Srt ((((i : Nat) : Int), r) :: S)) (hG : Good ((((i : Nat) : Int), r) :: S)) (hBt : B ≤ tb) (h60 : ∀ p ∈ (((i : Nat) : Int), r) :: S, p.1 < 60)
    (hT : Fn wr tb 27 60 (fun j => .bool (hasS j ((((i : Nat) : Int), r) :: S)))) (hR : Fn wr rk 26 60 (fun j => .int .i64 (g j))) (hg : ∀ p ∈ (((i : Nat) : Int), r) :: S, g p.1.toNat = p.2) (hne : rk ≠ tb) (hm : k + S.length = m) :
    SortsQ B w0 hb rk tb m (.int .i64 i) (.int .i64 r) (.int .i64 k) (wr.setCell ⟨tb, i, none⟩ (.bool false)) := by
  refine ⟨S, g, k, i, r, rfl, rfl, rfl, hm, h1.set_ (p := ⟨tb, i, none⟩) (.inr rfl) hBt _, fun p hp => h60 p (by simp [hp]), ?_, hR.far (p := ⟨tb, i, none⟩) hne _, fun p hp => hg p (by simp [hp]), fun p hp => ?_⟩
  · refine (hT.set_ i _).congr (fun j hj => ?_)
    show (if j = i then Value.bool false else .bool (hasS j ((((i : Nat) : Int), r) :: S))) = .bool (hasS j S)
    have hno : hasS i S = false := by
      rw [hasS_iff]
      have := (List.nodup_cons.1 hG.once).1
      simpa using this
    by_cases e : j = i
    · subst e; rw [if_pos rfl, hno]
    · rw [if_neg e]
      have : ((i : Int) == (j : Int)) = false := by rw [beq_eq_false_iff_ne]; omega
      show Value.bool ((((i : Int) == (j : Int))) || hasS j S) = _
      rw [this]; rfl
  · have := (List.pairwise_cons.1 hS).1 p hp
    simpa [ltI] using this

set_option maxHeartbeats 4000000 in
set_option maxRecDepth 100000 in
theorem sorts_try {w : World} {A : Option Addr} {n c : Nat} {xs : List (Int × Int)} (h : RdP w A n xs) :
    Calls Try.prog 3 #[.slice A n c] w fun e w' => e = .returned (.bool true) ∧ Below w.heap.size w w' := by
  have HX := hid_ h
  have hlow := h.low
  clear h
  go_enter Try.func3, Try.ntmps3
  go_wp2_with fail
  refine (works_c w).mono ?_
  rintro e w1 ⟨rfl, hb1⟩
  go_wp2_with fail
  refine (hnew_c w1).mono ?_
  rintro e w2 ⟨hb, rfl, hN, hB2⟩
  go_wp2
  have hsz : w.heap.size ≤ w2.heap.size := Nat.le_trans hb1.size hB2.size
  have T0 := hid_ (Fn.zero (w2.alloc (.cells (Array.replicate 60 (.int .i64 0)) 26)) 27 60 (.bool false))
  have R0 := hid_ ((Fn.zero w2 26 60 (.int .i64 0)).below (((Below.refl _ _).alloc (Nat.le_refl _) (.cells (Array.replicate 60 (.bool false)) 27))))
  have P0 := hid_ (Hp.after (Hp.after (Hp.start (X := XX w2.heap.size (w2.heap.size + 1)) (B := w.heap.size) (w0 := w) (hN.mono (fun q hq => Nat.le_trans hb1.size hq)) (fun q hq => by unfold XX at hq; omega) (hb1.trans (hB2.mono hb1.size)) hsz) ((Below.refl _ _).alloc (Nat.le_refl _) (.cells (Array.replicate 60 (.int .i64 0)) 26))) ((Below.refl _ _).alloc (Nat.le_refl _) (.cells (Array.replicate 60 (.bool false)) 27)))
  rw [show (w2.alloc (.cells (Array.replicate 60 (.int .i64 0)) 26)).heap.size = w2.heap.size + 1 by simp] at T0
  clear hN hB2
  go_loopw [6, 7] (fun v6 v7 wr => ∃ k : Nat, v7 = .int .i64 k ∧ k ≤ n ∧ k ≤ 100 ∧ SortsR w.heap.size w hb w2.heap.size (w2.heap.size + 1) v6 wr) (fun _ v7 _ => n - (intOf v7).toNat)
  case atStart =>
    exact ⟨0, rfl, by omega, by omega, [], fun _ => 0, rfl, P0.out, fun p hp => by simp at hp, T0.out, R0.out, fun p hp => by simp at hp⟩
  case round =>
    obtain ⟨k, rfl, hkn, hk100, S, g, rfl, hH, h60, hT, hR, hg⟩ := hrel
    have HH := hid_ hH
    have H60 := hid_ h60
    have HT := hid_ hT
    have HR := hid_ hR
    have HG := hid_ hg
    clear hH h60 hT hR hg
    by_cases hlt : k < n ∧ k < 100
    · obtain ⟨hlt1, hlt2⟩ := hlt
      obtain ⟨b, off, hA, hcx⟩ := (HX.out.below HH.out.below).cells (by omega)
      obtain ⟨x0, x1⟩ := hcx k hlt1
      subst hA
      generalize xs.getD k (0, 0) = x at *
      obtain ⟨xa, xb⟩ := x
      clear hcx
      have b0 : (0 : Int) ≤ (k : Int) := by omega
      have b1 : (k : Int) < (n : Int) := by omega
      have b2 : (k : Int) < 100 := by omega
      go_wp2_with fail
      refine (row_c xa xb _).mono ?_
      rintro e wa ⟨rfl, hba⟩
      have hi0 : 0 ≤ xa % 60 := Int.emod_nonneg _ (by omega)
      have hi1 : xa % 60 < 60 := Int.emod_lt_of_pos _ (by omega)
      have hr0 : 0 ≤ xb % 12 := Int.emod_nonneg _ (by omega)
      have hr1 : xb % 12 < 12 := Int.emod_lt_of_pos _ (by omega)
      generalize xa % 60 = id at *
      generalize xb % 12 = r at *
      obtain ⟨i, rfl⟩ := Int.eq_ofNat_of_zero_le hi0
      have H2 := HH.out.after hba
      obtain ⟨F, hF, hFX⟩ := H2.isH
      have lt1 := HT.out.lt
      have lt2 := HR.out.lt
      have lt3 := hba.size
      have hX : ∀ q, XX w2.heap.size (w2.heap.size + 1) q → q < wa.heap.size := fun q hq => by unfold XX at hq; omega
      have hgood := hF.good
      have hslen := hgood.len
      have hok : putE i r = 0 := by
        unfold putE okP
        rw [if_pos (decide_eq_true (by omega))]
      have hoR : putR i r S = putS i r S := by
        unfold putR okP
        rw [if_pos (decide_eq_true (by omega))]
      have T2 := hid_ (HT.out.below hba)
      have R2 := hid_ (HR.out.below hba)
      have P2 := hid_ H2
      have C2 := hid_ (put_any hF i r)
      have HF2 := hid_ (And.intro hFX hX)
      have HOK := hid_ (And.intro hok hoR)
      have HGd := hid_ hgood
      clear hba H2 hF hFX hX hok hoR hgood x0 x1
      go_wp2_with fail
      refine C2.out.mono ?_
      rintro e wb ⟨rfl, hl⟩
      rw [HOK.out.1]
      have P3 := P2.out.left HF2.out.1 HF2.out.2 hl
      rw [HOK.out.2] at P3
      have T3 := T2.out.left HF2.out.1 (.inr rfl) hl
      have R3 := R2.out.left HF2.out.1 (.inl rfl) hl
      have ct := T3.cell i (by omega)
      have ft := T3.frozen i
      have cr := R3.cell i (by omega)
      have fr := R3.frozen i
      have HP3 := hid_ P3
      have HT3 := hid_ T3
      have HR3 := hid_ R3
      have hne : ¬ (w2.heap.size = w2.heap.size + 1) := by omega
      have hne2 : ¬ (w2.heap.size + 1 = w2.heap.size) := by omega
      clear P3 T3 R3 hl
      cases hs : hasS i S with
      | false =>
        rw [hs] at ct
        have HS := hid_ hs
        clear hs
        go_wp2
        go_roundw
        case rel => exact ⟨k + 1, by go_num, by omega, by omega, sorts_step HP3.out (by omega) hsz (by omega) H60.out (fun p hp => (HGd.out.low p hp).1) HT3.out HR3.out HG.out (by omega) (by rw [len_putS HGd.out, HS.out, if_neg (by simp)]; go_num)⟩
        case measure => simp [intOf]; omega
      | true =>
        rw [hs] at ct
        have HS := hid_ hs
        clear hs
        go_wp2
        go_roundw
        case rel => exact ⟨k + 1, by go_num, by omega, by omega, sorts_step HP3.out (by omega) hsz (by omega) H60.out (fun p hp => (HGd.out.low p hp).1) HT3.out HR3.out HG.out (by omega) (by rw [len_putS HGd.out, HS.out, if_pos rfl])⟩
        case measure => simp [intOf]; omega
    · have hcond : (¬ (k : Int) < (n : Int)) ∨ ((k : Int) < (n : Int) ∧ ¬ (k : Int) < 100) := by omega
      have q0 : ((S.length : Int) != (S.length : Int)) = false := by simp
      obtain ⟨F, hF, hFX⟩ := HH.out.isH
      have hslen := hF.good.len
      have q1 : (S.length : Int) ≤ 10000 := by omega
      have C2 := hid_ (hlen_c hF)
      clear hF hFX hlt
      rcases hcond with b1 | ⟨b1, b2⟩
      all_goals
        go_wp2_with fail
        refine C2.out.mono ?_
        rintro e wa ⟨rfl, rfl⟩
        go_wp2
        go_loopw [10, 11, 12] (SortsQ w.heap.size w hb w2.heap.size (w2.heap.size + 1) S.length) (fun _ _ v _ => S.length - (intOf v).toNat)
        case atStart =>
          obtain ⟨F, hF, _⟩ := HH.out.isH
          exact ⟨S, g, 0, -1, -1, rfl, rfl, rfl, by omega, HH.out, H60.out, HT.out, HR.out, HG.out, fun p hp => by have := hF.good.low p hp; omega⟩
        case round =>
          obtain ⟨S', g', k', was, before, rfl, rfl, rfl, hm, hH', h60', hT', hR', hg', hord⟩ := hrel
          have KH := hid_ hH'
          have K60 := hid_ h60'
          have KT := hid_ hT'
          have KR := hid_ hR'
          have KG := hid_ hg'
          have KO := hid_ hord
          have KM := hid_ hm
          clear hH' h60' hT' hR' hg' hord hm
          cases S' with
          | nil =>
            have c1 : ¬ (k' : Int) < (S.length : Int) := by have := KM.out; simp at this; omega
            obtain ⟨F, hF, hFX⟩ := KH.out.isH
            have CP := hid_ (pop_any hF)
            have HFX := hid_ hFX
            have lt1 := KT.out.lt
            have lt2 := KR.out.lt
            have hX : ∀ q, XX w2.heap.size (w2.heap.size + 1) q → q < wr.heap.size := fun q hq => by unfold XX at hq; omega
            have HX2 := hid_ hX
            clear hF hFX hX
            go_wp2_with fail
            refine CP.out.mono ?_
            rintro e wb ⟨rfl, hl⟩
            rw [show popI [] = 0 from rfl, show popK [] = 0 from rfl, show popE [] = 9 from rfl]
            have P3 := KH.out.left HFX.out HX2.out hl
            obtain ⟨F2, hF2, _⟩ := P3.isH
            have CL := hid_ (hlen_c hF2)
            have HP3 := hid_ P3.below
            clear P3 hF2 hl
            go_wp2_with fail
            refine CL.out.mono ?_
            rintro e wc ⟨rfl, rfl⟩
            go_wp2
            go_ret
            exact ⟨rfl, HP3.out⟩
          | cons x S' =>
            obtain ⟨xi, r⟩ := x
            obtain ⟨F, hF, hFX⟩ := KH.out.isH
            have hgood := hF.good
            have hsrt := hF.srt
            have hlow := hgood.low (xi, r) (by simp)
            have h6 := K60.out (xi, r) (by simp)
            obtain ⟨i, rfl⟩ := Int.eq_ofNat_of_zero_le hlow.1
            have ho := KO.out ((i : Int), r) (by simp)
            have hgx := KG.out ((i : Int), r) (by simp)
            have hi60 : i < 60 := by have : (i : Int) < 60 := h6; omega
            have c1 : (k' : Int) < (S.length : Int) := by have := KM.out; simp at this; omega
            have CP := hid_ (pop_any hF)
            have HFX := hid_ hFX
            have lt1 := KT.out.lt
            have lt2 := KR.out.lt
            have hX : ∀ q, XX w2.heap.size (w2.heap.size + 1) q → q < wr.heap.size := fun q hq => by unfold XX at hq; omega
            have HX2 := hid_ hX
            have HGd := hid_ hgood
            have HSr := hid_ hsrt
            have HGx := hid_ hgx
            have HO := hid_ ho
            clear hF hFX hX hgood hsrt hlow h6 ho hgx
            go_wp2_with fail
            refine CP.out.mono ?_
            rintro e wb ⟨rfl, hl⟩
            rw [show popI (((i : Int), r) :: S') = (i : Int) from rfl, show popK (((i : Int), r) :: S') = r from rfl, show popE (((i : Int), r) :: S') = 0 from rfl]
            have P3 := KH.out.left HFX.out HX2.out hl
            have T3 := KT.out.left HFX.out (.inr rfl) hl
            have R3 := KR.out.left HFX.out (.inl rfl) hl
            have ct := T3.cell i hi60
            have ft := T3.frozen i
            have cr := R3.cell i hi60
            have hhas : hasS (i : Int) (((i : Int), r) :: S') = true := by simp [hasS]
            rw [hhas] at ct
            have eg : g' i = r := HGx.out
            rw [eg] at cr
            have HP3 := hid_ P3
            have HT3 := hid_ T3
            have HR3 := hid_ R3
            have d0 : ¬ (i : Int) < 0 := by omega
            have d1 : ¬ (60 : Int) ≤ (i : Int) := by omega
            have d2 : (r != r) = false := by simp
            have d3 : (i : Int) < 60 := by omega
            have hne : ¬ (w2.heap.size = w2.heap.size + 1) := by omega
            clear P3 T3 R3 hl hhas eg
            rcases HO.out with ho | ⟨ho, ho2⟩
            · have d4 : ¬ r < before := by have : before < r := ho; omega
              have d5 : (r == before) = false := by rw [beq_eq_false_iff_ne]; have : before < r := ho; omega
              clear ho
              go_wp2
              go_roundw
              case rel =>
                have := sorts_pop HP3.out HSr.out HGd.out (by omega) K60.out HT3.out HR3.out KG.out (by omega) (S := S') (k := k' + 1) (m := S.length) (by have := KM.out; simp at this; omega)
                rw [show (.int .i64 ((k' : Int) + 1) : Value) = .int .i64 ((k' + 1 : Nat) : Int) by go_num]
                exact this
              case measure => simp [intOf]; omega
            · have d4 : ¬ r < before := by have : before = r := ho; omega
              have d5 : (r == before) = true := by rw [beq_iff_eq]; exact Eq.symm ho
              have d6 : ¬ (i : Int) ≤ was := by have : was < (i : Int) := ho2; omega
              clear ho ho2
              go_wp2
              go_roundw
              case rel =>
                have := sorts_pop HP3.out HSr.out HGd.out (by omega) K60.out HT3.out HR3.out KG.out (by omega) (S := S') (k := k' + 1) (m := S.length) (by have := KM.out; simp at this; omega)
                rw [show (.int .i64 ((k' : Int) + 1) : Value) = .int .i64 ((k' + 1 : Nat) : Int) by go_num]
                exact this
              case measure => simp [intOf]; omega
end Go.Proofs.Ytkoacfkglfgalaa
