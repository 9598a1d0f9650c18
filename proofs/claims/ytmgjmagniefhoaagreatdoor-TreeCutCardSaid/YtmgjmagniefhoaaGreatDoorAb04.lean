/- What stands in these texts of the proof: Nf Ng. Conditions: those that each theorem names. -/
import Derived.Test.YtmgjmagniefhoaaGreatDoorAb02
import Derived.Test.YtmgjmagniefhoaaGreatDoorAa19
import Derived.Test.YtmgjmagniefhoaaGreatDoorAb03
/- A made module is read: what it is does not hang on brackets. No program is walked here. -/
namespace Go.Proofs.YtmgjmagniefhoaaGreatDoor
open Lx (Bs Wd)
open Tr (Nd Vr Fd Md leaf failA node room must word fresh deep isW now kw exprF typF)
theorem leafT_cnt (z : Nat) (N : List Int) : (leafT z N).1.cnt = 1 ∧ (leafT z N).1.few ∧ (leafT z N).1.h = 0 ∧ (leafT z N).1.size = 1 := by
  unfold leafT
  split
  · exact ⟨rfl, trivial, rfl, rfl⟩
  · split
    · exact ⟨rfl, trivial, rfl, rfl⟩
    · exact ⟨rfl, trivial, rfl, rfl⟩
theorem typA_cnt : ∀ (r : Nat) (N : List Int), r ≤ 6 → (typA r N).1.cnt ≤ r + 1 ∧ (typA r N).1.few ∧ (typA r N).1.h ≤ r
  | 0, N, _ => by
    obtain ⟨a, b, c, _⟩ := leafT_cnt (zT 6 0 (nextS 9 N).1 (nextS 9 N).2) (nextS 9 N).2
    exact ⟨Nat.le_of_eq a, b, Nat.le_of_eq c⟩
  | r + 1, N, hr => by
    obtain ⟨a, b, c, _⟩ := leafT_cnt (zT 6 (r + 1) (nextS 9 N).1 (nextS 9 N).2) (nextS 9 N).2
    obtain ⟨a1, b1, c1⟩ := typA_cnt r (nextS 9 N).2 (by omega)
    obtain ⟨a2, b2, c2⟩ := typA_cnt r (typA r (nextS 9 N).2).2 (by omega)
    rw [typA]
    split
    · refine ⟨by show 1 ≤ _; omega, ⟨b1, b2, by omega, by omega⟩, ?_⟩
      show max _ _ + 1 ≤ _
      omega
    · split
      · exact ⟨by show 1 ≤ _; omega, trivial, Nat.zero_le _⟩
      · split
        · refine ⟨by show _ + 1 ≤ _; omega, ⟨b1, b2, by omega, by omega⟩, ?_⟩
          show max _ (_ + 1) ≤ _
          omega
        · exact ⟨by omega, b, by omega⟩
theorem typA_size : ∀ (r : Nat) (N : List Int), (typA r N).1.size + 8 * (typA r N).2.length ≤ 1 + 8 * N.length
  | 0, N => by
    obtain ⟨_, _, _, h1⟩ := leafT_cnt (zT 6 0 (nextS 9 N).1 (nextS 9 N).2) (nextS 9 N).2
    have h2 := (nextS_few 9 N).1
    have h3 := leafT_few (zT 6 0 (nextS 9 N).1 (nextS 9 N).2) (nextS 9 N).2
    have h4 : (leafT (zT 6 0 (nextS 9 N).1 (nextS 9 N).2) (nextS 9 N).2).2.length ≤ (nextS 9 N).2.length := by
      have := (nextS_few 8 (nextS 9 N).2).1
      unfold leafT
      split
      · exact Nat.le_refl _
      · split <;> exact this
    show (leafT _ _).1.size + 8 * (leafT _ _).2.length ≤ _
    omega
  | r + 1, N => by
    have h0 := nextS_few 9 N
    have h1 := typA_size r (nextS 9 N).2
    have h2 := typA_size r (typA r (nextS 9 N).2).2
    obtain ⟨_, _, _, h3⟩ := leafT_cnt (zT 6 (r + 1) (nextS 9 N).1 (nextS 9 N).2) (nextS 9 N).2
    have h8 := (nextS_few 8 (nextS 9 N).2).1
    have h4 : (leafT (zT 6 (r + 1) (nextS 9 N).1 (nextS 9 N).2) (nextS 9 N).2).2.length ≤ (nextS 9 N).2.length := by
      unfold leafT
      split
      · exact Nat.le_refl _
      · split <;> exact h8
    have hs := fun z hz h => h0.2 (zT_some (m := 6) (r := r + 1) (k := (nextS 9 N).1) (z := z) (by omega) hz h)
    rw [typA]
    split
    · rename_i hz
      have := hs 6 hz (by omega)
      simp only [TyA.size]
      omega
    · split
      · rename_i hz
        have := hs 7 hz (by omega)
        simp only [TyA.size]
        omega
      · split
        · rename_i hz
          have := hs 8 hz (by omega)
          simp only [TyA.size]
          omega
        · have := h0.1
          omega
theorem leafE_all (p z : Nat) (N : List Int) : (leafE z N).1.few ∧ (leafE z N).1.h p = p + 1 ∧ (leafE z N).1.size = 1 ∧ (leafE z N).2.length ≤ N.length := by
  have h8 := (nextS_few 8 N).1
  unfold leafE
  repeat' split
  all_goals first | exact ⟨trivial, rfl, rfl, Nat.le_refl _⟩ | exact ⟨trivial, rfl, rfl, h8⟩
theorem exprA_all (p : Nat) : ∀ (r : Nat) (N : List Int), r ≤ 6 → (exprA r N).1.few ∧ (exprA r N).1.h p ≤ (p + 2) * (r + 1) + 6 ∧ (exprA r N).1.size + 8 * (exprA r N).2.length ≤ 1 + 8 * N.length
  | 0, N, _ => by
    obtain ⟨a, b, c, d⟩ := leafE_all p (zT 5 0 (nextS 14 N).1 (nextS 14 N).2) (nextS 14 N).2
    have h2 := (nextS_few 14 N).1
    refine ⟨a, ?_, ?_⟩
    · show (leafE _ _).1.h p ≤ _
      omega
    · show (leafE _ _).1.size + 8 * (leafE _ _).2.length ≤ _
      omega
  | r + 1, N, hr => by
    have h0 := nextS_few 14 N
    obtain ⟨a, b, c, d⟩ := leafE_all p (zT 5 (r + 1) (nextS 14 N).1 (nextS 14 N).2) (nextS 14 N).2
    have ih := fun N => exprA_all p r N (by omega)
    have hs := fun (h : 5 ≤ zT 5 (r + 1) (nextS 14 N).1 (nextS 14 N).2) => h0.2 (zT_some (m := 5) (r := r + 1) (k := (nextS 14 N).1) (by omega) rfl h)
    have hm : (p + 2) * (r + 1 + 1) = (p + 2) * (r + 1) + (p + 2) := by rw [Nat.mul_add (p + 2) (r + 1) 1, Nat.mul_one]
    have h8 := (nextS_few 8 (nextS 14 N).2).1
    rw [exprA]
    generalize nextS 14 N = x at *
    generalize zT 5 (r + 1) x.1 x.2 = z at *
    unfold bodyE
    by_cases h5 : z < 5
    · rw [if_pos h5]
      exact ⟨a, by omega, by have := h0.1; omega⟩
    · rw [if_neg h5]
      have := hs (by omega)
      have e1 := ih x.2
      have e2 := ih (exprA r x.2).2
      have e3 := ih (exprA r (exprA r x.2).2).2
      have e4 := ih (nextS 8 x.2).2
      have e5 := ih (exprA r (nextS 8 x.2).2).2
      have t1 := typA_size r (nextS 8 x.2).2
      have t2 := typA_size r (exprA r x.2).2
      have u1 := typA_cnt r (nextS 8 x.2).2 (by omega)
      have u2 := typA_cnt r (exprA r x.2).2 (by omega)
      repeat' split
      · refine ⟨trivial, by show p + 1 ≤ _; omega, by simp only [ExA.size]; omega⟩
      · refine ⟨⟨e1.1, e2.1⟩, by simp only [ExA.h]; omega, by simp only [ExA.size]; omega⟩
      · refine ⟨⟨e4.1, e5.1⟩, by simp only [ExA.h]; omega, by simp only [ExA.size]; omega⟩
      · refine ⟨⟨u1.2.1, by omega⟩, by simp only [ExA.h]; omega, by simp only [ExA.size]; omega⟩
      · refine ⟨⟨e1.1, e2.1, e3.1⟩, by simp only [ExA.h]; omega, by simp only [ExA.size]; omega⟩
      · refine ⟨⟨e1.1, e2.1⟩, by simp only [ExA.h]; omega, by simp only [ExA.size]; omega⟩
      · refine ⟨⟨e1.1, e2.1, e3.1⟩, by simp only [ExA.h]; omega, by simp only [ExA.size]; omega⟩
      · refine ⟨⟨e1.1, u2.2.1, by omega⟩, by simp only [ExA.h]; omega, by simp only [ExA.size]; omega⟩
      · refine ⟨trivial, by show p + 1 ≤ _; omega, by simp only [ExA.size]; omega⟩
/-- A made function, put behind what nodes there are. -/
def fnB (i : Nat) (F : FnA) (M : List Nd) : Tr.Fd × List Nd :=
  (⟨[lett i], [⟨[65], (typT F.t1 M).1⟩], [⟨[120], (typT F.t2 (typT F.t1 M).2).1⟩, ⟨[121], ((typT F.t2 (typT F.t1 M).2).2.length : Int)⟩],
    (typT F.t3 ((typT F.t2 (typT F.t1 M).2).2 ++ [leaf 6 [65]])).1, (exB F.e (typT F.t3 ((typT F.t2 (typT F.t1 M).2).2 ++ [leaf 6 [65]])).2).1⟩, (exB F.e (typT F.t3 ((typT F.t2 (typT F.t1 M).2).2 ++ [leaf 6 [65]])).2).2)
/-- The functions that are made, and the nodes. -/
def iterB (N : List Int) : Nat → List Tr.Fd × List Nd
  | 0 => ([], (typT (typA 6 N).1 []).2)
  | i + 1 => ((iterB N i).1 ++ [(fnB i (fnA (fnsA N i).2).1 (iterB N i).2).1], (fnB i (fnA (fnsA N i).2).1 (iterB N i).2).2)
/-- The module that is made. -/
def madeM (N : List Int) : Tr.Md := ⟨[109], [[110], [111]], [⟨[84], (typT (typA 6 (N.take 120)).1 []).1⟩], (iterB (N.take 120) 3).1, (iterB (N.take 120) 3).2⟩
def FnA.size (F : FnA) : Nat := F.t1.size + F.t2.size + F.t3.size + F.e.size + 4
theorem fnB_le (i : Nat) (F : FnA) (M : List Nd) : (fnB i F M).2.length ≤ M.length + F.size := by
  have h1 := typT_le F.t1 M
  have h2 := typT_le F.t2 (typT F.t1 M).2
  have h3 := typT_le F.t3 ((typT F.t2 (typT F.t1 M).2).2 ++ [leaf 6 [65]])
  have h4 := exB_le F.e (typT F.t3 ((typT F.t2 (typT F.t1 M).2).2 ++ [leaf 6 [65]])).2
  simp only [List.length_append, List.length_cons, List.length_nil] at h3
  show (exB F.e (typT F.t3 ((typT F.t2 (typT F.t1 M).2).2 ++ [leaf 6 [65]])).2).2.length ≤ M.length + (F.t1.size + F.t2.size + F.t3.size + F.e.size + 4)
  omega
theorem fnA_size (N : List Int) : (fnA N).1.size + 8 * (fnA N).2.length ≤ 8 + 8 * N.length := by
  have h1 := typA_size 6 N
  have h2 := typA_size 6 (typA 6 N).2
  have h3 := typA_size 6 (typA 6 (typA 6 N).2).2
  have h4 := (exprA_all 0 6 (typA 6 (typA 6 (typA 6 N).2).2).2 (Nat.le_refl _)).2.2
  unfold fnA FnA.size
  simp only []
  omega
theorem iterB_le (N : List Int) : ∀ i, (iterB N i).2.length + 8 * (fnsA N i).2.length ≤ 2 + 8 * i + 8 * N.length
  | 0 => by
    have h1 := typT_le (typA 6 N).1 []
    have h2 := typA_size 6 N
    rw [List.length_nil] at h1
    show (typT (typA 6 N).1 []).2.length + 8 * (typA 6 N).2.length ≤ _
    omega
  | i + 1 => by
    have ih := iterB_le N i
    have h1 := fnB_le i (fnA (fnsA N i).2).1 (iterB N i).2
    have h2 := fnA_size (fnsA N i).2
    show (fnB i (fnA (fnsA N i).2).1 (iterB N i).2).2.length + 8 * (fnA (fnsA N i).2).2.length ≤ _
    omega
section
variable {L : List Wd}
structure FnA.Ok (F : FnA) (p : Nat) : Prop where
  c1 : F.t1.cnt ≤ 15
  c2 : F.t2.cnt ≤ 15
  c3 : F.t3.cnt ≤ 15
  f1 : F.t1.few
  f2 : F.t2.few
  f3 : F.t3.few
  f4 : F.e.few
  h1 : F.t1.h ≤ 6
  h2 : F.t2.h ≤ 6
  h3 : F.t3.h ≤ 6
  h4 : F.e.h p ≤ 42
theorem fnA_ok {p : Nat} (hp : p ≤ 3) (N : List Int) : (fnA N).1.Ok p := by
  obtain ⟨c1, f1, h1⟩ := typA_cnt 6 N (Nat.le_refl _)
  obtain ⟨c2, f2, h2⟩ := typA_cnt 6 (typA 6 N).2 (Nat.le_refl _)
  obtain ⟨c3, f3, h3⟩ := typA_cnt 6 (typA 6 (typA 6 N).2).2 (Nat.le_refl _)
  obtain ⟨f4, h4, _⟩ := exprA_all p 6 (typA 6 (typA 6 (typA 6 N).2).2).2 (Nat.le_refl _)
  have h5 : (exprA 6 (typA 6 (typA 6 (typA 6 N).2).2).2).1.h p ≤ 42 := by
    have : (p + 2) * (6 + 1) ≤ 35 := by omega
    omega
  exact ⟨Nat.le_trans c1 (by decide), Nat.le_trans c2 (by decide), Nat.le_trans c3 (by decide), f1, f2, f3, f4, h1, h2, h3, h5⟩
/-- A made function is read. -/
theorem fn_read {d0 : Int} (hd0 : d0 ≤ 2) {p i : Nat} {F : FnA} (hF : F.Ok p) {k : Nat} (hA : At L k (fnW p i F)) (hn : kw (now L (k + (fnW p i F).length)) = (5, [102, 110], 0) ∨ (now L (k + (fnW p i F).length)).kind = 7) (hL : (fnW p i F).length ≤ L.length) {m : Int} (hm : m < 64) {M : List Nd} (hM : M.length + F.size + 1 ≤ 4000) :
    Tr.funcD L d0 m k M = .ok ((fnB i F M).1, k + (fnW p i F).length, (fnB i F M).2) := by
  obtain ⟨c1, c2, c3, f1, f2, f3, f4, h1, h2, h3, h4⟩ := hF
  have hw := hL
  unfold fnW at hA hn hL ⊢
  obtain ⟨a1, hA⟩ := hA.app
  obtain ⟨a2, hA⟩ := hA.app
  obtain ⟨a3, hA⟩ := hA.app
  obtain ⟨A1, hA⟩ := hA.app
  obtain ⟨a4, hA⟩ := hA.app
  obtain ⟨A2, hA⟩ := hA.app
  obtain ⟨a5, hA⟩ := hA.app
  obtain ⟨A3, hA⟩ := hA.app
  obtain ⟨a6, A4⟩ := hA.app
  obtain ⟨p1, _⟩ := a1.cons
  obtain ⟨p2, _⟩ := a2.cons
  obtain ⟨p3, a3⟩ := a3.cons
  obtain ⟨p4, a3⟩ := a3.cons
  obtain ⟨p5, _⟩ := a3.cons
  obtain ⟨q1, a4⟩ := a4.cons
  obtain ⟨q2, a4⟩ := a4.cons
  obtain ⟨q3, a4⟩ := a4.cons
  obtain ⟨q4, _⟩ := a4.cons
  obtain ⟨r1, a5⟩ := a5.cons
  obtain ⟨r2, a5⟩ := a5.cons
  obtain ⟨r3, a5⟩ := a5.cons
  obtain ⟨r4, a5⟩ := a5.cons
  obtain ⟨r5, a5⟩ := a5.cons
  obtain ⟨r6, _⟩ := a5.cons
  obtain ⟨s1, _⟩ := a6.cons
  simp only [List.length_append, List.length_cons, List.length_nil, Nat.zero_add] at *
  unfold FnA.size at hM
  have m1 := typT_le F.t1 M
  have m2 := typT_le F.t2 (typT F.t1 M).2
  have m3 := typT_le F.t3 ((typT F.t2 (typT F.t1 M).2).2 ++ [leaf 6 [65]])
  simp only [List.length_append, List.length_cons, List.length_nil, Nat.zero_add] at m3
  have l4 := F.e.len_pos p
  have hfu : Tr.fuel L = 8 * L.length + 8 := rfl
  have e1 : Tr.typ L d0 (k + 1 + 1 + (1 + 1 + 1)) M = _ := typ_read F.t1 f1 c1 A1 (by rw [isW_sg q1]; decide) (by omega) (by omega) (by omega)
  have e2 : Tr.typ L d0 (k + 1 + 1 + (1 + 1 + 1) + F.t1.words.length + (1 + 1 + 1 + 1)) (typT F.t1 M).2 = _ := typ_read F.t2 f2 c2 A2 (by rw [isW_sg r1]; decide) (by omega) (by omega) (by omega)
  have e3 : Tr.typ L d0 (k + 1 + 1 + (1 + 1 + 1) + F.t1.words.length + (1 + 1 + 1 + 1) + F.t2.words.length + (1 + 1 + 1 + 1 + 1 + 1)) ((typT F.t2 (typT F.t1 M).2).2 ++ [leaf 6 [65]]) = _ := typ_read F.t3 f3 c3 A3 (by rw [isW_sg s1]; decide) (by omega) (by omega) (by simp only [List.length_append, List.length_cons, List.length_nil]; omega)
  have eA : Tr.typ L d0 (k + 1 + 1 + (1 + 1 + 1) + F.t1.words.length + (1 + 1 + 1 + 1) + F.t2.words.length + 1 + 1 + 1) (typT F.t2 (typT F.t1 M).2).2 = .ok (((typT F.t2 (typT F.t1 M).2).2.length : Int), k + 1 + 1 + (1 + 1 + 1) + F.t1.words.length + (1 + 1 + 1 + 1) + F.t2.words.length + 1 + 1 + 1 + 1, (typT F.t2 (typT F.t1 M).2).2 ++ [leaf 6 [65]]) := by
    obtain ⟨u1, u2, _⟩ := kw_parts r4
    unfold Tr.typ
    obtain ⟨g, hg⟩ : ∃ g, Tr.fuel L = g + 4 := ⟨Tr.fuel L - 4, by omega⟩
    rw [hg, show g + 4 = (g + 3) + 1 from rfl, typF_go (by omega), show g + 3 = (g + 2) + 1 from rfl, goF_part (n := ((typT F.t2 (typT F.t1 M).2).2.length : Int)) (k' := k + 1 + 1 + (1 + 1 + 1) + F.t1.words.length + (1 + 1 + 1 + 1) + F.t2.words.length + 1 + 1 + 1 + 1) (M' := (typT F.t2 (typT F.t1 M).2).2 ++ [leaf 6 [65]]) ?_]
    · rw [alt_end (by rw [isW_sg (by exact r5)]; decide) (by simp only [List.length_append, List.length_cons, List.length_nil]; omega)]
      rfl
    · rw [Tr.partF]
      rw [if_neg (fun h => by rw [u1] at h; exact absurd h.1 (by decide)), if_neg (fun h => by rw [u1] at h; exact absurd h (by decide)), if_pos u1, u2]
      exact node_at (by omega) _ _
  have hF4 : Fol L (k + 1 + 1 + (1 + 1 + 1) + F.t1.words.length + (1 + 1 + 1 + 1) + F.t2.words.length + (1 + 1 + 1 + 1 + 1 + 1) + F.t3.words.length + 1 + (F.e.words p).length) ∧ FolE L (k + 1 + 1 + (1 + 1 + 1) + F.t1.words.length + (1 + 1 + 1 + 1) + F.t2.words.length + (1 + 1 + 1 + 1 + 1 + 1) + F.t3.words.length + 1 + (F.e.words p).length) := by
    rw [show k + 1 + 1 + (1 + 1 + 1) + F.t1.words.length + (1 + 1 + 1 + 1) + F.t2.words.length + (1 + 1 + 1 + 1 + 1 + 1) + F.t3.words.length + 1 + (F.e.words p).length = k + (1 + (1 + (1 + 1 + 1 + (F.t1.words.length + (1 + 1 + 1 + 1 + (F.t2.words.length + (1 + 1 + 1 + 1 + 1 + 1 + (F.t3.words.length + (1 + (F.e.words p).length))))))))) by omega]
    rcases hn with hn | hn
    · exact ⟨fol_at hn (by decide), folE_at hn (by decide)⟩
    · have hx : ∀ s, isW L s (k + (1 + (1 + (1 + 1 + 1 + (F.t1.words.length + (1 + 1 + 1 + 1 + (F.t2.words.length + (1 + 1 + 1 + 1 + 1 + 1 + (F.t3.words.length + (1 + (F.e.words p).length)))))))))) = false := fun s => by unfold isW; rw [hn]; rfl
      exact ⟨⟨hx _, hx _, hx _, hx _⟩, ⟨hx _, hx _, hx _, hx _⟩⟩
  have hR := core_read (L := L) p F.e f4
  have e4 : Tr.expr L d0 (k + 1 + 1 + (1 + 1 + 1) + F.t1.words.length + (1 + 1 + 1 + 1) + F.t2.words.length + (1 + 1 + 1 + 1 + 1 + 1) + F.t3.words.length + 1) (typT F.t3 ((typT F.t2 (typT F.t1 M).2).2 ++ [leaf 6 [65]])).2 = _ := expr_of hR.1 hR.2 A4 hF4.1 hF4.2 l4 (by omega) (by omega) (by omega)
  unfold Tr.funcD
  rw [bind_at (room_at hm _ _), bind_at (word_at p2 _), if_pos (by rw [isW_sg p3]; rfl)]
  rw [bind_at (x := [⟨[65], (typT F.t1 M).1⟩]) (k := k + 1 + 1 + (1 + 1 + 1) + F.t1.words.length + 1) (M := (typT F.t1 M).2) ?_]
  · rw [bind_at (must_at (by rw [isW_sg q2]; rfl) _), if_neg (by rw [isW_one q3 (by decide)]; decide)]
    rw [bind_at (x := [⟨[120], (typT F.t2 (typT F.t1 M).2).1⟩, ⟨[121], ((typT F.t2 (typT F.t1 M).2).2.length : Int)⟩]) (k := k + 1 + 1 + (1 + 1 + 1) + F.t1.words.length + (1 + 1 + 1 + 1) + F.t2.words.length + 1 + 1 + 1 + 1 + 1) (M := (typT F.t2 (typT F.t1 M).2).2 ++ [leaf 6 [65]]) ?_]
    · rw [bind_at (must_at (by rw [isW_sg r6]; rfl) _), bind_at e3, bind_at (must_at (by rw [isW_sg s1]; rfl) _), bind_at e4]
      rw [show k + 1 + 1 + (1 + 1 + 1) + F.t1.words.length + (1 + 1 + 1 + 1) + F.t2.words.length + (1 + 1 + 1 + 1 + 1 + 1) + F.t3.words.length + 1 + (F.e.words p).length = k + (1 + (1 + (1 + 1 + 1 + (F.t1.words.length + (1 + 1 + 1 + 1 + (F.t2.words.length + (1 + 1 + 1 + 1 + 1 + 1 + (F.t3.words.length + (1 + (F.e.words p).length))))))))) by omega]
      rfl
    · unfold Tr.varsD
      obtain ⟨g, hg⟩ : ∃ g, Tr.fuel L = g + 2 := ⟨Tr.fuel L - 2, by omega⟩
      rw [hg, Tr.varsFD, bind_at (x := [⟨[120], (typT F.t2 (typT F.t1 M).2).1⟩, ⟨[121], ((typT F.t2 (typT F.t1 M).2).2.length : Int)⟩]) (k := k + 1 + 1 + (1 + 1 + 1) + F.t1.words.length + (1 + 1 + 1 + 1) + F.t2.words.length + 1 + 1 + 1 + 1) (M := (typT F.t2 (typT F.t1 M).2).2 ++ [leaf 6 [65]]) ?_]
      · rw [bind_at (must_at (by rw [isW_sg r5]; rfl) _)]
      · rw [bind_at (room_at (by decide) _ _), bind_at (fresh_at q3 (by simp) _), bind_at (must_at (by rw [isW_sg q4]; rfl) _), bind_at e2, if_pos (by rw [isW_sg r1]; rfl)]
        rw [Tr.varsFD, bind_at (room_at (by exact (show ((1 : Nat) : Int) < 16 by decide)) _ _), bind_at (fresh_at r2 (by exact (show [121] ∉ ([[120]] : List Bs) by decide)) _), bind_at (must_at (by rw [isW_sg r3]; rfl) _), bind_at eA, if_neg (by rw [isW_sg r5]; decide)]
        rfl
  · unfold Tr.varsD
    obtain ⟨g, hg⟩ : ∃ g, Tr.fuel L = g + 1 := ⟨Tr.fuel L - 1, by omega⟩
    rw [hg, Tr.varsFD, bind_at (x := [⟨[65], (typT F.t1 M).1⟩]) (k := k + 1 + 1 + (1 + 1 + 1) + F.t1.words.length) (M := (typT F.t1 M).2) ?_]
    · rw [bind_at (must_at (by rw [isW_sg q1]; rfl) _)]
    · rw [bind_at (room_at (by decide) _ _), bind_at (fresh_at p4 (by simp) _), bind_at (must_at (by rw [isW_at p5]; rfl) _), bind_at e1, if_neg (by rw [isW_sg q1]; decide)]
      rfl
end
end Go.Proofs.YtmgjmagniefhoaaGreatDoor

/- A made text is read as the module that it tells, with whatever brackets. No program is walked here. -/
namespace Go.Proofs.YtmgjmagniefhoaaGreatDoor
open Lx (Bs Wd)
open Tr (Nd Vr Fd Md leaf failA node room must word fresh deep isW now kw exprF typF importsF declsFD funcsFD)
theorem at_of {ws : List Wd} {e : Wd} {vs : List Kw} (h : ws.map kw = vs) : At (ws ++ [e]) 0 vs ∧ now (ws ++ [e]) vs.length = e := by
  subst h
  refine ⟨fun i hi => ?_, ?_⟩
  · rw [List.length_map] at hi
    rw [Nat.zero_add, List.getElem_map]
    unfold Tr.now
    rw [List.getD_eq_getElem?_getD, List.getElem?_append_left hi, List.getElem?_eq_getElem hi]
    rfl
  · rw [List.length_map]
    unfold Tr.now
    rw [List.getD_eq_getElem?_getD, List.getElem?_append_right (Nat.le_refl _), Nat.sub_self]
    rfl
section
variable {L : List Wd} {d0 : Int}
theorem funcs_on {f : Nat} {l : List Tr.Fd} {k k' : Nat} {M M' : List Nd} {x : Tr.Fd} (h : isW L [102, 110] k = true) (hf : Tr.funcD L d0 l.length k M = .ok (x, k', M')) : funcsFD L d0 (f + 1) l k M = funcsFD L d0 f (l ++ [x]) k' M' := by
  rw [funcsFD, if_pos h, bind_at hf]
theorem funcs_end {f : Nat} {l : List Tr.Fd} {k : Nat} {M : List Nd} (h : isW L [102, 110] k = false) : funcsFD L d0 (f + 1) l k M = .ok (l, k, M) := by
  rw [funcsFD, if_neg (by rw [h]; decide)]
theorem fnW_head (p i : Nat) (F : FnA) : ∃ vs, fnW p i F = (5, [102, 110], 0) :: vs := ⟨_, rfl⟩
set_option maxHeartbeats 1000000 in
theorem made_module (hd0 : d0 ≤ 2) {p : Nat} (hp : p ≤ 3) {N : List Int} (hN : N.length ≤ 120) (hA : At L 0 (iterW p N 3)) (h7 : (now L (iterW p N 3).length).kind = 7) (hL : (iterW p N 3).length < L.length) :
    ∃ k, Tr.moduleA L d0 = .ok (([109], [[110], [111]], [⟨[84], (typT (typA 6 N).1 []).1⟩], (iterB N 3).1), k, (iterB N 3).2) := by
  obtain ⟨c1, f1, h1⟩ := typA_cnt 6 N (Nat.le_refl _)
  have b1 := iterB_le N 0
  have b2 := iterB_le N 1
  have b3 := iterB_le N 2
  have b4 := iterB_le N 3
  have s1 := typA_size 6 N
  have s2 := fnA_size (fnsA N 0).2
  have s3 := fnA_size (fnsA N 1).2
  have s4 := fnA_size (fnsA N 2).2
  have e3 : iterW p N 3 = (((iterW p N 0 ++ fnW p 0 (fnA (fnsA N 0).2).1) ++ fnW p 1 (fnA (fnsA N 1).2).1) ++ fnW p 2 (fnA (fnsA N 2).2).1) := rfl
  have i3 : iterB N 3 = ((((iterB N 0).1 ++ [(fnB 0 (fnA (fnsA N 0).2).1 (iterB N 0).2).1]) ++ [(fnB 1 (fnA (fnsA N 1).2).1 (iterB N 1).2).1]) ++ [(fnB 2 (fnA (fnsA N 2).2).1 (iterB N 2).2).1], (fnB 2 (fnA (fnsA N 2).2).1 (iterB N 2).2).2) := rfl
  rw [e3] at hA h7 hL
  rw [i3]
  obtain ⟨hA, F3⟩ := hA.app
  obtain ⟨hA, F2⟩ := hA.app
  obtain ⟨hA, F1⟩ := hA.app
  have e0 : iterW p N 0 = [(5, [109, 111, 100, 117, 108, 101], 0), (1, [109], 0), (5, [105, 109, 112, 111, 114, 116], 0), (1, [110], 0), (5, [105, 109, 112, 111, 114, 116], 0), (1, [111], 0), (5, [116, 121, 112, 101], 0), (2, [84], 0), sg 61] ++ (typA 6 N).1.words := rfl
  rw [e0] at hA F1 F2 F3 h7 hL
  obtain ⟨hH, hT⟩ := hA.app
  obtain ⟨p0, hH⟩ := hH.cons
  obtain ⟨p1, hH⟩ := hH.cons
  obtain ⟨p2, hH⟩ := hH.cons
  obtain ⟨p3, hH⟩ := hH.cons
  obtain ⟨p4, hH⟩ := hH.cons
  obtain ⟨p5, hH⟩ := hH.cons
  obtain ⟨p6, hH⟩ := hH.cons
  obtain ⟨p7, hH⟩ := hH.cons
  obtain ⟨p8, _⟩ := hH.cons
  obtain ⟨v1, w1⟩ := fnW_head p 0 (fnA (fnsA N 0).2).1
  obtain ⟨v2, w2⟩ := fnW_head p 1 (fnA (fnsA N 1).2).1
  obtain ⟨v3, w3⟩ := fnW_head p 2 (fnA (fnsA N 2).2).1
  have q1 := (w1 ▸ F1).cons.1
  have q2 := (w2 ▸ F2).cons.1
  have q3 := (w3 ▸ F3).cons.1
  clear w1 w2 w3
  simp only [List.length_append, List.length_cons, List.length_nil, Nat.zero_add] at *
  have hfu : Tr.fuel L = 8 * L.length + 8 := rfl
  have eT : Tr.typ L d0 (1 + 1 + 1 + 1 + 1 + 1 + 1 + 1 + 1) [] = .ok ((typT (typA 6 N).1 []).1, 1 + 1 + 1 + 1 + 1 + 1 + 1 + 1 + 1 + (typA 6 N).1.words.length, (typT (typA 6 N).1 []).2) := typ_read (typA 6 N).1 f1 (by omega) hT (by rw [isW_at q1]; decide) (by omega) (by omega) (by simp only [List.length_nil]; omega)
  have g1 := fn_read hd0 (p := p) (i := 0) (fnA_ok hp (fnsA N 0).2) F1 (.inl q2) (by omega) (m := 0) (by decide) (M := (iterB N 0).2) (by omega)
  have g2 := fn_read hd0 (p := p) (i := 1) (fnA_ok hp (fnsA N 1).2) F2 (.inl q3) (by omega) (m := 1) (by decide) (M := (iterB N 1).2) (by omega)
  have g3 := fn_read hd0 (p := p) (i := 2) (fnA_ok hp (fnsA N 2).2) F3 (.inr h7) (by omega) (m := 2) (by decide) (M := (iterB N 2).2) (by omega)
  obtain ⟨g, hg⟩ : ∃ g, Tr.fuel L = g + 4 := ⟨Tr.fuel L - 4, by omega⟩
  unfold Tr.moduleA
  refine ⟨1 + 1 + 1 + 1 + 1 + 1 + 1 + 1 + 1 + (typA 6 N).1.words.length + (fnW p 0 (fnA (fnsA N 0).2).1).length + (fnW p 1 (fnA (fnsA N 1).2).1).length + (fnW p 2 (fnA (fnsA N 2).2).1).length, ?_⟩
  rw [bind_at (show must L _ 0 [] = .ok ((), 1, []) from must_at (by rw [isW_at p0]; rfl) _), bind_at (word_at p1 _), hg]
  rw [bind_at (x := [[110], [111]]) (k := 1 + 1 + 1 + 1 + 1 + 1) (M := []) ?_]
  · rw [bind_at (x := [⟨[84], (typT (typA 6 N).1 []).1⟩]) (k := 1 + 1 + 1 + 1 + 1 + 1 + 1 + 1 + 1 + (typA 6 N).1.words.length) (M := (iterB N 0).2) ?_]
    · rw [funcs_on (by rw [isW_at q1]; rfl) g1]
      rw [funcs_on (by rw [isW_at q2]; rfl) g2]
      rw [funcs_on (by rw [isW_at q3]; rfl) g3]
      rw [funcs_end (by unfold isW; rw [h7]; rfl), bind_at rfl, if_pos h7]
      rfl
    · rw [declsFD, if_pos (by rw [isW_at p6]; rfl)]
      unfold Tr.declD
      rw [bind_at (x := (⟨[84], (typT (typA 6 N).1 []).1⟩ : Tr.Vr)) (k := 1 + 1 + 1 + 1 + 1 + 1 + 1 + 1 + 1 + (typA 6 N).1.words.length) (M := (typT (typA 6 N).1 []).2) ?_]
      · rw [declsFD, if_neg (by rw [isW_at q1]; decide)]
        rfl
      · rw [bind_at (room_at (by decide) _ _), bind_at (word_at p7 _), bind_at (must_at (by rw [isW_sg p8]; rfl) _), bind_at eT]
  · rw [importsF, if_pos (by rw [isW_at p2]; rfl), bind_at (room_at (by decide) _ _), bind_at (fresh_at p3 (by simp) _)]
    rw [importsF, if_pos (by rw [isW_at p4]; rfl), bind_at (room_at (by decide) _ _), bind_at (fresh_at p5 (by decide) _)]
    rw [importsF, if_neg (by rw [isW_at p6]; decide)]
    rfl
end
theorem made_moduleA {p : Nat} (hp : p ≤ 3) (N : List Int) {ws : List Wd} {e : Wd} (h : ws.map kw = madeW p N) (he : e.kind = 7) {d0 : Int} (hd0 : d0 ≤ 2) :
    ∃ k, Tr.moduleA (ws ++ [e]) d0 = .ok (([109], [[110], [111]], (madeM N).types, (madeM N).fns), k, (madeM N).nodes) := by
  unfold madeW at h
  obtain ⟨hA, h7⟩ := at_of (e := e) h
  have hl : (iterW p (N.take 120) 3).length = ws.length := by rw [← h, List.length_map]
  have hl2 : (iterW p (N.take 120) 3).length < (ws ++ [e]).length := by rw [hl, List.length_append]; show _ < _ + 1; omega
  have h8 : (now (ws ++ [e]) (iterW p (N.take 120) 3).length).kind = 7 := by rw [h7]; exact he
  have hN : (N.take 120).length ≤ 120 := by rw [List.length_take]; omega
  unfold madeM
  dsimp only
  generalize N.take 120 = N at *
  exact made_module hd0 hp hN hA h8 hl2
/-- A made text is read as the module that it tells. -/
theorem made_parse {p : Nat} (hp : p ≤ 3) (N : List Int) : parseR (st (madeT p N)) = (madeM N, 0, 0) := by
  obtain ⟨ws, h1, h2⟩ := made_words hp N
  obtain ⟨k, hm⟩ := made_moduleA hp N (e := endW (st (madeT p N))) h2 rfl (d0 := 1) (by decide)
  unfold parseR
  rw [h1, if_neg (fun h => h rfl)]
  show (match Tr.module_ (ws ++ [endW (st (madeT p N))]) with | .error er => _ | .ok m => _) = _
  have h1 : (madeM N).name = [109] := rfl
  have h3 : (madeM N).imports = [[110], [111]] := rfl
  rw [Tr.module_one, hm]
  generalize madeM N = m at *
  obtain ⟨a, b, c, d, e⟩ := m
  dsimp only at h1 h3 ⊢
  rw [h1, h3]
end Go.Proofs.YtmgjmagniefhoaaGreatDoor
