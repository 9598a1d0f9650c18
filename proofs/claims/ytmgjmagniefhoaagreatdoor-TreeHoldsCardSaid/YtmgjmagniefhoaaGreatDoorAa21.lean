/- What stands in these texts of the proof: Zd Sa Sb Sc Sd. Conditions: those that each theorem names. -/
import Derived.Test.YtmgjmagniefhoaaGreatDoorAa20
/- works: the chapter's examples. Conditions: those that each theorem names. -/
namespace Go.Proofs.YtmgjmagniefhoaaGreatDoor
open Go.RowKit Go.Maps
section
variable {w w' : World}
theorem RowAt.made (w : World) (t : TypeId) (cs : Array Value) (n : Nat) : RowAt (w.alloc (.cells cs t)) (.slice (some ⟨w.heap.size, 0, none⟩) n n) n cs.toList := by
  refine ⟨_, _, rfl, (fun h => by cases h), fun b off q h => ?_⟩
  injection h with h
  injection h with h1 h2 h3
  subst h1 h2 h3
  refine ⟨rfl, fun j u hu => ?_⟩
  rw [Nat.zero_add, (Blk.new w t cs).cell j, ← Array.getElem?_toList]
  exact hu
set_option maxHeartbeats 8000000 in
set_option maxRecDepth 100000 in
theorem works_c (hv : Env w) : Calls Tryz.prog 9 #[] w fun e w' => e = .returned (.bool true) ∧ Below w.heap.size w w' := by
  have HV := hid_ hv
  clear hv
  go_enter Tryz.func9, Tryz.ntmps9
  go_wp2_with fail
  refine (parse_c HV.out _ (by decide)).mono ?_
  rintro e w1 ⟨v, hm, he, hb⟩
  rw [parse_w1] at hm he
  subst he
  have HM1 := hid_ hm
  obtain ⟨Ai, ci, At, ct, Af, cf, An, cn, hv, ho⟩ := hm.open
  have hv : v = .agg #[.string ⟨#[109]⟩, .slice Ai 0 ci, .slice At 0 ct, .slice Af 1 cf, .slice An 7 cn] := hv
  subst hv
  obtain ⟨bf, off, vv, pv, rfl, p0, p1, p2, p3, p4, _⟩ := ho.fn 0 (by decide)
  obtain ⟨bn, on, kv, lv, rfl, q0, q1, q2, q3, q4, q5, q6, q7⟩ := ho.nd 6 (by decide)
  have p3 : w1.cell? ⟨bf, off + 3, none⟩ = some (.int .i64 1) := p3
  have p4 : w1.cell? ⟨bf, off + 4, none⟩ = some (.int .i64 6) := p4
  have q5 : w1.cell? ⟨bn, on + 36 + 5, none⟩ = some lv := q5
  have q7 : RowAt w1 lv 2 (ints [4, 5]) := q7
  obtain ⟨Al, cl, rfl⟩ := q7.form
  have HV1 := hid_ (HV.out.below hb)
  have HB1 := hid_ hb
  have HQ7 := hid_ q7
  have HBk := hid_ (Blk.new w1 31 #[.string ⟨#[109]⟩, .slice Ai 0 ci, .slice At 0 ct, .slice (some ⟨bf, off, none⟩) 1 cf, .slice (some ⟨bn, on, none⟩) 7 cn])
  have HB2 := hid_ (below_alloc w1 (.cells #[.string ⟨#[109]⟩, .slice Ai 0 ci, .slice At 0 ct, .slice (some ⟨bf, off, none⟩) 1 cf, .slice (some ⟨bn, on, none⟩) 7 cn] 31))
  clear hm ho hb p0 p1 p2 q0 q1 q2 q3 q4 q6 q7
  go_upto_region 2 with fail
  generalize w1.alloc (.cells #[.string ⟨#[109]⟩, .slice Ai 0 ci, .slice At 0 ct, .slice (some ⟨bf, off, none⟩) 1 cf, .slice (some ⟨bn, on, none⟩) 7 cn] 31) = W2 at HBk HB2 ⊢
  have HM2 := hid_ (HM1.out.below HB2.out)
  have HV2 := hid_ (HV1.out.below HB2.out)
  have n0 : W2.cell? ⟨w1.heap.size, 0, none⟩ = some (.string ⟨#[109]⟩) := HBk.out.cell 0
  have n1 : W2.cell? ⟨w1.heap.size, 1, none⟩ = some (.slice Ai 0 ci) := HBk.out.cell 1
  have n2 : W2.cell? ⟨w1.heap.size, 2, none⟩ = some (.slice At 0 ct) := HBk.out.cell 2
  have n3 : W2.cell? ⟨w1.heap.size, 3, none⟩ = some (.slice (some ⟨bf, off, none⟩) 1 cf) := HBk.out.cell 3
  have n4 : W2.cell? ⟨w1.heap.size, 4, none⟩ = some (.slice (some ⟨bn, on, none⟩) 7 cn) := HBk.out.cell 4
  have r3 := below_cell HB2.out p3
  have r4 := below_cell HB2.out p4
  have r5 := below_cell HB2.out q5
  clear p3 p4 q5
  go_wp2_with fail
  have HK1 := hid_ (below_alloc W2 (.cells #[.int .i64 4, .int .i64 4, .int .i64 16, .int .i64 11, .int .i64 23, .int .i64 11, .int .i64 23] 3))
  refine (kinds_c (HM2.out.below HK1.out) (ks := [4, 4, 16, 11, 23, 11, 23]) (RowAt.made W2 3 #[.int .i64 4, .int .i64 4, .int .i64 16, .int .i64 11, .int .i64 23, .int .i64 11, .int .i64 23] 7) (by decide)).mono ?_
  rintro e w3 ⟨he, hb3⟩
  have he : e = .returned (.bool true) := he
  subst he
  have HB3 := hid_ (HK1.out.trans (hb3.mono HK1.out.size))
  have s3 := below_cell HB3.out n3
  have s4 := below_cell HB3.out n4
  have t3 := below_cell HB3.out r3
  have t4 := below_cell HB3.out r4
  have t5 := below_cell HB3.out r5
  have HQ3 := hid_ ((HQ7.out.below HB2.out).below HB3.out)
  have HV3 := hid_ (HV2.out.below HB3.out)
  clear hb3 n0 n1 n2 n3 n4 r3 r4 r5
  go_wp2_with fail
  have HK2 := hid_ (below_alloc w3 (.cells #[.int .i64 4, .int .i64 5] 3))
  refine (eqints_c (a := [4, 5]) (b := [4, 5]) (HQ3.out.below HK2.out) (RowAt.made w3 3 #[.int .i64 4, .int .i64 5] 2) (by decide)).mono ?_
  rintro e w4 ⟨he, hb4⟩
  have he : e = .returned (.bool true) := he
  subst he
  have HV4 := hid_ ((HV3.out.below HK2.out).below hb4)
  have HB4 := hid_ ((HB1.out.trans (HB2.out.mono HB1.out.size)).trans ((HB3.out.trans ((HK2.out.trans (hb4.mono HK2.out.size)).mono HB3.out.size)).mono (HB1.out.trans (HB2.out.mono HB1.out.size)).size))
  clear hb4 s3 s4 t3 t4 t5 HQ3 HQ7 HM1 HM2 HBk HB1 HB2 HB3 HK1 HK2 HV1 HV2 HV3
  go_wp2_with fail
  refine (parse_c HV4.out _ (by decide)).mono ?_
  rintro e w5 ⟨v, hm, he, hb⟩
  rw [parse_w2] at hm he
  subst he
  have HM5 := hid_ hm
  obtain ⟨Aj, cj, Au, cu, Ag, cg, Ap, cp, hv, ho⟩ := hm.open
  have hv : v = .agg #[.string ⟨#[109]⟩, .slice Aj 0 cj, .slice Au 1 cu, .slice Ag 0 cg, .slice Ap 4 cp] := hv
  subst hv
  obtain ⟨bt, ot, rfl, p5, p6⟩ := ho.ty 0 (by decide)
  have u5 : w5.cell? ⟨bt, ot, none⟩ = some (.string ⟨#[84]⟩) := p5
  have u6 : w5.cell? ⟨bt, ot + 1, none⟩ = some (.int .i64 3) := p6
  have HV5 := hid_ (HV4.out.below hb)
  have HB5 := hid_ (HB4.out.trans (hb.mono HB4.out.size))
  have HBk := hid_ (Blk.new w5 31 #[.string ⟨#[109]⟩, .slice Aj 0 cj, .slice (some ⟨bt, ot, none⟩) 1 cu, .slice Ag 0 cg, .slice Ap 4 cp])
  have HB6 := hid_ (below_alloc w5 (.cells #[.string ⟨#[109]⟩, .slice Aj 0 cj, .slice (some ⟨bt, ot, none⟩) 1 cu, .slice Ag 0 cg, .slice Ap 4 cp] 31))
  clear hm ho hb p5 p6
  go_upto_region 5 with fail
  generalize w5.alloc (.cells #[.string ⟨#[109]⟩, .slice Aj 0 cj, .slice (some ⟨bt, ot, none⟩) 1 cu, .slice Ag 0 cg, .slice Ap 4 cp] 31) = W6 at HBk HB6 ⊢
  have n0 : W6.cell? ⟨w5.heap.size, 0, none⟩ = some (.string ⟨#[109]⟩) := HBk.out.cell 0
  have n1 : W6.cell? ⟨w5.heap.size, 1, none⟩ = some (.slice Aj 0 cj) := HBk.out.cell 1
  have n2 : W6.cell? ⟨w5.heap.size, 2, none⟩ = some (.slice (some ⟨bt, ot, none⟩) 1 cu) := HBk.out.cell 2
  have n3 : W6.cell? ⟨w5.heap.size, 3, none⟩ = some (.slice Ag 0 cg) := HBk.out.cell 3
  have n4 : W6.cell? ⟨w5.heap.size, 4, none⟩ = some (.slice Ap 4 cp) := HBk.out.cell 4
  have r5 := below_cell HB6.out u5
  have r6 := below_cell HB6.out u6
  clear u5 u6
  go_wp2_with fail
  have HK1 := hid_ (below_alloc W6 (.cells #[.int .i64 2, .int .i64 6, .int .i64 7, .int .i64 8] 3))
  refine (kinds_c ((HM5.out.below HB6.out).below HK1.out) (ks := [2, 6, 7, 8]) (RowAt.made W6 3 #[.int .i64 2, .int .i64 6, .int .i64 7, .int .i64 8] 4) (by decide)).mono ?_
  rintro e w7 ⟨he, hb7⟩
  have he : e = .returned (.bool true) := he
  subst he
  have HB7 := hid_ (HK1.out.trans (hb7.mono HK1.out.size))
  have s2 := below_cell HB7.out n2
  have t5 := below_cell HB7.out r5
  have t6 := below_cell HB7.out r6
  have HV7 := hid_ ((HV5.out.below HB6.out).below HB7.out)
  have HB8 := hid_ (HB5.out.trans ((HB6.out.trans (HB7.out.mono HB6.out.size)).mono HB5.out.size))
  clear hb7 n0 n1 n2 n3 n4 r5 r6 HM5 HBk HB6 HB7 HK1 HV4 HV5 HB4 HB5
  go_wp2_with fail
  refine (wrong_c HV7.out _ (by decide) 31 30 parse_w3).mono ?_
  rintro e w8 ⟨rfl, hb8⟩
  have HV8 := hid_ (HV7.out.below hb8)
  have HB9 := hid_ (HB8.out.trans (hb8.mono HB8.out.size))
  clear hb8
  go_wp2_with fail
  refine (wrong_c HV8.out _ (by decide) 22 30 parse_w4).mono ?_
  rintro e w9 ⟨rfl, hb9⟩
  have HV9 := hid_ (HV8.out.below hb9)
  have HB10 := hid_ (HB9.out.trans (hb9.mono HB9.out.size))
  clear hb9
  go_wp2_with fail
  refine (wrong_c HV9.out _ (by decide) 6 30 parse_w5).mono ?_
  rintro e w10 ⟨rfl, hb10⟩
  have HB11 := hid_ (HB10.out.trans (hb10.mono HB10.out.size))
  clear hb10
  go_wp2_with fail
  go_ret
  exact ⟨rfl, HB11.out⟩
end
end Go.Proofs.YtmgjmagniefhoaaGreatDoor

/- Seeds of modules: next, letter, plainly and walked. Conditions: those that each theorem names. -/
namespace Go.Proofs.YtmgjmagniefhoaaGreatDoor
open Go.RowKit Go.Maps

/-- A number, brought into bounds. -/
def bring (i n : Int) : Nat := (if i.tmod n < 0 then i.tmod n + n else i.tmod n).toNat
theorem bring_lt (i n : Int) (h0 : 0 < n) : (bring i n : Int) < n := by
  have h2 := Int.tmod_lt_of_pos i h0
  have h3 := Int.lt_tmod_of_pos i h0
  unfold bring
  split <;> omega
set_option maxHeartbeats 1000000 in
set_option maxRecDepth 100000 in
theorem bring_v (w : World) (i n : Int) (h0 : 0 < n) (h1 : n ≤ 2147483648) : Calls Tryz.prog 13 #[.int .i64 i, .int .i64 n] w fun e w' => e = .returned (.int .i64 (bring i n)) ∧ w' = w := by
  have h2 := Int.tmod_lt_of_pos i h0
  have h3 := Int.lt_tmod_of_pos i h0
  by_cases hn : i.tmod n < 0
  · have e : ((bring i n : Nat) : Int) = i.tmod n + n := by unfold bring; rw [if_pos hn]; omega
    rw [e]
    clear e
    go_enter Tryz.func13, Tryz.ntmps13
    go_wp2_with fail
    go_ret
    exact ⟨rfl, rfl⟩
  · have e : ((bring i n : Nat) : Int) = i.tmod n := by unfold bring; rw [if_neg hn]; omega
    rw [e]
    clear e
    go_enter Tryz.func13, Tryz.ntmps13
    go_wp2_with fail
    go_ret
    exact ⟨rfl, rfl⟩
/-- A letter. -/
def lett (c : Nat) : UInt8 := UInt8.ofNat (97 + c)
/-- The next number of a seed. -/
def nextS (n : Int) : List Int → Nat × List Int
  | [] => (0, [])
  | x :: N => (bring x n, N)
theorem nextS_lt {n : Int} (h : 0 < n) (N : List Int) : ((nextS n N).1 : Int) < n := by
  cases N with
  | nil => exact h
  | cons x N => exact bring_lt x n h
/-- A seed in memory. -/
structure SdAt (w : World) (sb : Nat) (N : List Int) : Prop where
  ex : ∃ v, Blk w sb 24 #[v] ∧ RowAt w v N.length (ints N) ∧ (∀ b off q n c, v = .slice (some ⟨b, off, q⟩) n c → b ≠ sb) ∧ ∀ A n c, v = .slice A n c → n ≤ c ∧ c ≤ 100000000000000
  few : N.length ≤ 120
theorem SdAt.below {w w' : World} {sb : Nat} {N : List Int} (h : SdAt w sb N) (hb : Below w.heap.size w w') : SdAt w' sb N := by
  obtain ⟨v, h1, h2, h3, h4⟩ := h.ex
  exact ⟨⟨v, h1.kp (Kp.of_below hb fun _ => False) id, h2.below hb, h3, h4⟩, h.few⟩
section
variable {w w' : World} {sb : Nat} {N : List Int}
theorem SdAt.cut {b off off' c0 : Nat} {x : Int} {v : Value} (hb : Blk w sb 24 #[v]) (hc : ∀ j u, (ints (x :: N))[j]? = some u → w.cell? ⟨b, off + j, none⟩ = some u) (hbs : b ≠ sb) (hoff : N.length ≠ 0 → off' = off + 1) (hcc : N.length ≤ c0 ∧ c0 ≤ 100000000000000) (hfew : N.length ≤ 120) :
    SdAt (w.setCell ⟨sb, 0, none⟩ (.slice (some ⟨b, off', none⟩) N.length c0)) sb N ∧ Below sb w (w.setCell ⟨sb, 0, none⟩ (.slice (some ⟨b, off', none⟩) N.length c0)) ∧ w.heap.size ≤ (w.setCell ⟨sb, 0, none⟩ (.slice (some ⟨b, off', none⟩) N.length c0)).heap.size := by
  have k3 : Kp (fun q => q = sb) w (w.setCell ⟨sb, 0, none⟩ (.slice (some ⟨b, off', none⟩) N.length c0)) := (Kp.refl (fun q => q = sb) w).setCell (p := ⟨sb, 0, none⟩) (.inl rfl) _
  refine ⟨⟨⟨_, hb.set_ 0 _, ⟨_, _, rfl, (fun h => by cases h), fun b2 off2 q h => ?_⟩, fun b2 off2 q n c h => ?_, fun A n c h => ?_⟩, hfew⟩, (Below.refl _ _).setCell (p := ⟨sb, 0, none⟩) (Nat.le_refl _) _, k3.size⟩
  · injection h with h
    injection h with h2 h3 h4
    subst h2 h3 h4
    refine ⟨rfl, fun j u hu => ?_⟩
    have hj : j < N.length := by
      have := (List.getElem?_eq_some_iff.1 hu).1
      simpa [ints] using this
    have e := hoff (by omega)
    subst e
    rw [show off + 1 + j = off + (j + 1) by omega]
    exact k3.cell (hc (j + 1) u hu) hbs
  · injection h with h1 _ _
    injection h1 with h1
    injection h1 with h1 _ _
    rw [← h1]
    exact hbs
  · injection h with _ h2 h3
    omega
set_option maxHeartbeats 2000000 in
set_option maxRecDepth 100000 in
theorem next_c (h : SdAt w sb N) (n : Int) (h0 : 0 < n) (h1 : n ≤ 1000) : Calls Tryz.prog 71 #[.pointer (some ⟨sb, 0, none⟩), .int .i64 n] w fun e w' => e = .returned (.int .i64 (nextS n N).1) ∧ SdAt w' sb (nextS n N).2 ∧ Below sb w w' ∧ w.heap.size ≤ w'.heap.size := by
  obtain ⟨v, hb, hr, hne, hcp⟩ := h.ex
  have hfew := h.few
  cases N with
  | nil =>
    obtain ⟨A, c, rfl⟩ := hr.form
    have HS := hid_ h
    have c0 : w.cell? ⟨sb, 0, none⟩ = some (.slice A 0 c) := hb.cell 0
    clear h hb hr hne hcp
    go_enter Tryz.func71, Tryz.ntmps71
    go_wp2_with fail
    go_ret
    exact ⟨rfl, HS.out, Below.refl _ _, Nat.le_refl _⟩
  | cons x N =>
    obtain ⟨b, off, c, rfl, hc⟩ := hr.get (by simp)
    have c0 : w.cell? ⟨sb, 0, none⟩ = some (.slice (some ⟨b, off, none⟩) (N.length + 1) c) := hb.cell 0
    have f0 : w.frozen? ⟨sb, 0, none⟩ = false := hb.frozen 0
    have x0 : w.cell? ⟨b, off, none⟩ = some (.int .i64 x) := hc 0 _ rfl
    have q0 : (((N.length + 1 : Nat) : Int) == 0) = false := by rw [beq_eq_false_iff_ne]; omega
    have HBr := hid_ (bring_v w x n h0 (by omega))
    have HC := hid_ hc
    have HB := hid_ hb
    have hbs : b ≠ sb := hne b off none _ _ rfl
    obtain ⟨hcap, hcm⟩ := hcp _ _ _ rfl
    have hcap : N.length + 1 ≤ c := hcap
    have HCap := hid_ hcap
    clear h hb hr hne hc hcp
    go_enter Tryz.func71, Tryz.ntmps71
    go_wp2_with fail
    refine HBr.out.mono ?_
    rintro e w1 ⟨rfl, rfl⟩
    go_wp2_with fail
    all_goals
      go_ret
      have hN : N.length ≤ 120 := by have : (x :: N).length = N.length + 1 := rfl; omega
      have hcap := HCap.out
      exact ⟨rfl, SdAt.cut HB.out HC.out hbs (by first | exact fun _ => rfl | (intro h; omega)) ⟨by omega, by omega⟩ hN⟩
set_option maxHeartbeats 2000000 in
set_option maxRecDepth 100000 in
theorem letter_c (w : World) (k : Nat) (hk : k < 8) : Calls Tryz.prog 24 #[.int .i64 k] w fun e w' => e = .returned (.string (st [lett k])) ∧ w' = w := by
  have hcut : (⟨#[97, 98, 99, 100, 101, 102, 103, 104]⟩ : ByteArray).extract k (k + 1) = st [lett k] := by
    have h : k = 0 ∨ k = 1 ∨ k = 2 ∨ k = 3 ∨ k = 4 ∨ k = 5 ∨ k = 6 ∨ k = 7 := by omega
    rcases h with rfl | rfl | rfl | rfl | rfl | rfl | rfl | rfl <;> rfl
  have HCut := hid_ hcut
  have b0 : (0 : Int) ≤ (k : Int) := by omega
  have t1 : ((k : Int) + 1).toNat = k + 1 := by omega
  clear hcut
  go_enter Tryz.func24, Tryz.ntmps24
  go_wp2_with fail
  go_ret
  exact ⟨congrArg (fun z => Ending.returned (Value.string z)) HCut.out, rfl⟩
end
end Go.Proofs.YtmgjmagniefhoaaGreatDoor

/- Seeds of types, plainly. No program is walked here. -/
namespace Go.Proofs.YtmgjmagniefhoaaGreatDoor
/-- A type that a seed tells. -/
inductive TyA where
  | prim (k : Nat)
  | tag (c : Nat)
  | name (c : Nat)
  | pair (a b : TyA)
  | away (c : Nat)
  | uni (a b : TyA)
def primT : Nat → List UInt8
  | 0 => [105, 110, 116]
  | 1 => [100, 121, 110]
  | 2 => [110, 117, 108, 108]
  | _ => [98, 111, 111, 108]
def TyA.text : TyA → List UInt8
  | .prim k => primT k
  | .tag c => [39] ++ [lett c]
  | .name c => [84] ++ [lett c]
  | .pair a b => (([123, 97, 58, 32] ++ a.text) ++ [44, 32, 98, 58, 32] ++ b.text) ++ [125]
  | .away c => [lett c] ++ [58, 58, 84]
  | .uni a b => ((a.text ++ [32, 124, 32, 40]) ++ b.text) ++ [32, 124, 32, 110, 117, 108, 108, 41]
def leafT (z : Nat) (N : List Int) : TyA × List Int :=
  if z < 4 then (.prim z, N) else if z = 4 then (.tag (nextS 8 N).1, (nextS 8 N).2) else (.name (nextS 8 N).1, (nextS 8 N).2)
def zT (m r k : Nat) (N : List Int) : Nat := if r = 0 ∨ N = [] then k % m else k
/-- A type of a seed, so deep at most. -/
def typA : Nat → List Int → TyA × List Int
  | 0, N => leafT (zT 6 0 (nextS 9 N).1 (nextS 9 N).2) (nextS 9 N).2
  | r + 1, N =>
    if zT 6 (r + 1) (nextS 9 N).1 (nextS 9 N).2 = 6 then (.pair (typA r (nextS 9 N).2).1 (typA r (typA r (nextS 9 N).2).2).1, (typA r (typA r (nextS 9 N).2).2).2)
    else if zT 6 (r + 1) (nextS 9 N).1 (nextS 9 N).2 = 7 then (.away (nextS 8 (nextS 9 N).2).1, (nextS 8 (nextS 9 N).2).2)
    else if zT 6 (r + 1) (nextS 9 N).1 (nextS 9 N).2 = 8 then (.uni (typA r (nextS 9 N).2).1 (typA r (typA r (nextS 9 N).2).2).1, (typA r (typA r (nextS 9 N).2).2).2)
    else leafT (zT 6 (r + 1) (nextS 9 N).1 (nextS 9 N).2) (nextS 9 N).2
theorem primT_len (k : Nat) : (primT k).length ≤ 4 := by
  match k with
  | 0 => decide
  | 1 => decide
  | 2 => decide
  | n + 3 => exact Nat.le_refl 4
theorem leafT_len (z : Nat) (N : List Int) : (leafT z N).1.text.length ≤ 4 := by
  unfold leafT
  split
  · exact primT_len z
  · split
    · show 2 ≤ 4; omega
    · show 2 ≤ 4; omega
theorem typA_len : ∀ (r : Nat) (N : List Int), (typA r N).1.text.length + 12 ≤ 16 * 2 ^ r
  | 0, N => by
    have := leafT_len (zT 6 0 (nextS 9 N).1 (nextS 9 N).2) (nextS 9 N).2
    show (leafT _ _).1.text.length + 12 ≤ 16
    omega
  | r + 1, N => by
    have h1 := typA_len r (nextS 9 N).2
    have h2 := typA_len r (typA r (nextS 9 N).2).2
    have h3 := leafT_len (zT 6 (r + 1) (nextS 9 N).1 (nextS 9 N).2) (nextS 9 N).2
    have hp : 1 ≤ 2 ^ r := Nat.one_le_two_pow
    rw [Nat.pow_succ]
    unfold typA
    split
    · simp only [TyA.text, List.length_append, List.length_cons, List.length_nil]
      omega
    · split
      · show 4 + 12 ≤ _
        omega
      · split
        · simp only [TyA.text, List.length_append, List.length_cons, List.length_nil]
          omega
        · omega
theorem typA_small {r k z : Nat} {N N1 : List Int} (hk : nextS 9 N = (k, N1)) (hz : zT 6 r k N1 = z) (h6 : z < 6) : typA r N = leafT z N1 := by
  subst hz
  cases r with
  | zero => unfold typA; rw [hk]
  | succ r => unfold typA; rw [hk]; simp only []; rw [if_neg (by omega), if_neg (by omega), if_neg (by omega)]
theorem zT_great {m r k z : Nat} {N1 : List Int} (hz : zT m r k N1 = z) (hm : 0 < m) (h6 : m ≤ z) : ∃ r', r = r' + 1 := by
  subst hz
  unfold zT at h6
  cases r with
  | zero =>
    rw [if_pos (.inl rfl)] at h6
    have := Nat.mod_lt k hm
    omega
  | succ r => exact ⟨r, rfl⟩
theorem zT_lt {m r k n : Nat} {N1 : List Int} (hk : k < n) : zT m r k N1 < n := by
  unfold zT
  split
  · exact Nat.lt_of_le_of_lt (Nat.mod_le _ _) hk
  · exact hk
theorem typA_great {r k z : Nat} {N N1 : List Int} (hk : nextS 9 N = (k, N1)) (hz : zT 6 (r + 1) k N1 = z) : (z = 6 → typA (r + 1) N = (.pair (typA r N1).1 (typA r (typA r N1).2).1, (typA r (typA r N1).2).2)) ∧ (z = 7 → typA (r + 1) N = (.away (nextS 8 N1).1, (nextS 8 N1).2)) ∧ (z = 8 → typA (r + 1) N = (.uni (typA r N1).1 (typA r (typA r N1).2).1, (typA r (typA r N1).2).2)) := by
  subst hz
  refine ⟨fun h => ?_, fun h => ?_, fun h => ?_⟩
  · rw [typA, hk]; simp only []; rw [if_pos h]
  · rw [typA, hk]; simp only []; rw [if_neg (by omega), if_pos h]
  · rw [typA, hk]; simp only []; rw [if_neg (by omega), if_neg (by omega), if_pos h]
end Go.Proofs.YtmgjmagniefhoaaGreatDoor

/- Seeds of types, walked. Conditions: those that each theorem names. -/
namespace Go.Proofs.YtmgjmagniefhoaaGreatDoor
open Go.RowKit Go.Maps
section
variable {w w' : World} {sb : Nat} {N : List Int}
theorem SdAt.len (h : SdAt w sb N) : ∃ A c, w.cell? ⟨sb, 0, none⟩ = some (.slice A N.length c) := by
  obtain ⟨v, h1, h2, _⟩ := h.ex
  obtain ⟨A, c, rfl⟩ := h2.form
  exact ⟨A, c, h1.cell 0⟩
theorem SdAt.lt (h : SdAt w sb N) : sb < w.heap.size := by
  obtain ⟨v, h1, _⟩ := h.ex
  exact h1.lt
/-- What a seed's part answers. -/
def SdP (w : World) (sb : Nat) (t : List UInt8) (N : List Int) (e : Ending) (w' : World) : Prop := e = .returned (.string (st t)) ∧ SdAt w' sb N ∧ Below sb w w'
set_option maxHeartbeats 8000000 in
set_option maxRecDepth 100000 in
theorem typS_c (r : Nat) (ih : ∀ r', r' < r → ∀ (w : World) (N : List Int), SdAt w sb N → Calls Tryz.prog 32 #[.pointer (some ⟨sb, 0, none⟩), .int .i64 (6 - (r' : Int))] w (SdP w sb (typA r' N).1.text (typA r' N).2)) (hr : r ≤ 6) (h : SdAt w sb N) :
    Calls Tryz.prog 32 #[.pointer (some ⟨sb, 0, none⟩), .int .i64 (6 - (r : Int))] w (SdP w sb (typA r N).1.text (typA r N).2) := by
  have HNx := hid_ (next_c h 9 (by omega) (by omega))
  have HLt := hid_ h.lt
  generalize hD : (6 - (r : Int)) = D
  have HIh := hid_ ih
  have hk9 := nextS_lt (n := 9) (by omega) N
  have HT := hid_ (show ∃ k N1, (nextS 9 N) = (k, N1) from ⟨_, _, rfl⟩)
  obtain ⟨k, N1, hkN⟩ := HT.out
  have HK := hid_ hkN
  rw [hkN] at HNx hk9
  have hk9 : k < 9 := by have : ((k : Nat) : Int) < 9 := hk9; omega
  clear ih h hkN HT
  go_enter Tryz.func32, Tryz.ntmps32
  go_wp2_with fail
  refine HNx.out.mono ?_
  rintro e w1 ⟨rfl, hs1, hb1, _⟩
  have HS1 := hid_ (show SdAt w1 sb N1 from hs1)
  have HB1 := hid_ hb1
  obtain ⟨A1, c1, x1⟩ := HS1.out.len
  have hfew := HS1.out.few
  clear hs1 hb1 HNx
  have hmod : (k : Int).tmod 6 = ((k % 6 : Nat) : Int) := by rw [Int.tmod_eq_emod_of_nonneg (by omega)]; omega
  go_upto_region 2 with fail
  go_cut [17] (fun s17 wx => s17 = .bool (decide (r = 0 ∨ N1 = [])) ∧ wx = w1)
  case first =>
    by_cases h0 : r = 0
    · have hd : D > 5 := by omega
      have HD := hid_ (show decide (r = 0 ∨ N1 = []) = true from decide_eq_true (.inl h0))
      clear h0
      go_wp2_with fail
      go_meet
      exact ⟨by rw [HD.out], rfl⟩
    · have hd : ¬ D > 5 := by omega
      by_cases hn : N1 = []
      · have q0 : ((N1.length : Int) == 0) = true := by rw [hn]; rfl
        have HD := hid_ (show decide (r = 0 ∨ N1 = []) = true from decide_eq_true (.inr hn))
        clear h0 hn
        go_wp2_with fail
        go_meet
        exact ⟨by rw [HD.out], rfl⟩
      · have q0 : ((N1.length : Int) == 0) = false := by
          rw [beq_eq_false_iff_ne]
          have : N1.length ≠ 0 := fun h => hn (List.eq_nil_of_length_eq_zero h)
          omega
        have HD := hid_ (show decide (r = 0 ∨ N1 = []) = false from decide_eq_false (fun h => h.elim h0 hn))
        clear h0 hn
        go_wp2_with fail
        go_meet
        exact ⟨by rw [HD.out], rfl⟩
  case rest =>
    obtain ⟨rfl, rfl⟩ := hcut
    have HZ := hid_ (show zT 6 r k N1 = if decide (r = 0 ∨ N1 = []) = true then k % 6 else k from by
      unfold zT
      by_cases h : r = 0 ∨ N1 = []
      · rw [if_pos h, if_pos (decide_eq_true h)]
      · rw [if_neg h, if_neg (by rw [decide_eq_false h]; decide)])
    generalize decide (r = 0 ∨ N1 = []) = b at *
    go_upto_if 17 with fail
    go_cut [5] (fun s5 wx => s5 = .int .i64 ((zT 6 r k N1 : Nat) : Int) ∧ wx = wc)
    case first =>
      cases b with
      | true =>
        go_wp2_with fail
        go_meet
        exact ⟨by rw [HZ.out]; simp, rfl⟩
      | false =>
        go_wp2_with fail
        go_meet
        exact ⟨by rw [HZ.out]; simp, rfl⟩
    case rest =>
      obtain ⟨rfl, rfl⟩ := hcut
      have hz9 : zT 6 r k N1 < 9 := zT_lt hk9
      obtain ⟨z, hz⟩ : ∃ z, zT 6 r k N1 = z := ⟨_, rfl⟩
      rw [hz] at hz9 ⊢
      have HZz := hid_ hz
      have HDd := hid_ hD
      clear hz HZ hmod x1
      by_cases h6 : z < 6
      · have HTy := hid_ (typA_small HK.out HZz.out h6)
        clear HZz
        rcases (show z = 0 ∨ z = 1 ∨ z = 2 ∨ z = 3 ∨ z = 4 ∨ z = 5 by omega) with rfl | rfl | rfl | rfl | rfl | rfl
        · go_wp2_with fail
          go_ret
          rw [HTy.out]
          exact ⟨rfl, HS1.out, HB1.out⟩
        · go_wp2_with fail
          go_ret
          rw [HTy.out]
          exact ⟨rfl, HS1.out, HB1.out⟩
        · go_wp2_with fail
          go_ret
          rw [HTy.out]
          exact ⟨rfl, HS1.out, HB1.out⟩
        · go_wp2_with fail
          go_ret
          rw [HTy.out]
          exact ⟨rfl, HS1.out, HB1.out⟩
        · go_wp2_with fail
          refine (next_c HS1.out 8 (by omega) (by omega)).mono ?_
          rintro e w2 ⟨rfl, hs2, hb2, _⟩
          have HS2 := hid_ hs2
          have HB2 := hid_ (HB1.out.trans hb2)
          have hc8 : (nextS 8 N1).1 < 8 := by have := nextS_lt (n := 8) (by omega) N1; omega
          clear hs2 hb2
          go_wp2_with fail
          refine (letter_c w2 _ hc8).mono ?_
          rintro e w3 ⟨rfl, rfl⟩
          go_wp2_with fail
          go_ret
          rw [HTy.out]
          exact ⟨congrArg (fun q => Ending.returned (Value.string q)) (st_app [39] _), HS2.out, HB2.out⟩
        · go_wp2_with fail
          refine (next_c HS1.out 8 (by omega) (by omega)).mono ?_
          rintro e w2 ⟨rfl, hs2, hb2, _⟩
          have HS2 := hid_ hs2
          have HB2 := hid_ (HB1.out.trans hb2)
          have hc8 : (nextS 8 N1).1 < 8 := by have := nextS_lt (n := 8) (by omega) N1; omega
          clear hs2 hb2
          go_wp2_with fail
          refine (letter_c w2 _ hc8).mono ?_
          rintro e w3 ⟨rfl, rfl⟩
          go_wp2_with fail
          go_ret
          rw [HTy.out]
          exact ⟨congrArg (fun q => Ending.returned (Value.string q)) (st_app [84] _), HS2.out, HB2.out⟩
      · obtain ⟨r, rfl⟩ := zT_great HZz.out (by omega) (by omega)
        obtain ⟨t6, t7, t8⟩ := typA_great HK.out HZz.out
        have hD2 := HDd.out
        have hD3 : D + 1 = 6 - (r : Int) := by omega
        have wd : IntKind.i64.wrap (D + 1) = D + 1 := IntWalk.i64_in _ (by omega)
        have HTy := hid_ (fun (w : World) (N : List Int) (h : SdAt w sb N) => (show Calls Tryz.prog 32 #[.pointer (some ⟨sb, 0, none⟩), .int .i64 (D + 1)] w (SdP w sb (typA r N).1.text (typA r N).2) by rw [hD3]; exact HIh.out r (by omega) w N h))
        have hp : 2 ^ r ≤ 64 := Nat.pow_le_pow_right (by omega) (by omega : r ≤ 6)
        have HLen := hid_ (fun N => show (typA r N).1.text.length ≤ 1100 by have := typA_len r N; omega)
        have H6 := hid_ t6
        have H7 := hid_ t7
        have H8 := hid_ t8
        clear t6 t7 t8 hD hD2 hD3 HDd HIh hp
        rcases (show z = 6 ∨ z = 7 ∨ z = 8 by omega) with rfl | rfl | rfl
        · have HA := hid_ (H6.out rfl)
          clear H6 H7 H8
          go_wp2_with fail
          refine (HTy.out wc N1 HS1.out).mono ?_
          rintro e w2 ⟨rfl, hs2, hb2⟩
          have HS2 := hid_ hs2
          have HB2 := hid_ (HB1.out.trans hb2)
          have hl2 := HLen.out N1
          have hz2 : (st (typA r N1).1.text).size ≤ 1100 := by rw [st_size]; exact hl2
          clear hs2 hb2
          go_wp2_with fail
          refine (HTy.out w2 _ HS2.out).mono ?_
          rintro e w3 ⟨rfl, hs3, hb3⟩
          have HS3 := hid_ hs3
          have HB3 := hid_ (HB2.out.trans hb3)
          have hz3 : (st (typA r (typA r N1).2).1.text).size ≤ 1100 := by rw [st_size]; exact HLen.out _
          clear hs3 hb3
          go_wp2_with fail
          go_ret
          rw [HA.out]
          exact ⟨congrArg (fun q => Ending.returned (Value.string q)) (by show st [123, 97, 58, 32] ++ st _ ++ st [44, 32, 98, 58, 32] ++ st _ ++ st [125] = st (TyA.text (.pair _ _)); rw [st_app, st_app, st_app, st_app]; rfl), HS3.out, HB3.out⟩
        · have HA := hid_ (H7.out rfl)
          clear H6 H7 H8
          go_wp2_with fail
          refine (next_c HS1.out 8 (by omega) (by omega)).mono ?_
          rintro e w2 ⟨rfl, hs2, hb2, _⟩
          have HS2 := hid_ hs2
          have HB2 := hid_ (HB1.out.trans hb2)
          have hc8 : (nextS 8 N1).1 < 8 := by have := nextS_lt (n := 8) (by omega) N1; omega
          clear hs2 hb2
          go_wp2_with fail
          refine (letter_c w2 _ hc8).mono ?_
          rintro e w3 ⟨rfl, rfl⟩
          go_wp2_with fail
          go_ret
          rw [HA.out]
          exact ⟨congrArg (fun q => Ending.returned (Value.string q)) (st_app _ [58, 58, 84]), HS2.out, HB2.out⟩
        · have HA := hid_ (H8.out rfl)
          clear H6 H7 H8
          go_wp2_with fail
          refine (HTy.out wc N1 HS1.out).mono ?_
          rintro e w2 ⟨rfl, hs2, hb2⟩
          have HS2 := hid_ hs2
          have HB2 := hid_ (HB1.out.trans hb2)
          have hl2 := HLen.out N1
          have hz2 : (st (typA r N1).1.text).size ≤ 1100 := by rw [st_size]; exact hl2
          clear hs2 hb2
          go_wp2_with fail
          refine (HTy.out w2 _ HS2.out).mono ?_
          rintro e w3 ⟨rfl, hs3, hb3⟩
          have HS3 := hid_ hs3
          have HB3 := hid_ (HB2.out.trans hb3)
          have hz3 : (st (typA r (typA r N1).2).1.text).size ≤ 1100 := by rw [st_size]; exact HLen.out _
          clear hs3 hb3
          go_wp2_with fail
          go_ret
          rw [HA.out]
          exact ⟨congrArg (fun q => Ending.returned (Value.string q)) (by show st _ ++ st [32, 124, 32, 40] ++ st _ ++ st [32, 124, 32, 110, 117, 108, 108, 41] = st (TyA.text (.uni _ _)); rw [st_app, st_app, st_app]; rfl), HS3.out, HB3.out⟩
theorem typS_all : ∀ (r : Nat), r ≤ 6 → ∀ (w : World) (N : List Int), SdAt w sb N → Calls Tryz.prog 32 #[.pointer (some ⟨sb, 0, none⟩), .int .i64 (6 - (r : Int))] w (SdP w sb (typA r N).1.text (typA r N).2) := by
  intro r
  induction r using Nat.strongRecOn with
  | ind r ih => exact fun hr w N h => typS_c r (fun r' hr' => ih r' hr' (by omega)) hr h
end
end Go.Proofs.YtmgjmagniefhoaaGreatDoor

/- Seeds of expressions, plainly. No program is walked here. -/
namespace Go.Proofs.YtmgjmagniefhoaaGreatDoor
/-- An expression that a seed tells. -/
inductive ExA where
  | num
  | var (c : Nat)
  | tag (c : Nat)
  | null
  | yes
  | empty
  | pair (a b : ExA)
  | call (c : Nat) (a b : ExA)
  | away (c : Nat) (t : TyA)
  | ite (a b c : ExA)
  | letx (a b : ExA)
  | op (a b c : ExA)
  | cast (a : ExA) (t : TyA)
  | isx
def wrapP (p : Nat) (x : List UInt8) : List UInt8 := (List.replicate p 40 ++ x) ++ List.replicate p 41
def ExA.text (p : Nat) : ExA → List UInt8
  | .num => wrapP p [49]
  | .var c => wrapP p [lett c]
  | .tag c => wrapP p ([39] ++ [lett c])
  | .null => wrapP p [110, 117, 108, 108]
  | .yes => wrapP p [116, 114, 117, 101]
  | .empty => wrapP p [123, 125]
  | .pair a b => wrapP p (((([123, 97, 58, 32] ++ a.text p) ++ [44, 32, 98, 58, 32]) ++ b.text p) ++ [125])
  | .call c a b => wrapP p ((((([lett c] ++ [40]) ++ a.text p) ++ [44, 32]) ++ b.text p) ++ [41])
  | .away c t => wrapP p ((([lett c] ++ [58, 58, 102, 91]) ++ t.text) ++ [93, 40, 41])
  | .ite a b c => wrapP p (((((([40, 105, 102, 32] ++ a.text p) ++ [32, 116, 104, 101, 110, 32]) ++ b.text p) ++ [32, 101, 108, 115, 101, 32]) ++ c.text p) ++ [41])
  | .letx a b => wrapP p (((([40, 108, 101, 116, 32, 120, 32, 61, 32] ++ a.text p) ++ [32, 105, 110, 32]) ++ b.text p) ++ [41])
  | .op a b c => wrapP p (((((([40] ++ a.text p) ++ [32, 43, 32]) ++ b.text p) ++ [32, 61, 61, 32]) ++ c.text p) ++ [41])
  | .cast a t => wrapP p (((([40] ++ a.text p) ++ [32, 97, 115, 32]) ++ t.text) ++ [41])
  | .isx => wrapP p [40, 120, 46, 97, 32, 105, 115, 32, 39, 98, 41]
def leafE (z : Nat) (N : List Int) : ExA × List Int :=
  if z = 0 then (.num, N) else if z = 1 then (.var (nextS 8 N).1, (nextS 8 N).2) else if z = 2 then (.tag (nextS 8 N).1, (nextS 8 N).2) else if z = 3 then (.null, N) else (.yes, N)
def bodyE (E : List Int → ExA × List Int) (T : List Int → TyA × List Int) (z : Nat) (N : List Int) : ExA × List Int :=
  if z < 5 then leafE z N
  else if z = 5 then (.empty, N)
  else if z = 6 then (.pair (E N).1 (E (E N).2).1, (E (E N).2).2)
  else if z = 7 then (.call (nextS 8 N).1 (E (nextS 8 N).2).1 (E (E (nextS 8 N).2).2).1, (E (E (nextS 8 N).2).2).2)
  else if z = 8 then (.away (nextS 8 N).1 (T (nextS 8 N).2).1, (T (nextS 8 N).2).2)
  else if z = 9 then (.ite (E N).1 (E (E N).2).1 (E (E (E N).2).2).1, (E (E (E N).2).2).2)
  else if z = 10 then (.letx (E N).1 (E (E N).2).1, (E (E N).2).2)
  else if z = 11 then (.op (E N).1 (E (E N).2).1 (E (E (E N).2).2).1, (E (E (E N).2).2).2)
  else if z = 12 then (.cast (E N).1 (T (E N).2).1, (T (E N).2).2)
  else (.isx, N)
/-- An expression of a seed, so deep at most. -/
def exprA : Nat → List Int → ExA × List Int
  | 0, N => leafE (zT 5 0 (nextS 14 N).1 (nextS 14 N).2) (nextS 14 N).2
  | r + 1, N => bodyE (exprA r) (typA r) (zT 5 (r + 1) (nextS 14 N).1 (nextS 14 N).2) (nextS 14 N).2
theorem wrapP_len (p : Nat) (x : List UInt8) : (wrapP p x).length = x.length + 2 * p := by
  unfold wrapP
  simp only [List.length_append, List.length_replicate]
  omega
theorem leafE_len (p z : Nat) (N : List Int) (hp : p ≤ 3) : ((leafE z N).1.text p).length ≤ 10 := by
  unfold leafE
  repeat' split
  all_goals
    simp only [ExA.text, wrapP_len, List.length_append, List.length_cons, List.length_nil]
    omega
theorem bodyE_len {E : List Int → ExA × List Int} {T : List Int → TyA × List Int} {M : Nat} (p z : Nat) (N : List Int) (hp : p ≤ 3) (hE : ∀ N, ((E N).1.text p).length ≤ M) (hT : ∀ N, ((T N).1.text).length ≤ 1100) : ((bodyE E T z N).1.text p).length ≤ 3 * M + 1200 := by
  unfold bodyE
  have hl := leafE_len p z N hp
  have e1 := hE N
  have e2 := hE (E N).2
  have e3 := hE (E (E N).2).2
  have e4 := hE (nextS 8 N).2
  have e5 := hE (E (nextS 8 N).2).2
  have t1 := hT (nextS 8 N).2
  have t2 := hT (E N).2
  repeat' split
  all_goals
    first
      | omega
      | (simp only [ExA.text, wrapP_len, List.length_append, List.length_cons, List.length_nil]; omega)
theorem exprA_len (p : Nat) (hp : p ≤ 3) : ∀ (r : Nat), r ≤ 6 → ∀ N : List Int, ((exprA r N).1.text p).length + 600 ≤ 1200 * 3 ^ r
  | 0, _, N => by
    have := leafE_len p (zT 5 0 (nextS 14 N).1 (nextS 14 N).2) (nextS 14 N).2 hp
    show ((leafE _ _).1.text p).length + 600 ≤ 1200
    omega
  | r + 1, hr, N => by
    have ih := exprA_len p hp r (by omega)
    have h2 : 2 ^ r ≤ 64 := Nat.pow_le_pow_right (by omega) (by omega : r ≤ 6)
    have h := bodyE_len (E := exprA r) (T := typA r) (M := 1200 * 3 ^ r - 600) p (zT 5 (r + 1) (nextS 14 N).1 (nextS 14 N).2) (nextS 14 N).2 hp (fun N => by have := ih N; omega) (fun N => by have := typA_len r N; omega)
    have h3 : 1 ≤ 3 ^ r := Nat.one_le_pow _ _ (by omega)
    rw [Nat.pow_succ]
    show ((bodyE _ _ _ _).1.text p).length + 600 ≤ _
    omega
end Go.Proofs.YtmgjmagniefhoaaGreatDoor
