/- What stands in these texts of the proof: Of Og. Conditions: those that each theorem names. -/
import Derived.Test.YtmgjmagniefhoaaGreatDoorAb06
import Derived.Test.YtmgjmagniefhoaaGreatDoorAa20
import Derived.Test.YtmgjmagniefhoaaGreatDoorAa07
import Derived.Test.YtmgjmagniefhoaaGreatDoorAb07
import Derived.Test.YtmgjmagniefhoaaGreatDoorAb05
/- What Parse answers: its nodes in order; a name just if nothing is wrong. No program is walked here. -/
namespace Go.Proofs.YtmgjmagniefhoaaGreatDoor.Tr
open Lx (Bs Wd)
/-- An error is one. -/
def Bad {α : Type} (r : An α) : Prop := ∀ e : Er, r = .error e → e.2 ≠ 0
theorem bad_ok {α : Type} {x : α × Nat × List Nd} : Bad (.ok x : An α) := fun e h => by cases h
theorem bad_err {α : Type} {a b : Int} (h : b ≠ 0) : Bad (.error (a, b) : An α) := fun e he => by
  injection he with he
  subst he
  exact h
theorem bad_bind {α β : Type} {a : An α} {g : α → Nat → List Nd → An β} (h : Bad a) (hg : ∀ x k M, Bad (g x k M)) : Bad (bind a g) := by
  cases a with
  | error e => exact fun e' he => h e' (by injection he with he; rw [he])
  | ok x => exact hg _ _ _
section
variable {L : List Wd}
theorem bad_fail {α : Type} {e : Int} {k : Nat} (h : e ≠ 0) : Bad (failA L e k : An α) := bad_err h
theorem bad_must {s : Bs} {k : Nat} {M : List Nd} : Bad (must L s k M) := by
  unfold must; split
  · exact bad_ok
  · exact bad_fail (by decide)
theorem bad_word {s : Int} {k : Nat} {M : List Nd} : Bad (word L s k M) := by
  unfold word; split
  · exact bad_ok
  · exact bad_fail (by decide)
theorem bad_fresh {l : List Bs} {s : Int} {k : Nat} {M : List Nd} : Bad (fresh L l s k M) := by
  unfold fresh; split
  · exact bad_fail (by decide)
  · exact bad_word
theorem bad_room {a b : Int} {k : Nat} {M : List Nd} : Bad (room L a b k M) := by
  unfold room; split
  · exact bad_fail (by decide)
  · exact bad_ok
theorem bad_deep {d : Int} {k : Nat} {M : List Nd} : Bad (deep L d k M) := by
  unfold deep; split
  · exact bad_fail (by decide)
  · exact bad_ok
theorem bad_node {x : Nd} {k : Nat} {M : List Nd} : Bad (node L x k M) := by
  unfold node; split
  · exact bad_err (by decide)
  · exact bad_ok
theorem bad_shape {n : Int} {k : Nat} {M : List Nd} : Bad (shapeF L n k M) := by
  unfold shapeF
  dsimp only
  split
  · exact bad_fail (by decide)
  · split
    · exact bad_node
    · split
      · exact bad_node
      · exact bad_fail (by decide)
structure Bads (L : List Wd) (f : Nat) : Prop where
  typ : ∀ d k M, Bad (typF L f d k M)
  alt : ∀ d l k M, Bad (altF L f d l k M)
  part : ∀ d k M, Bad (partF L f d k M)
  fields : ∀ t d k M, Bad (fieldsF L f t d k M)
  field : ∀ t d ks l k M, Bad (fieldF L f t d ks l k M)
  list : ∀ t d n l k M, Bad (listF L f t d n l k M)
  expr : ∀ d k M, Bad (exprF L f d k M)
  sum : ∀ d n k M, Bad (sumF L f d n k M)
  prim : ∀ d k M, Bad (primF L f d k M)
  dot : ∀ n k M, Bad (dotF L f n k M)
  atom : ∀ d k M, Bad (atomF L f d k M)
  named : ∀ d s k M, Bad (namedF L f d s k M)
  call : ∀ d m s k M, Bad (callF L f d m s k M)
theorem bads : ∀ f : Nat, Bads L f
  | 0 => by
    have h : (-1 : Int) ≠ 0 := by decide
    constructor <;> intros <;> first | (unfold typF; exact bad_err h) | (unfold altF; exact bad_err h) | (unfold partF; exact bad_err h) | (unfold fieldsF; exact bad_err h) | (unfold fieldF; exact bad_err h) | (unfold listF; exact bad_err h) | (unfold exprF; exact bad_err h) | (unfold sumF; exact bad_err h) | (unfold primF; exact bad_err h) | (unfold dotF; exact bad_err h) | (unfold atomF; exact bad_err h) | (unfold namedF; exact bad_err h) | (unfold callF; exact bad_err h)
  | f + 1 => by
    have P := bads f
    constructor
    · intro d k M
      unfold typF
      exact bad_bind bad_deep fun _ k M => bad_bind (P.part _ _ _) fun n k M => P.alt _ _ _ _
    · intro d l k M
      unfold altF
      split
      · exact bad_bind bad_room fun _ k M => bad_bind (P.part _ _ _) fun n k M => P.alt _ _ _ _
      · split
        · exact bad_ok
        · exact bad_node
    · intro d k M
      unfold partF
      dsimp only
      split
      · exact bad_node
      · split
        · exact bad_node
        · split
          · exact bad_node
          · split
            · exact bad_bind bad_must fun _ k M => bad_bind bad_word fun s k M => bad_node
            · split
              · exact P.fields _ _ _ _
              · split
                · exact bad_bind (P.typ _ _ _) fun n k M => bad_bind bad_must fun _ k M => bad_ok
                · exact bad_fail (by decide)
    · intro t d k M
      unfold fieldsF
      split
      · exact bad_node
      · exact bad_bind (P.field _ _ _ _ _ _) fun x k M => bad_bind bad_must fun _ k M => bad_node
    · intro t d ks l k M
      unfold fieldF
      refine bad_bind bad_room fun _ k M => bad_bind bad_fresh fun s k M => bad_bind bad_must fun _ k M => bad_bind ?_ fun n k M => ?_
      · split
        · exact P.typ _ _ _
        · exact P.expr _ _ _
      · split
        · exact P.field _ _ _ _ _ _
        · exact bad_ok
    · intro t d n l k M
      unfold listF
      refine bad_bind bad_room fun _ k M => bad_bind ?_ fun n k M => ?_
      · split
        · exact P.typ _ _ _
        · exact P.expr _ _ _
      · split
        · exact P.list _ _ _ _ _ _
        · exact bad_ok
    · intro d k M
      unfold exprF
      refine bad_bind bad_deep fun _ k M => ?_
      split
      · exact bad_bind bad_word fun s k M => bad_bind bad_must fun _ k M => bad_bind (P.expr _ _ _) fun a k M => bad_bind bad_must fun _ k M => bad_bind (P.expr _ _ _) fun b k M => bad_node
      · split
        · exact bad_bind (P.expr _ _ _) fun a k M => bad_bind bad_must fun _ k M => bad_bind (P.expr _ _ _) fun b k M => bad_bind bad_must fun _ k M => bad_bind (P.expr _ _ _) fun c k M => bad_node
        · refine bad_bind (P.prim _ _ _) fun n k M => bad_bind (P.sum _ _ _ _) fun n k M => ?_
          split
          · exact bad_shape
          · exact bad_ok
    · intro d n k M
      unfold sumF
      split
      · exact bad_bind (P.prim _ _ _) fun b k M => bad_bind bad_node fun n k M => P.sum _ _ _ _
      · exact bad_ok
    · intro d k M
      unfold primF
      exact bad_bind (P.atom _ _ _) fun n k M => P.dot _ _ _
    · intro n k M
      unfold dotF
      split
      · exact bad_bind bad_word fun s k M => bad_bind bad_node fun n k M => P.dot _ _ _
      · exact bad_ok
    · intro d k M
      unfold atomF
      dsimp only
      split
      · exact bad_node
      · split
        · exact bad_node
        · split
          · exact bad_node
          · split
            · exact P.named _ _ _ _
            · split
              · exact P.fields _ _ _ _
              · split
                · refine bad_bind (P.expr _ _ _) fun n k M => ?_
                  split
                  · exact bad_bind (P.typ _ _ _) fun t k M => bad_bind bad_must fun _ k M => bad_node
                  · exact bad_bind bad_must fun _ k M => bad_ok
                · exact bad_fail (by decide)
    · intro d s k M
      unfold namedF
      split
      · exact bad_bind bad_word fun s k M => P.call _ _ _ _ _
      · split
        · exact P.call _ _ _ _ _
        · exact bad_node
    · intro d m s k M
      unfold callF
      refine bad_bind ?_ fun ts k M => bad_bind bad_must fun _ k M => ?_
      · split
        · exact bad_bind (P.list _ _ _ _ _ _) fun l k M => bad_bind bad_must fun _ k M => bad_ok
        · exact bad_ok
      · split
        · exact bad_node
        · exact bad_bind (P.list _ _ _ _ _ _) fun l k M => bad_bind bad_must fun _ k M => bad_node
theorem bad_varsF {kind : Int} {b : Bs} : ∀ (f : Nat) (l : List Vr) (k : Nat) (M : List Nd), Bad (varsF L f kind b l k M)
  | 0, _, _, _ => by unfold varsF; exact bad_err (by decide)
  | f + 1, l, k, M => by
    unfold varsF
    refine bad_bind bad_room fun _ k M => bad_bind bad_fresh fun s k M => bad_bind bad_must fun _ k M => bad_bind ((bads (fuel L)).typ _ _ _) fun t k M => ?_
    split
    · exact bad_varsF f _ _ _
    · exact bad_ok
theorem bad_vars {kind : Int} {b stop : Bs} {k : Nat} {M : List Nd} : Bad (vars L kind b stop k M) := bad_bind (bad_varsF _ _ _ _) fun _ _ _ => bad_bind bad_must fun _ _ _ => bad_ok
theorem bad_func {m : Int} {k : Nat} {M : List Nd} : Bad (func L m k M) := by
  unfold func
  refine bad_bind bad_room fun _ k M => bad_bind bad_word fun s k M => bad_bind ?_ fun vs k M => bad_bind bad_must fun _ k M => bad_bind ?_ fun ps k M => bad_bind bad_must fun _ k M => bad_bind ((bads (fuel L)).typ _ _ _) fun t k M => bad_bind bad_must fun _ k M => bad_bind ((bads (fuel L)).expr _ _ _) fun b k M => bad_ok
  · split
    · exact bad_vars
    · exact bad_ok
  · split
    · exact bad_ok
    · exact bad_vars
theorem bad_importsF : ∀ (f : Nat) (l : List Bs) (k : Nat) (M : List Nd), Bad (importsF L f l k M)
  | 0, _, _, _ => by unfold importsF; exact bad_err (by decide)
  | f + 1, l, k, M => by
    unfold importsF
    split
    · exact bad_bind bad_room fun _ k M => bad_bind bad_fresh fun s k M => bad_importsF f _ _ _
    · exact bad_ok
theorem bad_declsF : ∀ (f : Nat) (l : List Vr) (k : Nat) (M : List Nd), Bad (declsF L f l k M)
  | 0, _, _, _ => by unfold declsF; exact bad_err (by decide)
  | f + 1, l, k, M => by
    unfold declsF
    split
    · refine bad_bind ?_ fun x k M => bad_declsF f _ _ _
      unfold decl
      exact bad_bind bad_room fun _ k M => bad_bind bad_word fun s k M => bad_bind bad_must fun _ k M => bad_bind ((bads (fuel L)).typ _ _ _) fun t k M => bad_ok
    · exact bad_ok
theorem bad_funcsF : ∀ (f : Nat) (l : List Fd) (k : Nat) (M : List Nd), Bad (funcsF L f l k M)
  | 0, _, _, _ => by unfold funcsF; exact bad_err (by decide)
  | f + 1, l, k, M => by
    unfold funcsF
    split
    · exact bad_bind bad_func fun x k M => bad_funcsF f _ _ _
    · exact bad_ok
theorem module_err {e : Er} (h : module_ L = .error e) : e.2 ≠ 0 := by
  unfold module_ at h
  split at h
  · rename_i e' hb
    injection h with h
    subst h
    refine (?_ : Bad _) _ hb
    refine bad_bind bad_must fun _ k M => bad_bind bad_word fun s k M => bad_bind (bad_importsF _ _ _ _) fun is k M => bad_bind (bad_declsF _ _ _ _) fun ts k M => bad_bind (bad_funcsF _ _ _ _) fun fs k M => ?_
    split
    · exact bad_ok
    · exact bad_fail (by decide)
  · cases h
end
end Go.Proofs.YtmgjmagniefhoaaGreatDoor.Tr
namespace Go.Proofs.YtmgjmagniefhoaaGreatDoor
/-- What Parse answers has its nodes in order; it has a name just if nothing is wrong. -/
theorem parse_order (s : ByteArray) : Tr.Lo (parseR s).1.nodes (Tr.roots (parseR s).1) ∧ (((parseR s).2.2 = 0 ∧ (parseR s).1.name ≠ []) ∨ ((parseR s).2.2 ≠ 0 ∧ (parseR s).1.name = [])) := by
  unfold parseR
  by_cases h : (wordsR s).2.2 = 0
  · rw [if_neg (fun h' => h' h)]
    cases hm : Tr.module_ (wordsR s).1 with
    | error e => exact ⟨Tr.Lo.nil, .inr ⟨Tr.module_err hm, rfl⟩⟩
    | ok m =>
      obtain ⟨h1, h2, h3⟩ := Tr.lo_module hm
      refine ⟨h1, .inl ⟨rfl, fun hn => ?_⟩⟩
      obtain ⟨_, ws, hc, hw, _, _⟩ := wordsR_ok h
      obtain ⟨hg, _⟩ := Lx.cutF_strip _ _ _ _ hc
      have hn : m.name = [] := hn
      rw [hw] at h2 h3
      have h2 : (Tr.now (ws ++ [endW s]) 1).kind = 1 := h2
      have h3 : (Tr.now (ws ++ [endW s]) 1).text = m.name := h3
      unfold Tr.now at h2 h3
      rw [List.getD_eq_getElem?_getD] at h2 h3
      cases hx : (ws ++ [endW s])[1]? with
      | none => rw [hx] at h2; exact absurd h2 (by decide)
      | some x =>
        rw [hx] at h2 h3
        rcases List.mem_append.1 (List.mem_of_getElem? hx) with hm | hm
        · exact (hg x hm).tne (h3.trans hn)
        · rw [List.mem_singleton.1 hm] at h2
          exact absurd h2 (show ¬ ((7 : Int) = 1) by decide)
  · rw [if_pos h]
    exact ⟨Tr.Lo.nil, .inr ⟨h, rfl⟩⟩
end Go.Proofs.YtmgjmagniefhoaaGreatDoor

/- TreeOrder, walked. Conditions: those that each theorem names. -/
namespace Go.Proofs.YtmgjmagniefhoaaGreatDoor
open Go.RowKit Go.Maps
section
variable {w w' : World}
theorem fin_o {W : World} {g base : Nat} {v : Value} {m : Tr.Md} {u0 u1 u2 u3 u4 c0 c1 c2 c3 c4 : Value} (hb : Blk W g 31 #[u0, u1, u2, u3, u4]) (hM : ModK base W v m) (hlt : g < base) {WF : World}
    (hF : WF = ((((W.setCell ⟨g, 0, none⟩ c0).setCell ⟨g, 1, none⟩ c1).setCell ⟨g, 2, none⟩ c2).setCell ⟨g, 3, none⟩ c3).setCell ⟨g, 4, none⟩ c4) : Blk WF g 31 #[c0, c1, c2, c3, c4] ∧ ModAt WF v m := by
  subst hF
  refine ⟨((((hb.set_ 0 c0).set_ 1 c1).set_ 2 c2).set_ 3 c3).set_ 4 c4, hM _ ?_⟩
  exact (((((Kp.refl _ W).setCell (p := ⟨g, 0, none⟩) (.inl hlt) c0).setCell (p := ⟨g, 1, none⟩) (.inl hlt) c1).setCell (p := ⟨g, 2, none⟩) (.inl hlt) c2).setCell (p := ⟨g, 3, none⟩) (.inl hlt) c3).setCell (p := ⟨g, 4, none⟩) (.inl hlt) c4
theorem iterB_fns (N : List Int) : ∀ i, (iterB N i).1.length = i
  | 0 => rfl
  | i + 1 => by
    show ((iterB N i).1 ++ [_]).length = i + 1
    rw [List.length_append, iterB_fns N i]
    rfl
theorem madeM_few (N : List Int) : (madeM N).fns.length = 3 ∧ (madeM N).types.length = 1 := ⟨iterB_fns _ 3, rfl⟩
set_option maxHeartbeats 4000000 in
set_option maxRecDepth 100000 in
theorem order_c (hv : Env w) {sv : Value} {N : List Int} (hr : RowAt w sv N.length (ints N)) (hcp : ∀ A n c, sv = .slice A n c → n ≤ c ∧ c ≤ 100000000000000) (hlow : ∀ b off q n c, sv = .slice (some ⟨b, off, q⟩) n c → b < w.heap.size) (t : ByteArray) (ht : t.size ≤ 200000000000000) :
    Calls Tryz.prog 3 #[.agg #[sv], .string t] w fun e w' => e = .returned (.bool true) ∧ Below w.heap.size w w' := by
  obtain ⟨A, c, rfl⟩ := hr.form
  have HV := hid_ hv
  have HR := hid_ hr
  have HCp := hid_ hcp
  have HLow := hid_ hlow
  have HB0 := hid_ (below_alloc w (.cells #[.slice A N.length c] 24))
  have HBk := hid_ (Blk.new w 24 #[.slice A N.length c])
  clear hv hr hcp hlow
  go_enter Tryz.func3, Tryz.ntmps3
  go_upto_region 1 with fail
  generalize w.alloc (.cells #[.slice A N.length c] 24) = W0 at *
  have c0 : W0.cell? ⟨w.heap.size, 0, none⟩ = some (.slice A N.length c) := HBk.out.cell 0
  have HMd := hid_ (fun (W1 : World) (h1 : Below W0.heap.size W0 W1) => (show Calls Tryz.prog 11 #[.agg #[.slice A N.length c], .int .i64 0] W1 (fun e w' => e = .returned (.string (st (madeT 0 N))) ∧ Below W1.heap.size W1 w') from
    made_c (w := W1) ((HR.out.below HB0.out).below h1) HCp.out (fun b off q n c h => Nat.lt_of_lt_of_le (HLow.out b off q n c h) (Nat.le_trans HB0.out.size h1.size)) 0 (by omega)))
  have DK := hid_ (fun (W' : World) (h : Below W0.heap.size W0 W') => (below_cell h c0 : W'.cell? ⟨w.heap.size, 0, none⟩ = some (.slice A N.length c)))
  have EV := hid_ (fun (W' : World) (h : Below W0.heap.size W0 W') => (HV.out.below HB0.out).below h)
  have HPa := hid_ (fun (W1 : World) (h1 : Below W0.heap.size W0 W1) => (show Calls Tryz.prog 10 #[.string (st (madeT 0 N))] W1 (fun e w' => ∃ v, ModK W1.heap.size w' v (madeM N) ∧ e = .returned (.tuple #[v, .int .i64 0, .int .i64 0]) ∧ Below W1.heap.size W1 w') from by
    have h := parse_cK (EV.out W1 h1) (st (madeT 0 N)) (by rw [st_size]; have := madeT_few 0 (by omega) N; omega)
    rw [made_parse (by omega) N] at h
    exact h))
  have HE := hid_ (madeM_few N)
  have HLo := hid_ (show Tr.Lo (madeM N).nodes (Tr.roots (madeM N)) by
    have h := (parse_order (st (madeT 0 N))).1
    rw [made_parse (by omega) N] at h
    exact h)
  clear HR HCp HLow HV HBk
  generalize madeM N = m at *
  go_wp2_with fail
  refine (works_c (EV.out _ (Below.refl _ _))).mono ?_
  rintro e w1 ⟨rfl, hb1⟩
  have c1 := DK.out _ hb1
  have HB1 := hid_ hb1
  clear hb1 c0
  go_wp2_with fail
  refine (HMd.out _ HB1.out).mono ?_
  rintro e w2 ⟨rfl, hb2⟩
  have HB2 := hid_ (HB1.out.trans (hb2.mono HB1.out.size))
  clear hb2 c1
  go_wp2_with fail
  refine (HPa.out _ HB2.out).mono ?_
  rintro e w3 ⟨va, hma, rfl, hb3⟩
  have HMa := hid_ (hma _ (Kp.refl _ _))
  obtain ⟨Ai, ci, At, ct, Af, cf, An, cn, hva, _⟩ := (hma _ (Kp.refl _ _)).open2
  subst hva
  have HB3 := hid_ (HB2.out.trans (hb3.mono HB2.out.size))
  have HBa := hid_ (Blk.new w3 31 #[.string (st m.name), .slice Ai m.imports.length ci, .slice At m.types.length ct, .slice Af m.fns.length cf, .slice An m.nodes.length cn])
  have HA3 := hid_ (below_alloc w3 (.cells #[.string (st m.name), .slice Ai m.imports.length ci, .slice At m.types.length ct, .slice Af m.fns.length cf, .slice An m.nodes.length cn] 31))
  clear hma hb3
  go_upto_region 4 with fail
  generalize w3.alloc (.cells #[.string (st m.name), .slice Ai m.imports.length ci, .slice At m.types.length ct, .slice Af m.fns.length cf, .slice An m.nodes.length cn] 31) = W4 at *
  have HB4 := hid_ (HB3.out.trans (HA3.out.mono HB3.out.size))
  have HMa4 := hid_ (HMa.out.below HA3.out)
  have a0 : W4.cell? ⟨w3.heap.size, 0, none⟩ = some (.string (st m.name)) := HBa.out.cell 0
  have a1 : W4.cell? ⟨w3.heap.size, 1, none⟩ = some (.slice Ai m.imports.length ci) := HBa.out.cell 1
  have a2 : W4.cell? ⟨w3.heap.size, 2, none⟩ = some (.slice At m.types.length ct) := HBa.out.cell 2
  have a3 : W4.cell? ⟨w3.heap.size, 3, none⟩ = some (.slice Af m.fns.length cf) := HBa.out.cell 3
  have a4 : W4.cell? ⟨w3.heap.size, 4, none⟩ = some (.slice An m.nodes.length cn) := HBa.out.cell 4
  have q3 : ((m.fns.length : Int) != 3) = false := by rw [HE.out.1]; rfl
  have q1 : ((m.types.length : Int) != 1) = false := by rw [HE.out.2]; rfl
  have HOr := hid_ (ordered_c HMa4.out HLo.out)
  go_wp2_with fail
  refine HOr.out.mono ?_
  rintro e w5 ⟨rfl, hb5⟩
  have hba5 := HBa.out.kp (Kp.of_below hb5 fun _ => False) id
  have HBa5 := hid_ hba5
  have HB5 := hid_ (HB4.out.trans (hb5.mono HB4.out.size))
  clear hb5 hba5 a0 a1 a2 a3 a4 q3 q1
  have hmin : (min (t.size : Int) 3000).toNat = min t.size 3000 := by omega
  have hmm : 0 ≤ min (t.size : Int) 3000 ∧ min (t.size : Int) 3000 ≤ (t.size : Int) := by omega
  have HMin := hid_ hmin
  clear hmin
  go_wp2_with fail
  refine (parse_cK (EV.out _ HB5.out) (t.extract 0 (min (t.size : Int) 3000).toNat) (by rw [ByteArray.size_extract]; omega)).mono ?_
  rintro e w6 ⟨vb, hmb, rfl, hb6⟩
  obtain ⟨hlo2, hnm⟩ := parse_order (t.extract 0 (min (t.size : Int) 3000).toNat)
  have HLo2 := hid_ hlo2
  have HNm := hid_ hnm
  generalize parseR (t.extract 0 (min (t.size : Int) 3000).toNat) = P at *
  obtain ⟨m2, at2, e2⟩ := P
  have HNm := hid_ (show (e2 = 0 ∧ m2.name ≠ []) ∨ (e2 ≠ 0 ∧ m2.name = []) from HNm.out)
  have HLo2 := hid_ (show Tr.Lo m2.nodes (Tr.roots m2) from HLo2.out)
  have HMb := hid_ (show ModK w5.heap.size w6 vb m2 from hmb)
  obtain ⟨Bi, di, Bt, dt, Bf, df, Bn, dn, hvb, _⟩ := (HMb.out _ (Kp.refl _ _)).open2
  subst hvb
  have hba6 := HBa5.out.kp (Kp.of_below hb6 fun _ => False) id
  have HB6 := hid_ (HB5.out.trans (hb6.mono HB5.out.size))
  have hlt := HBa5.out.lt
  obtain ⟨f1, f2⟩ := fin_o (c0 := .string (st m2.name)) (c1 := .slice Bi m2.imports.length di) (c2 := .slice Bt m2.types.length dt) (c3 := .slice Bf m2.fns.length df) (c4 := .slice Bn m2.nodes.length dn) hba6 HMb.out hlt rfl
  have f3 := below5 (HB0.out.trans (HB6.out.mono HB0.out.size)) (vb := w3.heap.size) (Nat.le_trans HB0.out.size HB3.out.size) (.string (st m2.name)) (.slice Bi m2.imports.length di) (.slice Bt m2.types.length dt) (.slice Bf m2.fns.length df) (.slice Bn m2.nodes.length dn)
  have HF1 := hid_ f1
  have HF2 := hid_ f2
  have HF3 := hid_ f3
  have b0 : w6.cell? ⟨w3.heap.size, 0, none⟩ = some (.string (st m.name)) := hba6.cell 0
  have b1 : w6.cell? ⟨w3.heap.size, 1, none⟩ = some (.slice Ai m.imports.length ci) := hba6.cell 1
  have b2 : w6.cell? ⟨w3.heap.size, 2, none⟩ = some (.slice At m.types.length ct) := hba6.cell 2
  have b3 : w6.cell? ⟨w3.heap.size, 3, none⟩ = some (.slice Af m.fns.length cf) := hba6.cell 3
  have b4 : w6.cell? ⟨w3.heap.size, 4, none⟩ = some (.slice An m.nodes.length cn) := hba6.cell 4
  have g0 := hba6.frozen 0
  have g1 := hba6.frozen 1
  have g2 := hba6.frozen 2
  have g3 := hba6.frozen 3
  have g4 := hba6.frozen 4
  clear hmb hb6 hlo2 hnm hba6 hlt f1 f2 f3 hmm
  go_upto_region 7 with fail
  generalize ((((w6.setCell ⟨w3.heap.size, 0, none⟩ (.string (st m2.name))).setCell ⟨w3.heap.size, 1, none⟩ (.slice Bi m2.imports.length di)).setCell ⟨w3.heap.size, 2, none⟩ (.slice Bt m2.types.length dt)).setCell ⟨w3.heap.size, 3, none⟩ (.slice Bf m2.fns.length df)).setCell ⟨w3.heap.size, 4, none⟩ (.slice Bn m2.nodes.length dn) = W7 at *
  clear b0 b1 b2 b3 b4 g0 g1 g2 g3 g4
  have a0 : W7.cell? ⟨w3.heap.size, 0, none⟩ = some (.string (st m2.name)) := HF1.out.cell 0
  have a1 : W7.cell? ⟨w3.heap.size, 1, none⟩ = some (.slice Bi m2.imports.length di) := HF1.out.cell 1
  have a2 : W7.cell? ⟨w3.heap.size, 2, none⟩ = some (.slice Bt m2.types.length dt) := HF1.out.cell 2
  have a3 : W7.cell? ⟨w3.heap.size, 3, none⟩ = some (.slice Bf m2.fns.length df) := HF1.out.cell 3
  have a4 : W7.cell? ⟨w3.heap.size, 4, none⟩ = some (.slice Bn m2.nodes.length dn) := HF1.out.cell 4
  have HOr := hid_ (ordered_c HF2.out HLo2.out)
  rcases HNm.out with ⟨rfl, hn⟩ | ⟨hn, hn2⟩
  · have HN := hid_ hn
    clear hn HNm
    go_wp2_with fail
    refine HOr.out.mono ?_
    rintro e w8 ⟨rfl, hb8⟩
    have d0 := below_cell hb8 a0
    have HB8 := hid_ (HF3.out.trans (hb8.mono HF3.out.size))
    have q1 : (st m2.name).toList.isEmpty = false := str_some HN.out
    have q2 : (!(st m2.name).toList.isEmpty) = true := by rw [q1]; rfl
    clear hb8 a0 a1 a2 a3 a4
    go_wp2_with fail
    go_ret
    exact ⟨rfl, HB8.out⟩
  · have HN := hid_ hn2
    have q0 : (e2 == 0) = false := by simp [hn]
    clear hn hn2 HNm
    go_wp2_with fail
    refine HOr.out.mono ?_
    rintro e w8 ⟨rfl, hb8⟩
    have d0 := below_cell hb8 a0
    have HB8 := hid_ (HF3.out.trans (hb8.mono HF3.out.size))
    have q1 : (st m2.name).toList.isEmpty = true := str_none HN.out
    have q2 : (!(st m2.name).toList.isEmpty) = false := by rw [q1]; rfl
    clear hb8 a0 a1 a2 a3 a4
    go_wp2_with fail
    go_ret
    exact ⟨rfl, HB8.out⟩
end
end Go.Proofs.YtmgjmagniefhoaaGreatDoor
