/- What stands in these texts of the proof: Oa Ob Oc. Conditions: those that each theorem names. -/
import Derived.Test.YtmgjmagniefhoaaGreatDoorAa07
import Derived.Test.YtmgjmagniefhoaaGreatDoorAa21
/- What is read has its nodes in order: each is had once. No program is walked here. -/
namespace Go.Proofs.YtmgjmagniefhoaaGreatDoor.Tr
open Lx (Bs Wd)
def hadL (M : List Nd) : List Int := M.flatMap (·.l)
def nums (n : Nat) : List Int := (List.range n).map fun i : Nat => (i : Int)
/-- Nodes of which each has those ahead of it, in order; each is had once, but for those of a list. -/
structure Lo (M : List Nd) (r : List Int) : Prop where
  perm : (hadL M ++ r).Perm (nums M.length)
  asc : r.Pairwise (· < ·)
  nod : ∀ (i : Nat) (x : Nd), M[i]? = some x → x.l.Pairwise (· < ·) ∧ ∀ z ∈ x.l, z < (i : Int)
  few : M.length ≤ 4000
theorem nums_succ (n : Nat) : nums (n + 1) = nums n ++ [(n : Int)] := by
  unfold nums
  rw [List.range_succ, List.map_append]
  rfl
theorem mem_nums {n : Nat} {z : Int} : z ∈ nums n ↔ 0 ≤ z ∧ z < n := by
  unfold nums
  rw [List.mem_map]
  constructor
  · rintro ⟨i, hi, rfl⟩
    have := List.mem_range.1 hi
    omega
  · rintro ⟨h0, h1⟩
    exact ⟨z.toNat, List.mem_range.2 (by omega), by omega⟩
theorem hadL_snoc (M : List Nd) (x : Nd) : hadL (M ++ [x]) = hadL M ++ x.l := by simp [hadL]
theorem Lo.nil : Lo [] [] := ⟨List.Perm.refl _, List.Pairwise.nil, fun i x h => by simp at h, Nat.zero_le _⟩
theorem Lo.lt {M : List Nd} {r : List Int} (h : Lo M r) {z : Int} (hz : z ∈ r) : 0 ≤ z ∧ z < M.length := mem_nums.1 (h.perm.mem_iff.1 (List.mem_append_right _ hz))
/-- A node is put behind the others. -/
theorem Lo.put {M : List Nd} {r s : List Int} {x : Nd} (h : Lo M (r ++ s)) (hx : x.l = s) (h4 : M.length ≠ 4000) : Lo (M ++ [x]) (r ++ [(M.length : Int)]) := by
  refine ⟨?_, ?_, fun i y hy => ?_, by have := h.few; rw [List.length_append]; show M.length + 1 ≤ 4000; omega⟩
  · rw [hadL_snoc, List.length_append, List.length_cons, List.length_nil, nums_succ, hx]
    have h1 : (hadL M ++ s ++ (r ++ [(M.length : Int)])).Perm ((hadL M ++ (r ++ s)) ++ [(M.length : Int)]) := by
      rw [← List.append_assoc]
      refine List.Perm.append_right _ ?_
      rw [List.append_assoc]
      exact List.Perm.append_left _ List.perm_append_comm
    exact h1.trans (h.perm.append_right _)
  · refine List.pairwise_append.2 ⟨(List.pairwise_append.1 h.asc).1, List.pairwise_singleton _ _, fun a ha b hb => ?_⟩
    rw [List.mem_singleton.1 hb]
    exact (h.lt (List.mem_append_left _ ha)).2
  · rcases Nat.lt_trichotomy i M.length with hi | hi | hi
    · rw [List.getElem?_append_left hi] at hy
      exact h.nod i y hy
    · subst hi
      rw [List.getElem?_append_right (Nat.le_refl _), Nat.sub_self] at hy
      injection hy with hy
      subst hy
      rw [hx]
      exact ⟨(List.pairwise_append.1 h.asc).2.1, fun z hz => (h.lt (List.mem_append_right _ hz)).2⟩
    · rw [List.getElem?_eq_none (by rw [List.length_append]; show M.length + 1 ≤ i; omega)] at hy
      cases hy
section
variable {L : List Wd}
theorem node_lo {n : Nd} {r : List Int} {k k' : Nat} {M M' : List Nd} {z : Int} (hl : Lo M (r ++ n.l)) (h : node L n k M = .ok (z, k', M')) : Lo M' (r ++ [z]) := by
  have h4 : M.length ≠ 4000 := fun e => by
    unfold node at h
    rw [if_pos e] at h
    cases h
  obtain ⟨_, rfl, rfl⟩ := node_ok h
  exact hl.put rfl h4
theorem leaf_lo {n : Nd} {r : List Int} {k k' : Nat} {M M' : List Nd} {z : Int} (hl : Lo M r) (h0 : n.l = []) (h : node L n k M = .ok (z, k', M')) : Lo M' (r ++ [z]) :=
  node_lo (by rw [h0, List.append_nil]; exact hl) h
/-- What each rule gives. -/
structure Los (L : List Wd) (f : Nat) : Prop where
  typ : ∀ {d k M x k' M' r}, Lo M r → typF L f d k M = .ok (x, k', M') → Lo M' (r ++ [x])
  alt : ∀ {d l k M x k' M' r}, Lo M (r ++ l) → altF L f d l k M = .ok (x, k', M') → Lo M' (r ++ [x])
  part : ∀ {d k M x k' M' r}, Lo M r → partF L f d k M = .ok (x, k', M') → Lo M' (r ++ [x])
  fields : ∀ {t d k M x k' M' r}, Lo M r → fieldsF L f t d k M = .ok (x, k', M') → Lo M' (r ++ [x])
  field : ∀ {t d ks l k M x k' M' r}, Lo M (r ++ l) → fieldF L f t d ks l k M = .ok (x, k', M') → Lo M' (r ++ x.2)
  list : ∀ {t d n l k M x k' M' r}, Lo M (r ++ l) → listF L f t d n l k M = .ok (x, k', M') → Lo M' (r ++ x)
  expr : ∀ {d k M x k' M' r}, Lo M r → exprF L f d k M = .ok (x, k', M') → Lo M' (r ++ [x])
  sum : ∀ {d n k M x k' M' r}, Lo M (r ++ [n]) → sumF L f d n k M = .ok (x, k', M') → Lo M' (r ++ [x])
  prim : ∀ {d k M x k' M' r}, Lo M r → primF L f d k M = .ok (x, k', M') → Lo M' (r ++ [x])
  dot : ∀ {n k M x k' M' r}, Lo M (r ++ [n]) → dotF L f n k M = .ok (x, k', M') → Lo M' (r ++ [x])
  atom : ∀ {d k M x k' M' r}, Lo M r → atomF L f d k M = .ok (x, k', M') → Lo M' (r ++ [x])
  named : ∀ {d s k M x k' M' r}, Lo M r → namedF L f d s k M = .ok (x, k', M') → Lo M' (r ++ [x])
  call : ∀ {d m s k M x k' M' r}, Lo M r → callF L f d m s k M = .ok (x, k', M') → Lo M' (r ++ [x])
theorem los_zero : Los L 0 := by
  constructor <;> (intros; rename_i h; first | (unfold typF at h; cases h) | (unfold altF at h; cases h) | (unfold partF at h; cases h) | (unfold fieldsF at h; cases h) | (unfold fieldF at h; cases h) | (unfold listF at h; cases h) | (unfold exprF at h; cases h) | (unfold sumF at h; cases h) | (unfold primF at h; cases h) | (unfold dotF at h; cases h) | (unfold atomF at h; cases h) | (unfold namedF at h; cases h) | (unfold callF at h; cases h))
variable {r : List Int}
theorem los_typ {f : Nat} (P : Los L f) {d k M x k' M'} (hL : Lo M r) (h : typF L (f + 1) d k M = .ok (x, k', M')) : Lo M' (r ++ [x]) := by
  unfold typF at h
  obtain ⟨_, k1, M1, h1, g1⟩ := bind_ok h
  obtain ⟨rfl, rfl⟩ := deep_ok h1
  obtain ⟨n, k2, M2, h2, g2⟩ := bind_ok g1
  exact P.alt (P.part hL h2) g2
theorem los_alt {f : Nat} (P : Los L f) {d l k M x k' M'} (hL : Lo M (r ++ l)) (h : altF L (f + 1) d l k M = .ok (x, k', M')) : Lo M' (r ++ [x]) := by
  unfold altF at h
  split at h
  · obtain ⟨_, k1, M1, h1, g1⟩ := bind_ok h
    obtain ⟨rfl, rfl⟩ := room_ok h1
    obtain ⟨n, k2, M2, h2, g2⟩ := bind_ok g1
    have hp := P.part hL h2
    rw [List.append_assoc] at hp
    exact P.alt hp g2
  · split at h
    · rename_i h1
      obtain ⟨rfl, rfl, rfl⟩ := ok_inj h
      match l, h1 with
      | [a], _ => exact hL
    · exact node_lo hL h
theorem los_part {f : Nat} (P : Los L f) {d k M x k' M'} (hL : Lo M r) (h : partF L (f + 1) d k M = .ok (x, k', M')) : Lo M' (r ++ [x]) := by
  unfold partF at h
  dsimp only at h
  split at h
  · exact leaf_lo hL rfl h
  · split at h
    · exact leaf_lo hL rfl h
    · split at h
      · exact leaf_lo hL rfl h
      · split at h
        · obtain ⟨_, k1, M1, h1, g1⟩ := bind_ok h
          obtain ⟨rfl, rfl⟩ := must_ok h1
          obtain ⟨_, k2, M2, h2, g2⟩ := bind_ok g1
          obtain ⟨rfl, rfl⟩ := word_ok h2
          exact leaf_lo hL rfl g2
        · split at h
          · exact P.fields hL h
          · split at h
            · obtain ⟨n, k1, M1, h1, g1⟩ := bind_ok h
              obtain ⟨_, k2, M2, h2, g2⟩ := bind_ok g1
              obtain ⟨rfl, rfl⟩ := must_ok h2
              obtain ⟨rfl, rfl, rfl⟩ := ok_inj g2
              exact P.typ hL h1
            · unfold failA at h; cases h
theorem los_either {f : Nat} (P : Los L f) {t : Bool} {d k M x k' M'} (hL : Lo M r) (h : (if t = true then typF L f d k M else exprF L f d k M) = .ok (x, k', M')) : Lo M' (r ++ [x]) := by
  split at h
  · exact P.typ hL h
  · exact P.expr hL h
theorem los_fields {f : Nat} (P : Los L f) {t d k M x k' M'} (hL : Lo M r) (h : fieldsF L (f + 1) t d k M = .ok (x, k', M')) : Lo M' (r ++ [x]) := by
  unfold fieldsF at h
  split at h
  · exact leaf_lo hL rfl h
  · obtain ⟨_, k1, M1, h1, g1⟩ := bind_ok h
    have := P.field (by rw [List.append_nil]; exact hL) h1
    obtain ⟨_, k2, M2, h2, g2⟩ := bind_ok g1
    obtain ⟨rfl, rfl⟩ := must_ok h2
    exact node_lo this g2
theorem los_field {f : Nat} (P : Los L f) {t d ks l k M x k' M'} (hL : Lo M (r ++ l)) (h : fieldF L (f + 1) t d ks l k M = .ok (x, k', M')) : Lo M' (r ++ x.2) := by
  unfold fieldF at h
  obtain ⟨_, k1, M1, h1, g1⟩ := bind_ok h
  obtain ⟨rfl, rfl⟩ := room_ok h1
  obtain ⟨_, k2, M2, h2, g2⟩ := bind_ok g1
  obtain ⟨rfl, rfl⟩ := fresh_ok h2
  obtain ⟨_, k3, M3, h3, g3⟩ := bind_ok g2
  obtain ⟨rfl, rfl⟩ := must_ok h3
  obtain ⟨n, k4, M4, h4, g4⟩ := bind_ok g3
  have := los_either P hL h4
  rw [List.append_assoc] at this
  split at g4
  · exact P.field this g4
  · obtain ⟨rfl, _, rfl⟩ := ok_inj g4
    exact this
theorem los_list {f : Nat} (P : Los L f) {t d n l k M x k' M'} (hL : Lo M (r ++ l)) (h : listF L (f + 1) t d n l k M = .ok (x, k', M')) : Lo M' (r ++ x) := by
  unfold listF at h
  obtain ⟨_, k1, M1, h1, g1⟩ := bind_ok h
  obtain ⟨rfl, rfl⟩ := room_ok h1
  obtain ⟨n, k4, M4, h4, g4⟩ := bind_ok g1
  have := los_either P hL h4
  rw [List.append_assoc] at this
  split at g4
  · exact P.list this g4
  · obtain ⟨rfl, _, rfl⟩ := ok_inj g4
    exact this
theorem shape_lo {n z : Int} {k k' : Nat} {M M' : List Nd} (hL : Lo M (r ++ [n])) (h : shapeF L n k M = .ok (z, k', M')) : Lo M' (r ++ [z]) := by
  unfold shapeF failA at h
  dsimp only at h
  split at h
  · cases h
  · split at h
    · exact node_lo hL h
    · split at h
      · exact node_lo hL h
      · cases h
theorem los_expr {f : Nat} (P : Los L f) {d k M x k' M'} (hL : Lo M r) (h : exprF L (f + 1) d k M = .ok (x, k', M')) : Lo M' (r ++ [x]) := by
  unfold exprF at h
  obtain ⟨_, k1, M1, h1, g1⟩ := bind_ok h
  obtain ⟨rfl, rfl⟩ := deep_ok h1
  split at g1
  · obtain ⟨_, k2, M2, h2, g2⟩ := bind_ok g1
    obtain ⟨rfl, rfl⟩ := word_ok h2
    obtain ⟨_, k3, M3, h3, g3⟩ := bind_ok g2
    obtain ⟨rfl, rfl⟩ := must_ok h3
    obtain ⟨_, k4, M4, h4, g4⟩ := bind_ok g3
    obtain ⟨_, k5, M5, h5, g5⟩ := bind_ok g4
    obtain ⟨rfl, rfl⟩ := must_ok h5
    obtain ⟨_, k6, M6, h6, g6⟩ := bind_ok g5
    have b := P.expr (P.expr hL h4) h6
    rw [List.append_assoc] at b
    exact node_lo b g6
  · split at g1
    · obtain ⟨_, k2, M2, h2, g2⟩ := bind_ok g1
      obtain ⟨_, k3, M3, h3, g3⟩ := bind_ok g2
      obtain ⟨rfl, rfl⟩ := must_ok h3
      obtain ⟨_, k4, M4, h4, g4⟩ := bind_ok g3
      obtain ⟨_, k5, M5, h5, g5⟩ := bind_ok g4
      obtain ⟨rfl, rfl⟩ := must_ok h5
      obtain ⟨_, k6, M6, h6, g6⟩ := bind_ok g5
      have c := P.expr (P.expr (P.expr hL h2) h4) h6
      rw [List.append_assoc, List.append_assoc] at c
      exact node_lo c g6
    · obtain ⟨_, k2, M2, h2, g2⟩ := bind_ok g1
      obtain ⟨_, k3, M3, h3, g3⟩ := bind_ok g2
      have b := P.sum (P.prim hL h2) h3
      split at g3
      · exact shape_lo b g3
      · obtain ⟨rfl, rfl, rfl⟩ := ok_inj g3
        exact b
theorem los_sum {f : Nat} (P : Los L f) {d n k M x k' M'} (hL : Lo M (r ++ [n])) (h : sumF L (f + 1) d n k M = .ok (x, k', M')) : Lo M' (r ++ [x]) := by
  unfold sumF at h
  split at h
  · obtain ⟨_, k2, M2, h2, g2⟩ := bind_ok h
    have a := P.prim hL h2
    rw [List.append_assoc] at a
    obtain ⟨_, k3, M3, h3, g3⟩ := bind_ok g2
    exact P.sum (node_lo a h3) g3
  · obtain ⟨rfl, rfl, rfl⟩ := ok_inj h
    exact hL
theorem los_prim {f : Nat} (P : Los L f) {d k M x k' M'} (hL : Lo M r) (h : primF L (f + 1) d k M = .ok (x, k', M')) : Lo M' (r ++ [x]) := by
  unfold primF at h
  obtain ⟨_, k2, M2, h2, g2⟩ := bind_ok h
  exact P.dot (P.atom hL h2) g2
theorem los_dot {f : Nat} (P : Los L f) {n k M x k' M'} (hL : Lo M (r ++ [n])) (h : dotF L (f + 1) n k M = .ok (x, k', M')) : Lo M' (r ++ [x]) := by
  unfold dotF at h
  split at h
  · obtain ⟨_, k2, M2, h2, g2⟩ := bind_ok h
    obtain ⟨rfl, rfl⟩ := word_ok h2
    obtain ⟨_, k3, M3, h3, g3⟩ := bind_ok g2
    exact P.dot (node_lo hL h3) g3
  · obtain ⟨rfl, rfl, rfl⟩ := ok_inj h
    exact hL
theorem los_atom {f : Nat} (P : Los L f) {d k M x k' M'} (hL : Lo M r) (h : atomF L (f + 1) d k M = .ok (x, k', M')) : Lo M' (r ++ [x]) := by
  unfold atomF at h
  dsimp only at h
  split at h
  · exact leaf_lo hL rfl h
  · split at h
    · exact leaf_lo hL rfl h
    · split at h
      · exact leaf_lo hL rfl h
      · split at h
        · exact P.named hL h
        · split at h
          · exact P.fields hL h
          · split at h
            · obtain ⟨_, k2, M2, h2, g2⟩ := bind_ok h
              have a := P.expr hL h2
              split at g2
              · obtain ⟨_, k3, M3, h3, g3⟩ := bind_ok g2
                have b := P.typ a h3
                obtain ⟨_, k4, M4, h4, g4⟩ := bind_ok g3
                obtain ⟨rfl, rfl⟩ := must_ok h4
                rw [List.append_assoc] at b
                exact node_lo b g4
              · obtain ⟨_, k4, M4, h4, g4⟩ := bind_ok g2
                obtain ⟨rfl, rfl⟩ := must_ok h4
                obtain ⟨rfl, rfl, rfl⟩ := ok_inj g4
                exact a
            · unfold failA at h; cases h
theorem los_named {f : Nat} (P : Los L f) {d s k M x k' M'} (hL : Lo M r) (h : namedF L (f + 1) d s k M = .ok (x, k', M')) : Lo M' (r ++ [x]) := by
  unfold namedF at h
  split at h
  · obtain ⟨_, k2, M2, h2, g2⟩ := bind_ok h
    obtain ⟨rfl, rfl⟩ := word_ok h2
    exact P.call hL g2
  · split at h
    · exact P.call hL h
    · exact leaf_lo hL rfl h
theorem los_call {f : Nat} (P : Los L f) {d m s k M x k' M'} (hL : Lo M r) (h : callF L (f + 1) d m s k M = .ok (x, k', M')) : Lo M' (r ++ [x]) := by
  unfold callF at h
  obtain ⟨ts, k1, M1, h1, g1⟩ := bind_ok h
  have hk1 : Lo M1 (r ++ ts) := by
    split at h1
    · obtain ⟨_, k2, M2, h2, g2⟩ := bind_ok h1
      have := P.list (by rw [List.append_nil]; exact hL) h2
      obtain ⟨_, k3, M3, h3, g3⟩ := bind_ok g2
      obtain ⟨rfl, rfl⟩ := must_ok h3
      obtain ⟨rfl, _, rfl⟩ := ok_inj g3
      exact this
    · obtain ⟨rfl, _, rfl⟩ := ok_inj h1
      rw [List.append_nil]; exact hL
  obtain ⟨_, k2, M2, h2, g2⟩ := bind_ok g1
  obtain ⟨rfl, rfl⟩ := must_ok h2
  split at g2
  · exact node_lo hk1 g2
  · obtain ⟨_, k3, M3, h3, g3⟩ := bind_ok g2
    have := P.list hk1 h3
    obtain ⟨_, k4, M4, h4, g4⟩ := bind_ok g3
    obtain ⟨rfl, rfl⟩ := must_ok h4
    exact node_lo this g4
theorem los : ∀ f : Nat, Los L f
  | 0 => los_zero
  | f + 1 => ⟨los_typ (los f), los_alt (los f), los_part (los f), los_fields (los f), los_field (los f), los_list (los f), los_expr (los f), los_sum (los f), los_prim (los f), los_dot (los f), los_atom (los f), los_named (los f), los_call (los f)⟩
def tysV (l : List Vr) : List Int := l.map (·.type)
def rootF (x : Fd) : List Int := tysV x.vars ++ tysV x.params ++ [x.ret, x.body]
def rootFs (l : List Fd) : List Int := l.flatMap rootF
/-- A module's roots, in order. -/
def roots (m : Md) : List Int := tysV m.types ++ rootFs m.fns
theorem lo_varsF (kind : Int) (bt : Bs) : ∀ (f : Nat) {l : List Vr} {k : Nat} {M : List Nd} {x : List Vr} {k' : Nat} {M' : List Nd}, Lo M (r ++ tysV l) → varsF L f kind bt l k M = .ok (x, k', M') → Lo M' (r ++ tysV x)
  | 0, l, k, M, x, k', M', _, h => by unfold varsF at h; cases h
  | f + 1, l, k, M, x, k', M', hL, h => by
    unfold varsF at h
    obtain ⟨_, k1, M1, h1, g1⟩ := bind_ok h
    obtain ⟨rfl, rfl⟩ := room_ok h1
    obtain ⟨s, k2, M2, h2, g2⟩ := bind_ok g1
    obtain ⟨rfl, rfl⟩ := fresh_ok h2
    obtain ⟨_, k3, M3, h3, g3⟩ := bind_ok g2
    obtain ⟨rfl, rfl⟩ := must_ok h3
    obtain ⟨t, k4, M4, h4, g4⟩ := bind_ok g3
    have a : Lo M4 (r ++ tysV (l ++ [⟨s, t⟩])) := by
      have := (los (fuel L)).typ hL h4
      rw [List.append_assoc] at this
      rw [show tysV (l ++ [⟨s, t⟩]) = tysV l ++ [t] by simp [tysV]]
      exact this
    split at g4
    · exact lo_varsF kind bt f a g4
    · obtain ⟨rfl, _, rfl⟩ := ok_inj g4
      exact a
theorem lo_vars {kind : Int} {bt stop : Bs} {k k' : Nat} {M M' : List Nd} {x : List Vr} (hL : Lo M r) (h : vars L kind bt stop k M = .ok (x, k', M')) : Lo M' (r ++ tysV x) := by
  unfold vars at h
  obtain ⟨l, k1, M1, h1, g1⟩ := bind_ok h
  have a := lo_varsF (r := r) kind bt _ (l := []) (by rw [show tysV [] = [] from rfl, List.append_nil]; exact hL) h1
  obtain ⟨_, k2, M2, h2, g2⟩ := bind_ok g1
  obtain ⟨rfl, rfl⟩ := must_ok h2
  obtain ⟨rfl, _, rfl⟩ := ok_inj g2
  exact a
theorem lo_decl {m : Int} {k k' : Nat} {M M' : List Nd} {x : Vr} (hL : Lo M r) (h : decl L m k M = .ok (x, k', M')) : Lo M' (r ++ [x.type]) := by
  unfold decl at h
  obtain ⟨_, k1, M1, h1, g1⟩ := bind_ok h
  obtain ⟨rfl, rfl⟩ := room_ok h1
  obtain ⟨_, k2, M2, h2, g2⟩ := bind_ok g1
  obtain ⟨rfl, rfl⟩ := word_ok h2
  obtain ⟨_, k3, M3, h3, g3⟩ := bind_ok g2
  obtain ⟨rfl, rfl⟩ := must_ok h3
  obtain ⟨t, k4, M4, h4, g4⟩ := bind_ok g3
  obtain ⟨rfl, _, rfl⟩ := ok_inj g4
  exact (los (fuel L)).typ hL h4
theorem lo_func {m : Int} {k k' : Nat} {M M' : List Nd} {x : Fd} (hL : Lo M r) (h : func L m k M = .ok (x, k', M')) : Lo M' (r ++ rootF x) := by
  unfold func at h
  obtain ⟨_, k1, M1, h1, g1⟩ := bind_ok h
  obtain ⟨rfl, rfl⟩ := room_ok h1
  obtain ⟨_, k2, M2, h2, g2⟩ := bind_ok g1
  obtain ⟨rfl, rfl⟩ := word_ok h2
  obtain ⟨vs, k3, M3, h3, g3⟩ := bind_ok g2
  have a : Lo M3 (r ++ tysV vs) := by
    split at h3
    · exact lo_vars hL h3
    · obtain ⟨rfl, _, rfl⟩ := ok_inj h3
      rw [show tysV [] = [] from rfl, List.append_nil]; exact hL
  obtain ⟨_, k4, M4, h4, g4⟩ := bind_ok g3
  obtain ⟨rfl, rfl⟩ := must_ok h4
  obtain ⟨ps, k5, M5, h5, g5⟩ := bind_ok g4
  have b : Lo M5 (r ++ tysV vs ++ tysV ps) := by
    split at h5
    · obtain ⟨rfl, _, rfl⟩ := ok_inj h5
      rw [show tysV [] = [] from rfl, List.append_nil]; exact a
    · exact lo_vars a h5
  obtain ⟨_, k6, M6, h6, g6⟩ := bind_ok g5
  obtain ⟨rfl, rfl⟩ := must_ok h6
  obtain ⟨rt, k7, M7, h7, g7⟩ := bind_ok g6
  obtain ⟨_, k8, M8, h8, g8⟩ := bind_ok g7
  obtain ⟨rfl, rfl⟩ := must_ok h8
  obtain ⟨bd, k9, M9, h9, g9⟩ := bind_ok g8
  obtain ⟨rfl, _, rfl⟩ := ok_inj g9
  have c := (los (fuel L)).expr ((los (fuel L)).typ b h7) h9
  have e : r ++ tysV vs ++ tysV ps ++ [rt] ++ [bd] = r ++ (tysV vs ++ tysV ps ++ [rt, bd]) := by simp
  exact e ▸ c
theorem lo_imports : ∀ (f : Nat) {l : List Bs} {k : Nat} {M : List Nd} {x : List Bs} {k' : Nat} {M' : List Nd}, importsF L f l k M = .ok (x, k', M') → M' = M
  | 0, l, k, M, x, k', M', h => by unfold importsF at h; cases h
  | f + 1, l, k, M, x, k', M', h => by
    unfold importsF at h
    split at h
    · obtain ⟨_, k1, M1, h1, g1⟩ := bind_ok h
      obtain ⟨rfl, rfl⟩ := room_ok h1
      obtain ⟨s, k2, M2, h2, g2⟩ := bind_ok g1
      obtain ⟨rfl, rfl⟩ := fresh_ok h2
      exact lo_imports f g2
    · exact (ok_inj h).2.2.symm
theorem lo_decls : ∀ (f : Nat) {l : List Vr} {k : Nat} {M : List Nd} {x : List Vr} {k' : Nat} {M' : List Nd}, Lo M (tysV l) → declsF L f l k M = .ok (x, k', M') → Lo M' (tysV x)
  | 0, l, k, M, x, k', M', _, h => by unfold declsF at h; cases h
  | f + 1, l, k, M, x, k', M', hL, h => by
    unfold declsF at h
    split at h
    · obtain ⟨y, k1, M1, h1, g1⟩ := bind_ok h
      exact lo_decls f (by rw [show tysV (l ++ [y]) = tysV l ++ [y.type] by simp [tysV]]; exact lo_decl hL h1) g1
    · obtain ⟨rfl, _, rfl⟩ := ok_inj h
      exact hL
theorem lo_funcs : ∀ (f : Nat) {l : List Fd} {k : Nat} {M : List Nd} {x : List Fd} {k' : Nat} {M' : List Nd}, Lo M (r ++ rootFs l) → funcsF L f l k M = .ok (x, k', M') → Lo M' (r ++ rootFs x)
  | 0, l, k, M, x, k', M', _, h => by unfold funcsF at h; cases h
  | f + 1, l, k, M, x, k', M', hL, h => by
    unfold funcsF at h
    split at h
    · obtain ⟨y, k1, M1, h1, g1⟩ := bind_ok h
      exact lo_funcs f (by rw [show r ++ rootFs (l ++ [y]) = r ++ rootFs l ++ rootF y by simp [rootFs]]; exact lo_func hL h1) g1
    · obtain ⟨rfl, _, rfl⟩ := ok_inj h
      exact hL
theorem lo_module {m : Md} (h : module_ L = .ok m) : Lo m.nodes (roots m) ∧ (now L 1).kind = 1 ∧ (now L 1).text = m.name := by
  unfold module_ at h
  split at h
  · cases h
  · rename_i s is ts fs k0 M0 hb
    injection h with h
    subst h
    obtain ⟨_, k1, M1, h1, g1⟩ := bind_ok hb
    obtain ⟨rfl, rfl⟩ := must_ok h1
    obtain ⟨s', k2, M2, h2, g2⟩ := bind_ok g1
    have hw : (now L 1).kind = 1 ∧ (now L 1).text = s' := by
      unfold word failA at h2
      split at h2
      · rename_i hk
        exact ⟨hk, (ok_inj h2).1⟩
      · cases h2
    obtain ⟨rfl, rfl⟩ := word_ok h2
    obtain ⟨is', k3, M3, h3, g3⟩ := bind_ok g2
    have e := lo_imports _ h3
    subst e
    obtain ⟨ts', k4, M4, h4, g4⟩ := bind_ok g3
    have a := lo_decls _ (l := []) Lo.nil h4
    obtain ⟨fs', k5, M5, h5, g5⟩ := bind_ok g4
    have b := lo_funcs (r := tysV ts') _ (l := []) (by rw [show rootFs [] = [] from rfl, List.append_nil]; exact a) h5
    split at g5
    · obtain ⟨hx, _, rfl⟩ := ok_inj g5
      injection hx with e1 hx
      injection hx with e2 hx
      injection hx with e3 e4
      subst e1 e2 e3 e4
      exact ⟨b, hw⟩
    · unfold failA at g5; cases g5
end
end Go.Proofs.YtmgjmagniefhoaaGreatDoor.Tr

/- How often each number is had, plainly. No program is walked here. -/
namespace Go.Proofs.YtmgjmagniefhoaaGreatDoor.Tr
open Lx (Bs Wd)
/-- How often each number below n stands in a list. -/
def cnt (P : List Int) (n : Nat) : List Int := (List.range n).map fun i : Nat => ((P.count (i : Int) : Nat) : Int)
theorem cnt_len (P : List Int) (n : Nat) : (cnt P n).length = n := by simp [cnt]
theorem cnt_at (P : List Int) {n i : Nat} (h : i < n) : (cnt P n)[i]'(by rw [cnt_len]; exact h) = (P.count (i : Int) : Nat) := by simp [cnt]
theorem cnt_nil (n : Nat) : cnt [] n = List.replicate n 0 := by
  apply List.ext_getElem
  · simp [cnt]
  · intro i h1 h2
    simp [cnt]
theorem cnt_put (P : List Int) {n z : Nat} (_h : z < n) : (cnt P n).set z (((P.count (z : Int) : Nat) : Int) + 1) = cnt (P ++ [(z : Int)]) n := by
  apply List.ext_getElem
  · simp [cnt]
  · intro i h1 h2
    rw [List.getElem_set]
    have hi : i < n := by simpa [cnt] using h2
    rw [cnt_at (P ++ [(z : Int)]) hi, List.count_append]
    by_cases e : z = i
    · subst e
      rw [if_pos rfl, List.count_singleton_self]
      omega
    · rw [if_neg e, cnt_at P hi, List.count_singleton]
      rw [if_neg (by simp; omega)]
      omega
theorem nums_nodup (n : Nat) : (nums n).Nodup := by
  unfold nums
  exact List.Pairwise.map _ (fun a b hab e => hab (by omega)) List.nodup_range
theorem cnt_one {P : List Int} {n : Nat} (h : P.Perm (nums n)) {i : Nat} (hi : i < n) : P.count (i : Int) = 1 := by
  rw [h.count_eq]
  exact List.Nodup.count (nums_nodup n) |>.trans (if_pos (mem_nums.2 ⟨by omega, by omega⟩))
theorem nums_len (n : Nat) : (nums n).length = n := by simp [nums]
theorem Lo.roots_few {m : Md} (h : Lo m.nodes (roots m)) : (roots m).length ≤ 4000 := by
  have h1 := h.perm.length_eq
  rw [List.length_append, nums_len] at h1
  have := h.few
  omega
theorem Lo.pre_few {m : Md} (h : Lo m.nodes (roots m)) {R : List Int} (hR : R <+: roots m) : R.length ≤ 4000 := Nat.le_trans hR.length_le h.roots_few
theorem tys_take (l : List Vr) {i : Nat} (h : i < l.length) : tysV (l.take i) ++ [l[i].type] = tysV (l.take (i + 1)) := by
  unfold tysV
  rw [List.take_succ_eq_append_getElem h, List.map_append]
  rfl
theorem rootFs_take (l : List Fd) {i : Nat} (h : i < l.length) : rootFs (l.take i) ++ rootF l[i] = rootFs (l.take (i + 1)) := by
  unfold rootFs
  rw [List.take_succ_eq_append_getElem h, List.flatMap_append]
  simp
theorem tys_pre (l : List Vr) (i : Nat) : tysV (l.take i) <+: tysV l := by
  unfold tysV
  rw [List.map_take]
  exact List.take_prefix _ _
theorem roots_ty (m : Md) (i : Nat) : tysV (m.types.take i) <+: roots m := (tys_pre m.types i).trans (List.prefix_append _ _)
/-- What stands in a function's roots, behind those of what is ahead of it. -/
theorem roots_fn (m : Md) {i : Nat} (h : i < m.fns.length) {X : List Int} (hX : X <+: rootF m.fns[i]) : tysV m.types ++ rootFs (m.fns.take i) ++ X <+: roots m := by
  obtain ⟨Y, hY⟩ := hX
  have e : m.fns.take i ++ m.fns[i] :: m.fns.drop (i + 1) = m.fns := by
    rw [← List.drop_eq_getElem_cons h, List.take_append_drop]
  refine ⟨Y ++ rootFs (m.fns.drop (i + 1)), ?_⟩
  have e2 : rootFs m.fns = rootFs (m.fns.take i) ++ (rootF m.fns[i] ++ rootFs (m.fns.drop (i + 1))) := by
    conv => lhs; rw [← e]
    unfold rootFs
    rw [List.flatMap_append, List.flatMap_cons]
  unfold roots
  rw [e2, ← hY]
  simp only [List.append_assoc]
theorem roots_fn0 (m : Md) (i : Nat) : tysV m.types ++ rootFs (m.fns.take i) <+: roots m := by
  refine ⟨rootFs (m.fns.drop i), ?_⟩
  unfold roots
  rw [List.append_assoc]
  congr 1
  unfold rootFs
  rw [← List.flatMap_append, List.take_append_drop]
theorem hadL_take (l : List Nd) {i : Nat} (h : i < l.length) : hadL (l.take i) ++ l[i].l = hadL (l.take (i + 1)) := by
  unfold hadL
  rw [List.take_succ_eq_append_getElem h, List.flatMap_append]
  simp
theorem take_snoc {α : Type} (l : List α) {i : Nat} (h : i < l.length) : l.take i ++ [l[i]] = l.take (i + 1) := (List.take_succ_eq_append_getElem h).symm
/-- What a node has stands ahead of it, in order. -/
theorem Lo.at_ {M : List Nd} {r : List Int} (h : Lo M r) {i k : Nat} (hi : i < M.length) (hk : k < M[i].l.length) : 0 ≤ M[i].l[k] ∧ M[i].l[k] < (i : Int) ∧ ∀ (h0 : 0 < k), M[i].l[k - 1]'(by omega) < M[i].l[k] := by
  obtain ⟨h1, h2⟩ := h.nod i M[i] (List.getElem?_eq_getElem hi)
  refine ⟨?_, h2 _ (List.getElem_mem hk), fun h0 => ?_⟩
  · have : M[i].l[k] ∈ hadL M := List.mem_flatMap.2 ⟨M[i], List.getElem_mem hi, List.getElem_mem hk⟩
    exact (mem_nums.1 (h.perm.mem_iff.1 (List.mem_append_left _ this))).1
  · exact List.pairwise_iff_getElem.1 h1 (k - 1) k (by omega) hk (by omega)
theorem Lo.l_few {M : List Nd} {r : List Int} (h : Lo M r) {i : Nat} (hi : i < M.length) : M[i].l.length ≤ 4000 := by
  have h1 := h.perm.length_eq
  rw [List.length_append, nums_len] at h1
  have h2 := h.few
  have h3 : M[i].l.length ≤ (hadL M).length := by
    have := List.Sublist.length_le (List.sublist_flatten_of_mem (List.mem_map.2 ⟨M[i], List.getElem_mem hi, rfl⟩ : M[i].l ∈ M.map (·.l)))
    rwa [show (M.map (·.l)).flatten = hadL M from rfl] at this
  omega
theorem count_few {P : List Int} (hP : P.length ≤ 9000) (z : Int) : (P.count z : Nat) ≤ 9000 := Nat.le_trans (List.count_le_length) hP
theorem Lo.had_few {M : List Nd} {r : List Int} (h : Lo M r) : (r ++ hadL M).length ≤ 4000 := by
  have h1 := h.perm.length_eq
  rw [List.length_append, nums_len] at h1
  have h2 := h.few
  rw [List.length_append]
  omega
theorem had_pre (M : List Nd) {i k : Nat} (hi : i < M.length) : hadL (M.take i) ++ (M[i].l.take k) <+: hadL M := by
  have e : M.take i ++ M[i] :: M.drop (i + 1) = M := by
    rw [← List.drop_eq_getElem_cons hi, List.take_append_drop]
  refine ⟨M[i].l.drop k ++ hadL (M.drop (i + 1)), ?_⟩
  have e2 : hadL M = hadL (M.take i) ++ (M[i].l ++ hadL (M.drop (i + 1))) := by
    conv => lhs; rw [← e]
    unfold hadL
    rw [List.flatMap_append, List.flatMap_cons]
  rw [e2, List.append_assoc, ← List.append_assoc (M[i].l.take k), List.take_append_drop]
end Go.Proofs.YtmgjmagniefhoaaGreatDoor.Tr

/- ordered: its numbers in memory. Conditions: those that each theorem names. -/
namespace Go.Proofs.YtmgjmagniefhoaaGreatDoor
open Go.RowKit Go.Maps
section
variable {w0 W W' : World}
theorem vr_at {w : World} {v : Value} {l : List Tr.Vr} (h : RowAt w v l.length (flatV l)) {k : Nat} (hk : k < l.length) : ∃ b off c, v = .slice (some ⟨b, off, none⟩) l.length c ∧ w.cell? ⟨b, off + k * 2 + 1, none⟩ = some (.int .i64 l[k].type) := by
  obtain ⟨b, off, c, e, hc⟩ := h.get (by omega)
  exact ⟨b, off, c, e, by rw [Nat.add_assoc]; exact hc (k * 2 + 1) _ (flatV_at _ k hk 1 (by omega))⟩
theorem own_set {w : World} {base : Nat} {e : TypeId} {size n m cap g : Nat} {xs : List Value} (h : w.ownsRow base e size (.slice (some ⟨g, 0, none⟩) m cap) n xs) (j : Nat) (u : Value) :
    (w.setCell ⟨g, j, none⟩ u).ownsRow base e size (.slice (some ⟨g, 0, none⟩) m cap) n (xs.set j u) := by
  obtain ⟨h1, h2⟩ := h
  refine ⟨by simpa using h1, ?_⟩
  rcases h2 with ⟨hv, _⟩ | ⟨g', cap', cur, hv, hg, hh, hn, hc, hs, ht⟩
  · cases hv
  · injection hv with hv1 hv2 hv3
    injection hv1 with hv1
    injection hv1 with hv1
    subst hv1
    refine .inr ⟨g, cap', cur.setIfInBounds j u, by rw [hv2, hv3], hg, ?_, hn, hc, by simpa using hs, ?_⟩
    · simp [World.setCell, Array.getElem?_modify, hh]
    · rw [Array.toList_setIfInBounds, List.take_set, ht]
theorem own_frozen {w : World} {base : Nat} {e : TypeId} {size n m cap g : Nat} {xs : List Value} (h : w.ownsRow base e size (.slice (some ⟨g, 0, none⟩) m cap) n xs) (j : Nat) : w.frozen? ⟨g, j, none⟩ = false := by
  rcases h.2 with ⟨hv, _⟩ | ⟨g', cap', cur, hv, hg, hh, _⟩
  · cases hv
  · injection hv with hv1 hv2 hv3
    injection hv1 with hv1
    injection hv1 with hv1
    subst hv1
    exact Blk.frozen hh j
theorem own_head {w : World} {base : Nat} {e : TypeId} {size n : Nat} {v : Value} {xs : List Value} (h : w.ownsRow base e size v n xs) (h0 : 0 < n) : ∃ q c, v = .slice (some ⟨q, 0, none⟩) n c := by
  rcases h.2 with ⟨_, h1⟩ | ⟨g', cap', cur, hv, _⟩
  · omega
  · exact ⟨g', cap', hv⟩
/-- What ordered has in memory: the module's box, the row of numbers had, the row of roots. -/
structure OrS (w0 W : World) (bx hb : Nat) (cs : Array Value) (n : Nat) (H : List Int) (rv : Value) (R : List Int) : Prop where
  bel : Below w0.heap.size w0 W
  box : Blk W bx 31 cs
  had : W.ownsRow w0.heap.size 3 1 (.slice (some ⟨hb, 0, none⟩) n n) n (ints H)
  row : W.ownsRow w0.heap.size 3 1 rv R.length (ints R)
  ne : rv.ownBlock ≠ some hb
  hlen : H.length = n
variable {bx hb n : Nat} {cs : Array Value} {H R : List Int} {rv : Value}
theorem OrS.below (h : OrS w0 W bx hb cs n H rv R) (hW : Below W.heap.size W W') : OrS w0 W' bx hb cs n H rv R :=
  have hk := Kp.of_below hW (fun _ => False)
  ⟨h.bel.trans (hW.mono h.bel.size), h.box.kp hk id, own_kp h.had hk (fun _ _ => id), own_kp h.row hk (fun _ _ => id), h.ne, h.hlen⟩
theorem OrS.grown {W1 : World} {rv' : Value} {Z : List Int} (h : OrS w0 W bx hb cs n H rv R) (hW : Below W.heap.size W W1) (hg : W1.grownBy W' rv.ownBlock) (hown : W'.ownsRow w0.heap.size 3 1 rv' (R.length + Z.length) (ints R ++ ints Z)) (hat : ∀ q, rv'.ownBlock = some q → rv.ownBlock = some q ∨ W1.heap.size ≤ q) : OrS w0 W' bx hb cs n H rv' (R ++ Z) := by
  have hk : Kp (fun q => rv.ownBlock = some q) W W' := (Kp.of_below hW _).grown hg (fun q hq => .inl hq)
  have hlt := own_lt h.had (k := hb) rfl
  refine ⟨?_, h.box.kp hk (own_blk_ne h.row h.box (by decide)), own_kp h.had hk (fun k hk e => ?_), ?_, fun e => ?_, h.hlen⟩
  · have hz : Below w0.heap.size W W' := hk.toBelow h.bel.size (fun q hq e => by have := own_base h.row e; omega)
    exact h.bel.trans hz
  · injection hk with hk
    have hk : hb = k := hk
    exact h.ne (by rw [hk]; exact e)
  · rw [List.length_append, show ints (R ++ Z) = ints R ++ ints Z by simp [ints]]; exact hown
  · rcases hat hb e with e | e
    · exact h.ne e
    · have := hW.size; omega
/-- Another block stays. -/
theorem OrS.grown_blk {W1 : World} {g : Nat} {t : TypeId} {cs' : Array Value} (h : OrS w0 W bx hb cs n H rv R) (hW : Below W.heap.size W W1) (hg : W1.grownBy W' rv.ownBlock) (hb' : Blk W g t cs') (ht : 3 ≠ t) : Blk W' g t cs' :=
  hb'.kp ((Kp.of_below hW (fun q => rv.ownBlock = some q)).grown hg (fun _ hq => .inl hq)) (own_blk_ne h.row hb' ht)
theorem OrS.bump (h : OrS w0 W bx hb cs n H rv R) (j : Nat) (z : Int) : OrS w0 (W.setCell ⟨hb, j, none⟩ (.int .i64 z)) bx hb cs n (H.set j z) rv R := by
  have h0 := own_base h.had (k := hb) rfl
  have hk : Kp (fun q => q = hb) W (W.setCell ⟨hb, j, none⟩ (.int .i64 z)) := (Kp.refl (fun q => q = hb) W).setCell (p := ⟨hb, j, none⟩) (.inl rfl) _
  refine ⟨h.bel.setCell h0 _, h.box.kp hk (fun e => ?_), ?_, own_kp h.row hk (fun k hk e => h.ne (by rw [hk, e])), h.ne, by rw [List.length_set]; exact h.hlen⟩
  · have := own_blk_ne h.had h.box (by decide)
    exact this (by rw [e]; rfl)
  · have := own_set h.had j (.int .i64 z)
    rw [show ints (H.set j z) = (ints H).set j (.int .i64 z) by simp [ints]]
    exact this
theorem OrS.at_ (h : OrS w0 W bx hb cs n H rv R) {j : Nat} (hj : j < n) : W.cell? ⟨hb, j, none⟩ = some (.int .i64 (H[j]'(by rw [h.hlen]; exact hj))) ∧ W.frozen? ⟨hb, j, none⟩ = false :=
  ⟨own_cell h.had j _ (ints_at (by rw [h.hlen]; exact hj)), own_frozen h.had j⟩
theorem OrS.drew (h : OrS w0 W bx hb cs n H rv R) : OrS w0 W.drew bx hb cs n H rv R := h.below (Below.refl _ _).drew
theorem OrS.drewN (h : OrS w0 W bx hb cs n H rv R) (k : Nat) : OrS w0 (W.drewN k) bx hb cs n H rv R := h.below (bdrewN (Below.refl _ _) k)
theorem OrS.root (h : OrS w0 W bx hb cs n H rv R) {i : Nat} (hi : i < R.length) : ∃ q c, rv = .slice (some ⟨q, 0, none⟩) R.length c ∧ W.cell? ⟨q, i, none⟩ = some (.int .i64 R[i]) := by
  obtain ⟨q, c, rfl⟩ := own_head h.row (by omega)
  exact ⟨q, c, rfl, own_cell h.row i _ (ints_at hi)⟩
end
end Go.Proofs.YtmgjmagniefhoaaGreatDoor
