/- What stands in these texts of the proof: Xa Xb Xc Xd Xe. Conditions: those that each theorem names. -/
import Derived.Test.YtmgjmagniefhoaaGreatDoorAa08
/- A text that ends behind some of its words: how two readers go side by side. No program is walked here. -/
namespace Go.Proofs.YtmgjmagniefhoaaGreatDoor.Tr
open Lx (Bs Wd)
/-- What is read is no less, and no more than 4000 nodes. -/
def Up {α : Type} (M : List Nd) (r : An α) : Prop := ∀ x k M', r = .ok (x, k, M') → M.length ≤ M'.length ∧ (M.length ≤ 4000 → M'.length ≤ 4000)
/-- There is one more, at least. -/
def Up1 {α : Type} (M : List Nd) (r : An α) : Prop := ∀ x k M', r = .ok (x, k, M') → M.length < M'.length ∧ (M.length ≤ 4000 → M'.length ≤ 4000)
theorem up_err {α : Type} {M : List Nd} {e : Er} : Up M (.error e : An α) := fun x k M' h => by cases h
theorem up_ok {α : Type} {M : List Nd} {x : α} {k : Nat} : Up M (.ok (x, k, M) : An α) := fun x' k' M' h => by
  obtain ⟨_, _, rfl⟩ := ok_inj h
  exact ⟨Nat.le_refl _, id⟩
theorem up_bind {α β : Type} {M : List Nd} {a : An α} {g : α → Nat → List Nd → An β} (h : Up M a) (hg : ∀ x k M', Up M' (g x k M')) : Up M (bind a g) := fun x k M' e => by
  obtain ⟨y, k2, M2, h2, h3⟩ := bind_ok e
  have a1 := h _ _ _ h2
  have a2 := hg _ _ _ _ _ _ h3
  exact ⟨by omega, fun h4 => a2.2 (a1.2 h4)⟩
theorem up1_bind {α β : Type} {M : List Nd} {a : An α} {g : α → Nat → List Nd → An β} (h : Up M a) (hg : ∀ x k M', Up1 M' (g x k M')) : Up1 M (bind a g) := fun x k M' e => by
  obtain ⟨y, k2, M2, h2, h3⟩ := bind_ok e
  have a1 := h _ _ _ h2
  have a2 := hg _ _ _ _ _ _ h3
  exact ⟨by omega, fun h4 => a2.2 (a1.2 h4)⟩
section
variable {L : List Wd}
theorem up1_node {M : List Nd} {x : Nd} {k : Nat} : Up1 M (node L x k M) := fun z k' M' h => by
  have h4 : M.length ≠ 4000 := fun e => by
    unfold node at h
    rw [if_pos e] at h
    cases h
  obtain ⟨_, rfl, _⟩ := node_ok h
  rw [List.length_append]
  show M.length < M.length + 1 ∧ (_ → M.length + 1 ≤ 4000)
  exact ⟨by omega, fun h => by omega⟩
theorem Up1.up {α : Type} {M : List Nd} {r : An α} (h : Up1 M r) : Up M r := fun x k M' e => ⟨Nat.le_of_lt (h x k M' e).1, (h x k M' e).2⟩
theorem up_node {M : List Nd} {x : Nd} {k : Nat} : Up M (node L x k M) := up1_node.up
theorem up_same {α : Type} {M : List Nd} {r : An α} (h : ∀ x k M', r = .ok (x, k, M') → M' = M) : Up M r := fun x k M' e => by
  rw [h x k M' e]
  exact ⟨Nat.le_refl _, id⟩
theorem up_must {M : List Nd} {s : Bs} {k : Nat} : Up M (must L s k M) := up_same fun _ _ _ h => (must_ok h).2
theorem up_word {M : List Nd} {s : Int} {k : Nat} : Up M (word L s k M) := up_same fun _ _ _ h => (word_ok h).2
theorem up_fresh {M : List Nd} {l : List Bs} {s : Int} {k : Nat} : Up M (fresh L l s k M) := up_same fun _ _ _ h => (fresh_ok h).2
theorem up_room {M : List Nd} {a b : Int} {k : Nat} : Up M (room L a b k M) := up_same fun _ _ _ h => (room_ok h).2
theorem up_deep {M : List Nd} {d : Int} {k : Nat} : Up M (deep L d k M) := up_same fun _ _ _ h => (deep_ok h).2
theorem up_shape {M : List Nd} {n : Int} {k : Nat} : Up M (shapeF L n k M) := by
  unfold shapeF failA
  dsimp only
  split
  · exact up_err
  · split
    · exact up_node
    · split
      · exact up_node
      · exact up_err
structure Ups (L : List Wd) (f : Nat) : Prop where
  typ : ∀ d k M, Up M (typF L f d k M)
  alt : ∀ d l k M, Up M (altF L f d l k M)
  part : ∀ d k M, Up M (partF L f d k M)
  fields : ∀ t d k M, Up M (fieldsF L f t d k M)
  field : ∀ t d ks l k M, Up M (fieldF L f t d ks l k M)
  list : ∀ t d n l k M, Up M (listF L f t d n l k M)
  expr : ∀ d k M, Up M (exprF L f d k M)
  sum : ∀ d n k M, Up M (sumF L f d n k M)
  prim : ∀ d k M, Up M (primF L f d k M)
  dot : ∀ n k M, Up M (dotF L f n k M)
  atom : ∀ d k M, Up M (atomF L f d k M)
  named : ∀ d s k M, Up M (namedF L f d s k M)
  call : ∀ d m s k M, Up M (callF L f d m s k M)
theorem ups : ∀ f : Nat, Ups L f
  | 0 => by
    constructor <;> intros <;> first | (unfold typF; exact up_err) | (unfold altF; exact up_err) | (unfold partF; exact up_err) | (unfold fieldsF; exact up_err) | (unfold fieldF; exact up_err) | (unfold listF; exact up_err) | (unfold exprF; exact up_err) | (unfold sumF; exact up_err) | (unfold primF; exact up_err) | (unfold dotF; exact up_err) | (unfold atomF; exact up_err) | (unfold namedF; exact up_err) | (unfold callF; exact up_err)
  | f + 1 => by
    have P := ups f
    constructor
    · intro d k M
      unfold typF
      exact up_bind up_deep fun _ k M => up_bind (P.part _ _ _) fun n k M => P.alt _ _ _ _
    · intro d l k M
      unfold altF
      split
      · exact up_bind up_room fun _ k M => up_bind (P.part _ _ _) fun n k M => P.alt _ _ _ _
      · split
        · exact up_ok
        · exact up_node
    · intro d k M
      unfold partF failA
      dsimp only
      split
      · exact up_node
      · split
        · exact up_node
        · split
          · exact up_node
          · split
            · exact up_bind up_must fun _ k M => up_bind up_word fun s k M => up_node
            · split
              · exact P.fields _ _ _ _
              · split
                · exact up_bind (P.typ _ _ _) fun n k M => up_bind up_must fun _ k M => up_ok
                · exact up_err
    · intro t d k M
      unfold fieldsF
      split
      · exact up_node
      · exact up_bind (P.field _ _ _ _ _ _) fun x k M => up_bind up_must fun _ k M => up_node
    · intro t d ks l k M
      unfold fieldF
      refine up_bind up_room fun _ k M => up_bind up_fresh fun s k M => up_bind up_must fun _ k M => up_bind ?_ fun n k M => ?_
      · split
        · exact P.typ _ _ _
        · exact P.expr _ _ _
      · split
        · exact P.field _ _ _ _ _ _
        · exact up_ok
    · intro t d n l k M
      unfold listF
      refine up_bind up_room fun _ k M => up_bind ?_ fun n k M => ?_
      · split
        · exact P.typ _ _ _
        · exact P.expr _ _ _
      · split
        · exact P.list _ _ _ _ _ _
        · exact up_ok
    · intro d k M
      unfold exprF
      refine up_bind up_deep fun _ k M => ?_
      split
      · exact up_bind up_word fun s k M => up_bind up_must fun _ k M => up_bind (P.expr _ _ _) fun a k M => up_bind up_must fun _ k M => up_bind (P.expr _ _ _) fun b k M => up_node
      · split
        · exact up_bind (P.expr _ _ _) fun a k M => up_bind up_must fun _ k M => up_bind (P.expr _ _ _) fun b k M => up_bind up_must fun _ k M => up_bind (P.expr _ _ _) fun c k M => up_node
        · refine up_bind (P.prim _ _ _) fun n k M => up_bind (P.sum _ _ _ _) fun n k M => ?_
          split
          · exact up_shape
          · exact up_ok
    · intro d n k M
      unfold sumF
      split
      · exact up_bind (P.prim _ _ _) fun b k M => up_bind up_node fun n k M => P.sum _ _ _ _
      · exact up_ok
    · intro d k M
      unfold primF
      exact up_bind (P.atom _ _ _) fun n k M => P.dot _ _ _
    · intro n k M
      unfold dotF
      split
      · exact up_bind up_word fun s k M => up_bind up_node fun n k M => P.dot _ _ _
      · exact up_ok
    · intro d k M
      unfold atomF failA
      dsimp only
      split
      · exact up_node
      · split
        · exact up_node
        · split
          · exact up_node
          · split
            · exact P.named _ _ _ _
            · split
              · exact P.fields _ _ _ _
              · split
                · refine up_bind (P.expr _ _ _) fun n k M => ?_
                  split
                  · exact up_bind (P.typ _ _ _) fun t k M => up_bind up_must fun _ k M => up_node
                  · exact up_bind up_must fun _ k M => up_ok
                · exact up_err
    · intro d s k M
      unfold namedF
      split
      · exact up_bind up_word fun s k M => P.call _ _ _ _ _
      · split
        · exact P.call _ _ _ _ _
        · exact up_node
    · intro d m s k M
      unfold callF
      refine up_bind ?_ fun ts k M => up_bind up_must fun _ k M => ?_
      · split
        · exact up_bind (P.list _ _ _ _ _ _) fun l k M => up_bind up_must fun _ k M => up_ok
        · exact up_ok
      · split
        · exact up_node
        · exact up_bind (P.list _ _ _ _ _ _) fun l k M => up_bind up_must fun _ k M => up_node
theorem up1_err {α : Type} {M : List Nd} {e : Er} : Up1 M (.error e : An α) := fun x k M' h => by cases h
theorem up1_call (f : Nat) {d : Int} {m s : Bs} {k : Nat} {M : List Nd} : Up1 M (callF L f d m s k M) := by
  cases f with
  | zero => unfold callF; exact up1_err
  | succ f =>
    have P := ups (L := L) f
    unfold callF
    refine up1_bind ?_ fun ts k M => up1_bind up_must fun _ k M => ?_
    · split
      · exact up_bind (P.list _ _ _ _ _ _) fun l k M => up_bind up_must fun _ k M => up_ok
      · exact up_ok
    · split
      · exact up1_node
      · exact up1_bind (P.list _ _ _ _ _ _) fun l k M => up1_bind up_must fun _ k M => up1_node
theorem up1_named (f : Nat) {d : Int} {s : Bs} {k : Nat} {M : List Nd} : Up1 M (namedF L f d s k M) := by
  cases f with
  | zero => unfold namedF; exact up1_err
  | succ f =>
    unfold namedF
    split
    · exact up1_bind up_word fun s k M => up1_call f
    · split
      · exact up1_call f
      · exact up1_node
theorem up1_alt : ∀ (f : Nat) {d : Int} {l : List Int} {k : Nat} {M : List Nd}, l.length ≠ 0 → l.length ≠ 1 → Up1 M (altF L f d l k M)
  | 0, _, _, _, _, _, _ => by unfold altF; exact up1_err
  | f + 1, d, l, k, M, h0, hl => by
    have P := ups (L := L) f
    unfold altF
    split
    · exact up1_bind up_room fun _ k M => up1_bind (P.part _ _ _) fun n k M => up1_alt f (by rw [List.length_append]; show l.length + 1 ≠ 0; omega) (by rw [List.length_append]; show l.length + 1 ≠ 1; omega)
    · exact up1_node
end
/-- The words ahead of n are the same; there the second reader's end. -/
structure Cutt (L L1 : List Wd) (n : Nat) : Prop where
  same : ∀ k, k < n → (now L1 k).kind = (now L k).kind ∧ (now L1 k).text = (now L k).text ∧ (now L1 k).num = (now L k).num
  stop : (now L1 n).kind = 7
/-- Where both are: side by side; or the second one is at its end. -/
def St (n k : Nat) (M : List Nd) (k1 : Nat) (M1 : List Nd) : Prop := M.length ≤ 4000 ∧ ((k < n ∧ k1 = k ∧ M1 = M) ∨ (n ≤ k ∧ k1 = n ∧ M1.length ≤ M.length))
/-- What the second one answers, where the first one finds nothing wrong. -/
def Rel {α : Type} (L1 : List Wd) (n : Nat) (r r1 : An α) : Prop := ∀ x k M, r = .ok (x, k, M) → (∃ x1 k1 M1, r1 = .ok (x1, k1, M1) ∧ St n k M k1 M1 ∧ (k < n → x1 = x)) ∨ r1 = .error ((now L1 n).pos, 30)
section
variable {L L1 : List Wd} {n : Nat} {k k1 : Nat} {M M1 : List Nd}
theorem rel_err {α : Type} {e : Er} {r1 : An α} : Rel L1 n (.error e) r1 := fun x k M h => by cases h
theorem rel_end {α : Type} {r : An α} : Rel L1 n r (.error ((now L1 n).pos, 30)) := fun _ _ _ _ => .inr rfl
theorem rel_ok {α : Type} {x x1 : α} (hs : St n k M k1 M1) (hx : k < n → x1 = x) : Rel L1 n (.ok (x, k, M)) (.ok (x1, k1, M1)) := fun x' k' M' h => by
  obtain ⟨rfl, rfl, rfl⟩ := ok_inj h
  exact .inl ⟨x1, k1, M1, rfl, hs, hx⟩
theorem rel_bind {α β : Type} {r r1 : An α} {g g1 : α → Nat → List Nd → An β} (h : Rel L1 n r r1) (hg : ∀ x k M x1 k1 M1, r = .ok (x, k, M) → St n k M k1 M1 → (k < n → x1 = x) → Rel L1 n (g x k M) (g1 x1 k1 M1)) : Rel L1 n (bind r g) (bind r1 g1) := fun x k M e => by
  obtain ⟨y, k2, M2, h2, h3⟩ := bind_ok e
  rcases h _ _ _ h2 with ⟨x1, k1, M1, e1, hs, hx⟩ | e1
  · rw [e1]
    exact hg _ _ _ _ _ _ h2 hs hx _ _ _ h3
  · rw [e1]
    exact .inr rfl
/-- The second one is at its end and finds nothing wrong there. -/
theorem rel_stop {α : Type} {r : An α} {x1 : α} (h : n ≤ k) (hM : M1.length ≤ M.length) (h4 : M.length ≤ 4000) (hu : Up M r) (hp : ∀ x k' M', r = .ok (x, k', M') → k ≤ k') : Rel L1 n r (.ok (x1, n, M1)) := fun x k' M' e => by
  have h1 := hu _ _ _ e
  have h2 := hp _ _ _ e
  exact .inl ⟨x1, n, M1, rfl, ⟨h1.2 h4, .inr ⟨by omega, rfl, by omega⟩⟩, fun h => by omega⟩
theorem isW_same (hc : Cutt L L1 n) (h : k < n) (s : Bs) : isW L1 s k = isW L s k := by
  obtain ⟨a, b, _⟩ := hc.same k h
  unfold isW
  rw [a, b]
theorem isW_stop (hc : Cutt L L1 n) (s : Bs) : isW L1 s n = false := by
  unfold isW
  rw [hc.stop]
  rfl
theorem St.next (hs : St n k M k1 M1) (h : k < n) : St n (k + 1) M (k1 + 1) M1 := by
  obtain ⟨h4, ⟨_, rfl, rfl⟩ | ⟨h2, _⟩⟩ := hs
  · refine ⟨h4, ?_⟩
    by_cases e : k1 + 1 < n
    · exact .inl ⟨e, rfl, rfl⟩
    · exact .inr ⟨by omega, by omega, Nat.le_refl _⟩
  · omega
theorem must_rel (hc : Cutt L L1 n) (hs : St n k M k1 M1) (s : Bs) : Rel L1 n (must L s k M) (must L1 s k1 M1) := by
  by_cases hlt : k < n
  · have hs2 := hs.next hlt
    obtain ⟨h4, ⟨_, rfl, rfl⟩ | ⟨h2, _⟩⟩ := hs
    · unfold must failA
      rw [isW_same hc hlt]
      split
      · exact rel_ok hs2 fun _ => rfl
      · exact rel_err
    · omega
  · obtain ⟨h4, ⟨h2, _⟩ | ⟨_, rfl, hM⟩⟩ := hs
    · omega
    · rw [show must L1 s k1 M1 = .error ((now L1 k1).pos, 30) by unfold must failA; rw [isW_stop hc]; rfl]
      exact rel_end
theorem word_rel (hc : Cutt L L1 n) (hs : St n k M k1 M1) (s : Int) (h7 : s ≠ 7) : Rel L1 n (word L s k M) (word L1 s k1 M1) := by
  by_cases hlt : k < n
  · have hs2 := hs.next hlt
    obtain ⟨h4, ⟨_, rfl, rfl⟩ | ⟨h2, _⟩⟩ := hs
    · obtain ⟨a, b, _⟩ := hc.same k1 hlt
      unfold word failA
      rw [a, b]
      split
      · exact rel_ok hs2 fun _ => rfl
      · exact rel_err
    · omega
  · obtain ⟨h4, ⟨h2, _⟩ | ⟨_, rfl, hM⟩⟩ := hs
    · omega
    · rw [show word L1 s k1 M1 = .error ((now L1 k1).pos, 30) by unfold word failA; rw [if_neg (by rw [hc.stop]; exact fun e => h7 e.symm)]]
      exact rel_end
theorem fresh_rel (hc : Cutt L L1 n) (hs : St n k M k1 M1) {l l1 : List Bs} (hl : k < n → l1 = l) (s : Int) (h7 : s ≠ 7) : Rel L1 n (fresh L l s k M) (fresh L1 l1 s k1 M1) := by
  unfold fresh
  by_cases hlt : k < n
  · obtain rfl := hl hlt
    have hk : k1 = k := by
      obtain ⟨_, ⟨_, h, _⟩ | ⟨h, _⟩⟩ := hs
      · exact h
      · omega
    obtain ⟨a, b, _⟩ := hc.same k hlt
    rw [show now L1 k1 = now L1 k by rw [hk], a, b]
    split
    · exact rel_err
    · exact word_rel hc hs s h7
  · have hk : k1 = n := by
      obtain ⟨_, ⟨h, _⟩ | ⟨_, h, _⟩⟩ := hs
      · omega
      · exact h
    rw [if_neg (c := (now L1 k1).kind = s ∧ (now L1 k1).text ∈ l1) (fun h => by rw [hk, hc.stop] at h; exact h7 h.1.symm)]
    split
    · exact rel_err
    · exact word_rel hc hs s h7
theorem room_rel (hs : St n k M k1 M1) (a b : Int) : Rel L1 n (room L a b k M) (room L1 a b k1 M1) := by
  unfold room
  split
  · exact rel_err
  · exact rel_ok hs fun _ => rfl
theorem deep_rel (hs : St n k M k1 M1) {d d1 : Int} (hd : d1 ≤ d) : Rel L1 n (deep L d k M) (deep L1 d1 k1 M1) := by
  unfold deep
  split
  · exact rel_err
  · rw [if_neg (by omega)]
    exact rel_ok hs fun _ => rfl
theorem node_rel (hs : St n k M k1 M1) {x x1 : Nd} (hx : k < n → x1 = x) : Rel L1 n (node L x k M) (node L1 x1 k1 M1) := by
  unfold node
  split
  · exact rel_err
  · rename_i h
    obtain ⟨h4, hs⟩ := hs
    have h5 : M1.length ≤ M.length := by
      rcases hs with ⟨_, _, rfl⟩ | ⟨_, _, h⟩
      · exact Nat.le_refl _
      · exact h
    rw [if_neg (by omega)]
    refine rel_ok ⟨by rw [List.length_append]; show M.length + 1 ≤ 4000; omega, ?_⟩ fun hlt => ?_
    · rcases hs with ⟨h1, h2, rfl⟩ | ⟨h1, h2, h3⟩
      · rw [hx h1]
        exact .inl ⟨h1, h2, rfl⟩
      · exact .inr ⟨h1, h2, by rw [List.length_append, List.length_append]; exact Nat.add_le_add_right h3 1⟩
    · rcases hs with ⟨h1, h2, rfl⟩ | ⟨h1, h2, h3⟩
      · rfl
      · omega
end
end Go.Proofs.YtmgjmagniefhoaaGreatDoor.Tr

/- A text that ends behind some of its words: each rule, side by side. No program is walked here. -/
namespace Go.Proofs.YtmgjmagniefhoaaGreatDoor.Tr
open Lx (Bs Wd)
section
variable {L L1 : List Wd} {n : Nat}
structure Pre (L L1 : List Wd) (n f : Nat) : Prop where
  typ : ∀ {d k M k1 M1 g}, St n k M k1 M1 → 8 * (n - k) + 3 ≤ g → Rel L1 n (typF L f (d + 1) k M) (typF L1 g d k1 M1)
  alt : ∀ {d l l1 k M k1 M1 g}, St n k M k1 M1 → 8 * (n - k) + 1 ≤ g → l1.length = l.length → l.length ≠ 0 → (k < n → l1 = l) → Rel L1 n (altF L f (d + 1) l k M) (altF L1 g d l1 k1 M1)
  part : ∀ {d k M k1 M1 g}, St n k M k1 M1 → 8 * (n - k) + 1 ≤ g → Rel L1 n (partF L f (d + 1) k M) (partF L1 g d k1 M1)
  fields : ∀ {t d k M k1 M1 g}, St n k M k1 M1 → 8 * (n - k) + 4 ≤ g → Rel L1 n (fieldsF L f t (d + 1) k M) (fieldsF L1 g t d k1 M1)
  field : ∀ {t d ks ks1 l l1 k M k1 M1 g}, St n k M k1 M1 → 8 * (n - k) + 3 ≤ g → ks1.length = ks.length → (k < n → ks1 = ks ∧ l1 = l) → Rel L1 n (fieldF L f t (d + 1) ks l k M) (fieldF L1 g t d ks1 l1 k1 M1)
  list : ∀ {t d m l l1 k M k1 M1 g}, St n k M k1 M1 → 8 * (n - k) + 4 ≤ g → (k < n → l1 = l) → Rel L1 n (listF L f t (d + 1) m l k M) (listF L1 g t d m l1 k1 M1)
  expr : ∀ {d k M k1 M1 g}, St n k M k1 M1 → 8 * (n - k) + 3 ≤ g → Rel L1 n (exprF L f (d + 1) k M) (exprF L1 g d k1 M1)
  sum : ∀ {d m m1 k M k1 M1 g}, St n k M k1 M1 → d + 1 ≤ 60 → 8 * (n - k) + 1 ≤ g → (k < n → m1 = m) → Rel L1 n (sumF L f (d + 1) m k M) (sumF L1 g d m1 k1 M1)
  prim : ∀ {d k M k1 M1 g}, St n k M k1 M1 → d + 1 ≤ 60 → 8 * (n - k) + 2 ≤ g → Rel L1 n (primF L f (d + 1) k M) (primF L1 g d k1 M1)
  dot : ∀ {m m1 k M k1 M1 g}, St n k M k1 M1 → 8 * (n - k) + 1 ≤ g → (k < n → m1 = m) → Rel L1 n (dotF L f m k M) (dotF L1 g m1 k1 M1)
  atom : ∀ {d k M k1 M1 g}, St n k M k1 M1 → d + 1 ≤ 60 → 8 * (n - k) + 1 ≤ g → Rel L1 n (atomF L f (d + 1) k M) (atomF L1 g d k1 M1)
  named : ∀ {d s s1 k M k1 M1 g}, St n k M k1 M1 → d + 1 ≤ 60 → 8 * (n - k) + 3 ≤ g → (k < n → s1 = s) → Rel L1 n (namedF L f (d + 1) s k M) (namedF L1 g d s1 k1 M1)
  call : ∀ {d m m1 s s1 k M k1 M1 g}, St n k M k1 M1 → d + 1 ≤ 60 → 8 * (n - k) + 2 ≤ g → (k < n → m1 = m ∧ s1 = s) → Rel L1 n (callF L f (d + 1) m s k M) (callF L1 g d m1 s1 k1 M1)
theorem pre_zero : Pre L L1 n 0 := by
  constructor <;> intros <;> first | (rw [typF]; exact rel_err) | (rw [altF]; exact rel_err) | (rw [partF]; exact rel_err) | (rw [fieldsF]; exact rel_err) | (rw [fieldF]; exact rel_err) | (rw [listF]; exact rel_err) | (rw [exprF]; exact rel_err) | (rw [sumF]; exact rel_err) | (rw [primF]; exact rel_err) | (rw [dotF]; exact rel_err) | (rw [atomF]; exact rel_err) | (rw [namedF]; exact rel_err) | (rw [callF]; exact rel_err)
variable (hc : Cutt L L1 n)
include hc
theorem end_part {g : Nat} {d : Int} {M : List Nd} : partF L1 (g + 1) d n M = .error ((now L1 n).pos, 30) := by
  rw [partF]
  rw [if_neg (fun h => by rw [hc.stop] at h; exact absurd h.1 (by decide)), if_neg (fun h => by rw [hc.stop] at h; exact absurd h (by decide)), if_neg (fun h => by rw [hc.stop] at h; exact absurd h (by decide)), if_neg (fun h => by rw [hc.stop] at h; exact absurd h (by decide)), if_neg (by rw [isW_stop hc]; decide), if_neg (by rw [isW_stop hc]; decide)]
  rfl
theorem end_atom {g : Nat} {d : Int} {M : List Nd} : atomF L1 (g + 1) d n M = .error ((now L1 n).pos, 30) := by
  rw [atomF]
  rw [if_neg (fun h => by rw [hc.stop] at h; exact absurd h.1 (by decide)), if_neg (fun h => by rw [hc.stop] at h; exact absurd h (by decide)), if_neg (fun h => by rw [hc.stop] at h; exact absurd h (by decide)), if_neg (fun h => by rw [hc.stop] at h; exact absurd h (by decide)), if_neg (by rw [isW_stop hc]; decide), if_neg (by rw [isW_stop hc]; decide)]
  rfl
theorem end_prim {g : Nat} {d : Int} {M : List Nd} : primF L1 (g + 2) d n M = .error ((now L1 n).pos, 30) := by
  rw [primF, end_atom hc]
  rfl
theorem end_expr {g : Nat} {d : Int} {M : List Nd} (hd : d ≤ 60) : exprF L1 (g + 3) d n M = .error ((now L1 n).pos, 30) := by
  rw [exprF, show deep L1 d n M = .ok ((), n, M) from if_neg (by omega)]
  show (if isW L1 [108, 101, 116] n = true then _ else if isW L1 [105, 102] n = true then _ else bind (primF L1 (g + 2) d n M) _) = _
  rw [if_neg (by rw [isW_stop hc]; decide), if_neg (by rw [isW_stop hc]; decide), end_prim hc]
  rfl
theorem end_field {g : Nat} {t : Bool} {d : Int} {M : List Nd} : fieldF L1 (g + 1) t d [] [] n M = .error ((now L1 n).pos, 30) := by
  rw [fieldF, show room L1 (([] : List Bs).length : Int) 16 n M = .ok ((), n, M) from if_neg (by simp)]
  show bind (fresh L1 [] 1 n M) _ = _
  rw [show fresh L1 [] 1 n M = .error ((now L1 n).pos, 30) by
    unfold fresh word failA
    rw [if_neg (fun h => by rw [hc.stop] at h; exact absurd h.1 (by decide)), if_neg (fun h => by rw [hc.stop] at h; exact absurd h (by decide))]]
  rfl
theorem end_fields {g : Nat} {t : Bool} {d : Int} {M : List Nd} : fieldsF L1 (g + 2) t d n M = .error ((now L1 n).pos, 30) := by
  rw [fieldsF, if_neg (by rw [isW_stop hc]; decide), end_field hc]
  rfl
theorem end_call {g : Nat} {d : Int} {m s : Bs} {M : List Nd} : callF L1 (g + 1) d m s n M = .error ((now L1 n).pos, 30) := by
  rw [callF, if_neg (by rw [isW_stop hc]; decide)]
  show bind (must L1 [40] n M) _ = _
  rw [show must L1 [40] n M = .error ((now L1 n).pos, 30) by unfold must failA; rw [isW_stop hc]; rfl]
  rfl
variable {f : Nat} (P : Pre L L1 n f)
include P
omit hc in
theorem pre_typ {d k M k1 M1 g} (hs : St n k M k1 M1) (hg : 8 * (n - k) + 3 ≤ g) : Rel L1 n (typF L (f + 1) (d + 1) k M) (typF L1 g d k1 M1) := by
  obtain ⟨g, rfl⟩ : ∃ h, g = h + 1 := ⟨g - 1, by omega⟩
  unfold typF
  refine rel_bind (deep_rel hs (by omega)) fun _ k2 M2 _ k3 M3 h2 hs2 _ => ?_
  obtain ⟨rfl, rfl⟩ := deep_ok h2
  refine rel_bind (P.part hs2 (by omega)) fun x k4 M4 x1 k5 M5 h4 hs4 hx => ?_
  have := (prog f).part h4
  exact P.alt hs4 (by omega) rfl (by simp) fun h => by rw [hx h]
theorem pre_alt {d l l1 k M k1 M1 g} (hs : St n k M k1 M1) (hg : 8 * (n - k) + 1 ≤ g) (hl : l1.length = l.length) (h0 : l.length ≠ 0) (hx : k < n → l1 = l) : Rel L1 n (altF L (f + 1) (d + 1) l k M) (altF L1 g d l1 k1 M1) := by
  obtain ⟨g, rfl⟩ : ∃ h, g = h + 1 := ⟨g - 1, by omega⟩
  by_cases hlt : k < n
  · have hs1 := hs.next hlt
    have hs0 := hs
    obtain ⟨h4, ⟨_, rfl, rfl⟩ | ⟨h2, _⟩⟩ := hs
    · obtain rfl := hx hlt
      unfold altF
      rw [isW_same hc hlt]
      split
      · refine rel_bind (room_rel hs1 _ _) fun _ k2 M2 _ k3 M3 h2 hs2 _ => ?_
        obtain ⟨rfl, rfl⟩ := room_ok h2
        refine rel_bind (P.part hs2 (by omega)) fun x k4 M4 x1 k5 M5 h4 hs4 hx => ?_
        have := (prog f).part h4
        exact P.alt hs4 (by omega) (by rw [List.length_append, List.length_append]; rfl) (by rw [List.length_append]; show _ + 1 ≠ 0; omega) fun h => by rw [hx h]
      · split
        · exact rel_ok hs0 fun _ => rfl
        · exact node_rel hs0 fun _ => rfl
    · omega
  · obtain ⟨h4, ⟨h2, _⟩ | ⟨hge, rfl, hM⟩⟩ := hs
    · omega
    · rw [show altF L1 (g + 1) d l1 k1 M1 = if l1.length = 1 then .ok (l1.getD 0 0, k1, M1) else node L1 ⟨8, 0, [], [], [], l1⟩ k1 M1 by rw [altF, isW_stop hc]; rfl]
      by_cases hl1 : l1.length = 1
      · rw [if_pos hl1]
        exact rel_stop hge hM h4 ((ups (f + 1)).alt _ _ _ _) fun _ _ _ h => (prog (f + 1)).alt h
      · rw [if_neg hl1]
        intro x k' M' e
        have hu := up1_alt (f + 1) h0 (by omega) _ _ _ e
        have hp := (prog (f + 1)).alt e
        have h5 := hu.2 h4
        unfold node
        rw [if_neg (by omega)]
        exact .inl ⟨_, _, _, rfl, ⟨h5, .inr ⟨by omega, rfl, by rw [List.length_append]; show M1.length + 1 ≤ _; omega⟩⟩, fun h => by omega⟩
theorem pre_part {d k M k1 M1 g} (hs : St n k M k1 M1) (hg : 8 * (n - k) + 1 ≤ g) : Rel L1 n (partF L (f + 1) (d + 1) k M) (partF L1 g d k1 M1) := by
  obtain ⟨g, rfl⟩ : ∃ h, g = h + 1 := ⟨g - 1, by omega⟩
  by_cases hlt : k < n
  · have hs1 := hs.next hlt
    obtain ⟨h4, ⟨_, rfl, rfl⟩ | ⟨h2, _⟩⟩ := hs
    · obtain ⟨a, b, _⟩ := hc.same k1 hlt
      unfold partF
      dsimp only
      rw [a, b, isW_same hc hlt, isW_same hc hlt]
      by_cases c1 : (now L k1).kind = 5 ∧ plainT (now L k1).text ≠ 0
      · simp only [if_pos c1]
        exact node_rel hs1 fun _ => rfl
      · simp only [if_neg c1]
        by_cases c2 : (now L k1).kind = 4
        · simp only [if_pos c2]
          exact node_rel hs1 fun _ => rfl
        · simp only [if_neg c2]
          by_cases c3 : (now L k1).kind = 2
          · simp only [if_pos c3]
            exact node_rel hs1 fun _ => rfl
          · simp only [if_neg c3]
            by_cases c4 : (now L k1).kind = 1
            · simp only [if_pos c4]
              refine rel_bind (must_rel hc hs1 _) fun _ k2 M2 _ k3 M3 h2 hs2 _ => ?_
              refine rel_bind (word_rel hc hs2 _ (by decide)) fun x k4 M4 x1 k5 M5 h4 hs4 hx => ?_
              exact node_rel hs4 fun h => by rw [hx h]
            · simp only [if_neg c4]
              by_cases c5 : isW L [123] k1 = true
              · simp only [if_pos c5]
                exact P.fields hs1 (by omega)
              · simp only [if_neg c5]
                by_cases c6 : isW L [40] k1 = true
                · simp only [if_pos c6]
                  refine rel_bind (P.typ hs1 (by omega)) fun x k2 M2 x1 k3 M3 h2 hs2 hx => ?_
                  refine rel_bind (must_rel hc hs2 _) fun _ k4 M4 _ k5 M5 h4 hs4 _ => ?_
                  have := (must_ok h4).1
                  exact rel_ok hs4 fun h => hx (by omega)
                · simp only [if_neg c6]
                  exact rel_err
    · omega
  · obtain ⟨h4, ⟨h2, _⟩ | ⟨hge, rfl, hM⟩⟩ := hs
    · omega
    · rw [end_part hc]
      exact rel_end
theorem pre_fields {t d k M k1 M1 g} (hs : St n k M k1 M1) (hg : 8 * (n - k) + 4 ≤ g) : Rel L1 n (fieldsF L (f + 1) t (d + 1) k M) (fieldsF L1 g t d k1 M1) := by
  obtain ⟨g, rfl⟩ : ∃ h, g = h + 2 := ⟨g - 2, by omega⟩
  by_cases hlt : k < n
  · have hs1 := hs.next hlt
    have hs0 := hs
    obtain ⟨h4, ⟨_, rfl, rfl⟩ | ⟨h2, _⟩⟩ := hs
    · unfold fieldsF
      rw [isW_same hc hlt]
      split
      · exact node_rel hs1 fun _ => rfl
      · refine rel_bind (P.field hs0 (by omega) rfl fun _ => ⟨rfl, rfl⟩) fun x k2 M2 x1 k3 M3 h2 hs2 hx => ?_
        refine rel_bind (must_rel hc hs2 _) fun _ k4 M4 _ k5 M5 h4 hs4 _ => ?_
        have := (must_ok h4).1
        exact node_rel hs4 fun h => by rw [hx (by omega)]
    · omega
  · obtain ⟨h4, ⟨h2, _⟩ | ⟨hge, rfl, hM⟩⟩ := hs
    · omega
    · rw [end_fields hc]
      exact rel_end
theorem pre_field {t d ks ks1 l l1 k M k1 M1 g} (hs : St n k M k1 M1) (hg : 8 * (n - k) + 3 ≤ g) (hl : ks1.length = ks.length) (hx : k < n → ks1 = ks ∧ l1 = l) : Rel L1 n (fieldF L (f + 1) t (d + 1) ks l k M) (fieldF L1 g t d ks1 l1 k1 M1) := by
  obtain ⟨g, rfl⟩ : ∃ h, g = h + 1 := ⟨g - 1, by omega⟩
  unfold fieldF
  rw [hl]
  refine rel_bind (room_rel hs _ _) fun _ k2 M2 _ k3 M3 h2 hs2 _ => ?_
  obtain ⟨rfl, rfl⟩ := room_ok h2
  refine rel_bind (fresh_rel hc hs2 (fun h => (hx h).1) _ (by decide)) fun s k4 M4 s1 k5 M5 h4 hs4 hs41 => ?_
  obtain ⟨rfl, rfl⟩ := fresh_ok h4
  by_cases hlt : k2 < n
  · refine rel_bind (must_rel hc hs4 _) fun _ k6 M6 _ k7 M7 h6 hs6 _ => ?_
    obtain ⟨rfl, rfl⟩ := must_ok h6
    refine rel_bind (r := if t = true then typF L f (d + 1 + 1) (k2 + 1 + 1) M6 else exprF L f (d + 1 + 1) (k2 + 1 + 1) M6) (r1 := if t = true then typF L1 g (d + 1) k7 M7 else exprF L1 g (d + 1) k7 M7) ?_ fun y k8 M8 y1 k9 M9 h8 hs8 hy => ?_
    · split
      · exact P.typ hs6 (by omega)
      · exact P.expr hs6 (by omega)
    · have h9 : k2 + 1 + 1 < k8 := by
        split at h8
        · exact (prog f).typ h8
        · exact (prog f).expr h8
      by_cases hlt8 : k8 < n
      · have hs9 := hs8.next hlt8
        have e8 : k9 = k8 := by
          obtain ⟨_, ⟨_, h, _⟩ | ⟨h, _⟩⟩ := hs8
          · exact h
          · omega
        obtain ⟨rfl, rfl⟩ := hx hlt
        obtain rfl := hy hlt8
        obtain rfl := hs41 (by omega)
        subst e8
        rw [isW_same hc hlt8]
        split
        · exact P.field hs9 (by omega) rfl fun _ => ⟨rfl, rfl⟩
        · exact rel_ok hs8 fun _ => rfl
      · obtain ⟨h4, ⟨h2, _⟩ | ⟨hge, rfl, hM⟩⟩ := hs8
        · omega
        · rw [isW_stop hc]
          rw [if_neg (c := false = true) (by decide)]
          refine rel_stop (k := k8) hge hM h4 ?_ ?_
          · split
            · exact (ups f).field _ _ _ _ _ _
            · exact up_ok
          · intro x k' M' e
            split at e
            · have := (prog f).field e; omega
            · have := (ok_inj e).2.1; omega
  · rw [show k5 = n by
      obtain ⟨_, ⟨h, _⟩ | ⟨_, h, _⟩⟩ := hs4
      · omega
      · exact h]
    rw [show must L1 [58] n M5 = .error ((now L1 n).pos, 30) by unfold must failA; rw [isW_stop hc]; rfl]
    exact fun x k M e => .inr rfl
theorem pre_list {t d m l l1 k M k1 M1 g} (hs : St n k M k1 M1) (hg : 8 * (n - k) + 4 ≤ g) (hx : k < n → l1 = l) : Rel L1 n (listF L (f + 1) t (d + 1) m l k M) (listF L1 g t d m l1 k1 M1) := by
  obtain ⟨g, rfl⟩ : ∃ h, g = h + 1 := ⟨g - 1, by omega⟩
  unfold listF
  refine rel_bind (room_rel hs _ _) fun _ k2 M2 _ k3 M3 h2 hs2 _ => ?_
  obtain ⟨rfl, rfl⟩ := room_ok h2
  refine rel_bind (r := if t = true then typF L f (d + 1 + 1) k2 M2 else exprF L f (d + 1 + 1) k2 M2) (r1 := if t = true then typF L1 g (d + 1) k3 M3 else exprF L1 g (d + 1) k3 M3) ?_ fun y k8 M8 y1 k9 M9 h8 hs8 hy => ?_
  · split
    · exact P.typ hs2 (by omega)
    · exact P.expr hs2 (by omega)
  · have h9 : k2 < k8 := by
      split at h8
      · exact (prog f).typ h8
      · exact (prog f).expr h8
    by_cases hlt8 : k8 < n
    · have hs9 := hs8.next hlt8
      have e8 : k9 = k8 := by
        obtain ⟨_, ⟨_, h, _⟩ | ⟨h, _⟩⟩ := hs8
        · exact h
        · omega
      obtain rfl := hx (by omega)
      obtain rfl := hy hlt8
      subst e8
      rw [isW_same hc hlt8]
      split
      · exact P.list hs9 (by omega) fun _ => rfl
      · exact rel_ok hs8 fun _ => rfl
    · obtain ⟨h4, ⟨h2, _⟩ | ⟨hge, rfl, hM⟩⟩ := hs8
      · omega
      · rw [isW_stop hc]
        rw [if_neg (c := false = true) (by decide)]
        refine rel_stop (k := k8) hge hM h4 ?_ ?_
        · split
          · exact (ups f).list _ _ _ _ _ _
          · exact up_ok
        · intro x k' M' e
          split at e
          · have := (prog f).list e; omega
          · have := (ok_inj e).2.1; omega
end
end Go.Proofs.YtmgjmagniefhoaaGreatDoor.Tr

/- A text that ends behind some of its words: expressions, side by side. No program is walked here. -/
namespace Go.Proofs.YtmgjmagniefhoaaGreatDoor.Tr
open Lx (Bs Wd)
section
variable {L L1 : List Wd} {n : Nat} (hc : Cutt L L1 n)
include hc
theorem end_list {g : Nat} {d : Int} {l : List Int} {M : List Nd} (hd : d + 1 ≤ 60) : listF L1 (g + 4) false d 0 l n M = .error ((now L1 n).pos, 30) := by
  rw [listF, show room L1 ((0 : Nat) : Int) 16 n M = .ok ((), n, M) from if_neg (by decide)]
  show bind (if false = true then typF L1 (g + 3) (d + 1) n M else exprF L1 (g + 3) (d + 1) n M) _ = _
  rw [if_neg (by decide), end_expr hc hd]
  rfl
theorem shape_rel {x : Int} {k : Nat} {M : List Nd} (hs : St n k M k M) (hlt : k < n) : Rel L1 n (shapeF L x k M) (shapeF L1 x k M) := by
  unfold shapeF
  dsimp only
  by_cases c0 : (M.getD x.toNat (leaf 0 [])).kind ≠ 16 ∧ ((M.getD x.toNat (leaf 0 [])).kind ≠ 18 ∨ (M.getD ((M.getD x.toNat (leaf 0 [])).l.getD 0 0).toNat (leaf 0 [])).kind ≠ 16)
  · simp only [if_pos c0]
    unfold failA
    exact rel_err
  · simp only [if_neg c0]
    by_cases h1 : k + 1 < n
    · obtain ⟨a, b, _⟩ := hc.same (k + 1) h1
      rw [a, b]
      have hs2 := (hs.next hlt).next h1
      by_cases c1 : (now L (k + 1)).kind = 4
      · simp only [if_pos c1]
        exact node_rel hs2 fun _ => rfl
      · simp only [if_neg c1]
        split
        · exact node_rel hs2 fun _ => rfl
        · unfold failA
          exact rel_err
    · obtain rfl : n = k + 1 := by omega
      rw [if_neg (c := (now L1 (k + 1)).kind = 4) (fun h => by rw [hc.stop] at h; exact absurd h (by decide)), if_neg (c := (now L1 (k + 1)).kind = 5 ∧ _) (fun h => by rw [hc.stop] at h; exact absurd h.1 (by decide))]
      exact fun _ _ _ _ => .inr rfl
variable {f : Nat} (P : Pre L L1 n f)
include P
theorem pre_expr {d k M k1 M1 g} (hs : St n k M k1 M1) (hg : 8 * (n - k) + 3 ≤ g) : Rel L1 n (exprF L (f + 1) (d + 1) k M) (exprF L1 g d k1 M1) := by
  obtain ⟨g, rfl⟩ : ∃ h, g = h + 3 := ⟨g - 3, by omega⟩
  intro x k' M' e
  have hd : d + 1 ≤ 60 := by
    unfold exprF at e
    obtain ⟨_, _, _, h1, _⟩ := bind_ok e
    unfold deep failA at h1
    split at h1
    · cases h1
    · omega
  revert e
  by_cases hlt : k < n
  · have hs1 := hs.next hlt
    have hs0 := hs
    obtain ⟨h4, ⟨_, rfl, rfl⟩ | ⟨h2, _⟩⟩ := hs
    · unfold exprF
      revert x k' M'
      show Rel L1 n _ _
      refine rel_bind (deep_rel hs0 (by omega)) fun _ k2 M2 _ k3 M3 h2 hs2 _ => ?_
      obtain ⟨rfl, rfl⟩ := deep_ok h2
      have e3 : k3 = k2 ∧ M3 = M2 := by
        obtain ⟨_, ⟨_, h, h'⟩ | ⟨h, _⟩⟩ := hs2
        · exact ⟨h, h'⟩
        · omega
      obtain ⟨rfl, rfl⟩ := e3
      rw [isW_same hc hlt, isW_same hc hlt]
      split
      · refine rel_bind (word_rel hc hs1 _ (by decide)) fun s k4 M4 s1 k5 M5 h4 hs4 hs41 => ?_
        obtain ⟨rfl, rfl⟩ := word_ok h4
        refine rel_bind (must_rel hc hs4 _) fun _ k6 M6 _ k7 M7 h6 hs6 _ => ?_
        obtain ⟨rfl, rfl⟩ := must_ok h6
        refine rel_bind (P.expr hs6 (by omega)) fun a k8 M8 a1 k9 M9 h8 hs8 ha => ?_
        have p8 := (prog f).expr h8
        refine rel_bind (must_rel hc hs8 _) fun _ k10 M10 _ k11 M11 h10 hs10 _ => ?_
        obtain ⟨rfl, rfl⟩ := must_ok h10
        refine rel_bind (P.expr hs10 (by omega)) fun b k12 M12 b1 k13 M13 h12 hs12 hb => ?_
        have p12 := (prog f).expr h12
        exact node_rel hs12 fun h => by rw [hs41 (by omega), ha (by omega), hb h]
      · split
        · refine rel_bind (P.expr hs1 (by omega)) fun a k8 M8 a1 k9 M9 h8 hs8 ha => ?_
          have p8 := (prog f).expr h8
          refine rel_bind (must_rel hc hs8 _) fun _ k10 M10 _ k11 M11 h10 hs10 _ => ?_
          obtain ⟨rfl, rfl⟩ := must_ok h10
          refine rel_bind (P.expr hs10 (by omega)) fun b k12 M12 b1 k13 M13 h12 hs12 hb => ?_
          have p12 := (prog f).expr h12
          refine rel_bind (must_rel hc hs12 _) fun _ k14 M14 _ k15 M15 h14 hs14 _ => ?_
          obtain ⟨rfl, rfl⟩ := must_ok h14
          refine rel_bind (P.expr hs14 (by omega)) fun c k16 M16 c1 k17 M17 h16 hs16 hcx => ?_
          have p16 := (prog f).expr h16
          exact node_rel hs16 fun h => by rw [ha (by omega), hb (by omega), hcx h]
        · refine rel_bind (P.prim hs2 hd (by omega)) fun a k8 M8 a1 k9 M9 h8 hs8 ha => ?_
          have p8 := (prog f).prim h8
          refine rel_bind (P.sum hs8 hd (by omega) ha) fun b k10 M10 b1 k11 M11 h10 hs10 hb => ?_
          have p10 := (prog f).sum h10
          by_cases h11 : k10 < n
          · have hs11 := hs10
            obtain ⟨_, ⟨_, rfl, rfl⟩ | ⟨h, _⟩⟩ := hs10
            · obtain rfl := hb h11
              rw [isW_same hc h11]
              split
              · exact shape_rel hc hs11 h11
              · exact rel_ok hs11 fun _ => rfl
            · omega
          · obtain ⟨h4, ⟨h2, _⟩ | ⟨hge, rfl, hM⟩⟩ := hs10
            · omega
            · rw [isW_stop hc, if_neg (c := false = true) (by decide)]
              refine rel_stop (k := k10) hge hM h4 ?_ ?_
              · split
                · exact up_shape
                · exact up_ok
              · intro x k' M' e
                split at e
                · have := shape_ok e; omega
                · have := (ok_inj e).2.1; omega
    · omega
  · obtain ⟨h4, ⟨h2, _⟩ | ⟨hge, rfl, hM⟩⟩ := hs
    · omega
    · intro _
      exact .inr (end_expr hc (by omega))
theorem pre_sum {d m m1 k M k1 M1 g} (hs : St n k M k1 M1) (hd : d + 1 ≤ 60) (hg : 8 * (n - k) + 1 ≤ g) (hx : k < n → m1 = m) : Rel L1 n (sumF L (f + 1) (d + 1) m k M) (sumF L1 g d m1 k1 M1) := by
  obtain ⟨g, rfl⟩ : ∃ h, g = h + 1 := ⟨g - 1, by omega⟩
  by_cases hlt : k < n
  · have hs1 := hs.next hlt
    have hs0 := hs
    obtain ⟨h4, ⟨_, rfl, rfl⟩ | ⟨h2, _⟩⟩ := hs
    · obtain rfl := hx hlt
      obtain ⟨_, b, _⟩ := hc.same k1 hlt
      unfold sumF
      rw [isW_same hc hlt, isW_same hc hlt, isW_same hc hlt, b]
      split
      · refine rel_bind (P.prim hs1 hd (by omega)) fun a k8 M8 a1 k9 M9 h8 hs8 ha => ?_
        have p8 := (prog f).prim h8
        refine rel_bind (node_rel hs8 fun h => by rw [ha h]) fun b k10 M10 b1 k11 M11 h10 hs10 hb => ?_
        obtain ⟨rfl, _, _⟩ := node_ok h10
        exact P.sum hs10 hd (by omega) hb
      · exact rel_ok hs0 fun _ => rfl
    · omega
  · obtain ⟨h4, ⟨h2, _⟩ | ⟨hge, rfl, hM⟩⟩ := hs
    · omega
    · rw [show sumF L1 (g + 1) d m1 k1 M1 = .ok (m1, k1, M1) by rw [sumF, isW_stop hc, isW_stop hc, isW_stop hc]; rfl]
      exact rel_stop (k := k) hge hM h4 ((ups (f + 1)).sum _ _ _ _) fun _ _ _ h => (prog (f + 1)).sum h
omit hc in
theorem pre_prim {d k M k1 M1 g} (hs : St n k M k1 M1) (hd : d + 1 ≤ 60) (hg : 8 * (n - k) + 2 ≤ g) : Rel L1 n (primF L (f + 1) (d + 1) k M) (primF L1 g d k1 M1) := by
  obtain ⟨g, rfl⟩ : ∃ h, g = h + 1 := ⟨g - 1, by omega⟩
  unfold primF
  refine rel_bind (P.atom hs hd (by omega)) fun a k8 M8 a1 k9 M9 h8 hs8 ha => ?_
  have p8 := (prog f).atom h8
  exact P.dot hs8 (by omega) ha
theorem pre_dot {m m1 k M k1 M1 g} (hs : St n k M k1 M1) (hg : 8 * (n - k) + 1 ≤ g) (hx : k < n → m1 = m) : Rel L1 n (dotF L (f + 1) m k M) (dotF L1 g m1 k1 M1) := by
  obtain ⟨g, rfl⟩ : ∃ h, g = h + 1 := ⟨g - 1, by omega⟩
  by_cases hlt : k < n
  · have hs1 := hs.next hlt
    have hs0 := hs
    obtain ⟨h4, ⟨_, rfl, rfl⟩ | ⟨h2, _⟩⟩ := hs
    · obtain rfl := hx hlt
      unfold dotF
      rw [isW_same hc hlt]
      split
      · refine rel_bind (word_rel hc hs1 _ (by decide)) fun s k4 M4 s1 k5 M5 h4 hs4 hs41 => ?_
        obtain ⟨rfl, rfl⟩ := word_ok h4
        refine rel_bind (node_rel hs4 fun h => by rw [hs41 h]) fun b k10 M10 b1 k11 M11 h10 hs10 hb => ?_
        obtain ⟨rfl, _, _⟩ := node_ok h10
        exact P.dot hs10 (by omega) hb
      · exact rel_ok hs0 fun _ => rfl
    · omega
  · obtain ⟨h4, ⟨h2, _⟩ | ⟨hge, rfl, hM⟩⟩ := hs
    · omega
    · rw [show dotF L1 (g + 1) m1 k1 M1 = .ok (m1, k1, M1) by rw [dotF, isW_stop hc]; rfl]
      exact rel_stop (k := k) hge hM h4 ((ups (f + 1)).dot _ _ _) fun _ _ _ h => (prog (f + 1)).dot h
theorem pre_atom {d k M k1 M1 g} (hs : St n k M k1 M1) (hd : d + 1 ≤ 60) (hg : 8 * (n - k) + 1 ≤ g) : Rel L1 n (atomF L (f + 1) (d + 1) k M) (atomF L1 g d k1 M1) := by
  obtain ⟨g, rfl⟩ : ∃ h, g = h + 1 := ⟨g - 1, by omega⟩
  by_cases hlt : k < n
  · have hs1 := hs.next hlt
    obtain ⟨h4, ⟨_, rfl, rfl⟩ | ⟨h2, _⟩⟩ := hs
    · obtain ⟨a, b, c⟩ := hc.same k1 hlt
      unfold atomF
      dsimp only
      rw [a, b, c, isW_same hc hlt, isW_same hc hlt]
      by_cases c1 : (now L k1).kind = 5 ∧ plainE (now L k1).text ≠ 0
      · simp only [if_pos c1]
        exact node_rel hs1 fun _ => rfl
      · simp only [if_neg c1]
        by_cases c2 : (now L k1).kind = 3
        · simp only [if_pos c2]
          exact node_rel hs1 fun _ => rfl
        · simp only [if_neg c2]
          by_cases c3 : (now L k1).kind = 4
          · simp only [if_pos c3]
            exact node_rel hs1 fun _ => rfl
          · simp only [if_neg c3]
            by_cases c4 : (now L k1).kind = 1
            · simp only [if_pos c4]
              exact P.named hs1 hd (by omega) fun _ => rfl
            · simp only [if_neg c4]
              by_cases c5 : isW L [123] k1 = true
              · simp only [if_pos c5]
                exact P.fields hs1 (by omega)
              · simp only [if_neg c5]
                by_cases c6 : isW L [40] k1 = true
                · simp only [if_pos c6]
                  refine rel_bind (P.expr hs1 (by omega)) fun x k2 M2 x1 k3 M3 h2 hs2 hx => ?_
                  have p2 := (prog f).expr h2
                  by_cases h11 : k2 < n
                  · have hs3 := hs2.next h11
                    have hs20 := hs2
                    obtain ⟨_, ⟨_, rfl, rfl⟩ | ⟨h, _⟩⟩ := hs2
                    · obtain rfl := hx h11
                      rw [isW_same hc h11]
                      split
                      · refine rel_bind (P.typ hs3 (by omega)) fun y k4 M4 y1 k5 M5 h4 hs4 hy => ?_
                        refine rel_bind (must_rel hc hs4 _) fun _ k6 M6 _ k7 M7 h6 hs6 _ => ?_
                        obtain ⟨rfl, rfl⟩ := must_ok h6
                        exact node_rel hs6 fun h => by rw [hy (by omega)]
                      · refine rel_bind (must_rel hc hs20 _) fun _ k6 M6 _ k7 M7 h6 hs6 _ => ?_
                        exact rel_ok hs6 fun _ => rfl
                    · omega
                  · obtain ⟨_, ⟨h, _⟩ | ⟨hge, rfl, hM⟩⟩ := hs2
                    · omega
                    · rw [isW_stop hc, if_neg (c := false = true) (by decide), show must L1 [41] k3 M3 = .error ((now L1 k3).pos, 30) by unfold must failA; rw [isW_stop hc]; rfl]
                      exact fun _ _ _ _ => .inr rfl
                · simp only [if_neg c6]
                  exact rel_err
    · omega
  · obtain ⟨h4, ⟨h2, _⟩ | ⟨hge, rfl, hM⟩⟩ := hs
    · omega
    · rw [end_atom hc]
      exact rel_end
theorem pre_named {d s s1 k M k1 M1 g} (hs : St n k M k1 M1) (hd : d + 1 ≤ 60) (hg : 8 * (n - k) + 3 ≤ g) (hx : k < n → s1 = s) : Rel L1 n (namedF L (f + 1) (d + 1) s k M) (namedF L1 g d s1 k1 M1) := by
  obtain ⟨g, rfl⟩ : ∃ h, g = h + 1 := ⟨g - 1, by omega⟩
  by_cases hlt : k < n
  · have hs1 := hs.next hlt
    have hs0 := hs
    obtain ⟨h4, ⟨_, rfl, rfl⟩ | ⟨h2, _⟩⟩ := hs
    · obtain rfl := hx hlt
      unfold namedF
      rw [isW_same hc hlt, isW_same hc hlt, isW_same hc hlt]
      split
      · refine rel_bind (word_rel hc hs1 _ (by decide)) fun s k4 M4 s1 k5 M5 h4 hs4 hs41 => ?_
        obtain ⟨rfl, rfl⟩ := word_ok h4
        exact P.call hs4 hd (by omega) fun h => ⟨rfl, hs41 h⟩
      · split
        · exact P.call hs0 hd (by omega) fun _ => ⟨rfl, rfl⟩
        · exact node_rel hs0 fun _ => rfl
    · omega
  · obtain ⟨h4, ⟨h2, _⟩ | ⟨hge, rfl, hM⟩⟩ := hs
    · omega
    · rw [show namedF L1 (g + 1) d s1 k1 M1 = node L1 (leaf 16 s1) k1 M1 by rw [namedF, isW_stop hc, isW_stop hc, isW_stop hc]; rfl]
      intro x k' M' e
      have hu := up1_named (f + 1) _ _ _ e
      have hp := (prog (f + 1)).named e
      have h5 := hu.2 h4
      unfold node
      rw [if_neg (by omega)]
      exact .inl ⟨_, _, _, rfl, ⟨h5, .inr ⟨by omega, rfl, by rw [List.length_append]; show M1.length + 1 ≤ _; omega⟩⟩, fun h => by omega⟩
theorem pre_call {d m m1 s s1 k M k1 M1 g} (hs : St n k M k1 M1) (hd : d + 1 ≤ 60) (hg : 8 * (n - k) + 2 ≤ g) (hx : k < n → m1 = m ∧ s1 = s) : Rel L1 n (callF L (f + 1) (d + 1) m s k M) (callF L1 g d m1 s1 k1 M1) := by
  obtain ⟨g, rfl⟩ : ∃ h, g = h + 1 := ⟨g - 1, by omega⟩
  by_cases hlt : k < n
  · have hs1 := hs.next hlt
    have hs0 := hs
    obtain ⟨h4, ⟨_, rfl, rfl⟩ | ⟨h2, _⟩⟩ := hs
    · obtain ⟨rfl, rfl⟩ := hx hlt
      unfold callF
      rw [isW_same hc hlt]
      refine rel_bind (r := if isW L [91] k1 = true then bind (listF L f true (d + 1) 0 [] (k1 + 1) M1) fun l k M => bind (must L [93] k M) fun _ k M => .ok (l, k, M) else .ok ([], k1, M1)) (r1 := if isW L [91] k1 = true then bind (listF L1 g true d 0 [] (k1 + 1) M1) fun l k M => bind (must L1 [93] k M) fun _ k M => .ok (l, k, M) else .ok ([], k1, M1)) ?_ fun ts k2 M2 ts1 k3 M3 h2 hs2 hts => ?_
      · split
        · refine rel_bind (P.list hs1 (by omega) fun _ => rfl) fun y k4 M4 y1 k5 M5 h4 hs4 hy => ?_
          refine rel_bind (must_rel hc hs4 _) fun _ k6 M6 _ k7 M7 h6 hs6 _ => ?_
          obtain ⟨rfl, rfl⟩ := must_ok h6
          exact rel_ok hs6 fun h => hy (by omega)
        · exact rel_ok hs0 fun _ => rfl
      · have p2 : k1 ≤ k2 := by
          split at h2
          · obtain ⟨y, k4, M4, h5, h6⟩ := bind_ok h2
            have := (prog f).list h5
            obtain ⟨y, k4, M4, h7, h8⟩ := bind_ok h6
            obtain ⟨rfl, rfl⟩ := must_ok h7
            have := (ok_inj h8).2.1
            omega
          · have := (ok_inj h2).2.1
            omega
        by_cases h11 : k2 < n
        · refine rel_bind (must_rel hc hs2 _) fun _ k6 M6 _ k7 M7 h6 hs6 _ => ?_
          obtain ⟨rfl, rfl⟩ := must_ok h6
          obtain rfl := hts h11
          by_cases h12 : k2 + 1 < n
          · have hs7 := hs6.next h12
            have e7 : k7 = k2 + 1 := by
              obtain ⟨_, ⟨_, h, _⟩ | ⟨h, _⟩⟩ := hs6
              · exact h
              · omega
            rw [show isW L1 [41] k7 = isW L [41] (k2 + 1) by rw [e7, isW_same hc h12]]
            split
            · exact node_rel hs7 fun _ => rfl
            · refine rel_bind (P.list hs6 (by omega) fun _ => rfl) fun y k4 M4 y1 k5 M5 h4 hs4 hy => ?_
              refine rel_bind (must_rel hc hs4 _) fun _ k6 M6 _ k7 M7 h6 hs6 _ => ?_
              obtain ⟨rfl, rfl⟩ := must_ok h6
              exact node_rel hs6 fun h => by rw [hy (by omega)]
          · obtain ⟨_, ⟨h, _⟩ | ⟨hge, rfl, hM⟩⟩ := hs6
            · omega
            · obtain ⟨g, rfl⟩ : ∃ h, g = h + 4 := ⟨g - 4, by omega⟩
              rw [isW_stop hc, if_neg (c := false = true) (by decide), end_list hc hd]
              exact fun _ _ _ _ => .inr rfl
        · rw [show k3 = n by
            obtain ⟨_, ⟨h, _⟩ | ⟨_, h, _⟩⟩ := hs2
            · omega
            · exact h]
          rw [show must L1 [40] n M3 = .error ((now L1 n).pos, 30) by unfold must failA; rw [isW_stop hc]; rfl]
          exact fun _ _ _ _ => .inr rfl
    · omega
  · obtain ⟨h4, ⟨h2, _⟩ | ⟨hge, rfl, hM⟩⟩ := hs
    · omega
    · rw [end_call hc]
      exact rel_end
omit P in
theorem pre : ∀ f : Nat, Pre L L1 n f
  | 0 => pre_zero
  | f + 1 => by
    have P := pre f
    exact ⟨pre_typ P, pre_alt hc P, pre_part hc P, pre_fields hc P, pre_field hc P, pre_list hc P, pre_expr hc P, pre_sum hc P, pre_prim P, pre_dot hc P, pre_atom hc P, pre_named hc P, pre_call hc P⟩
end
end Go.Proofs.YtmgjmagniefhoaaGreatDoor.Tr

/- A module's rules at some depth; a text that ends behind some of its words: modules, side by side. No program is walked here. -/
namespace Go.Proofs.YtmgjmagniefhoaaGreatDoor.Tr
open Lx (Bs Wd)
section
variable (L : List Wd) (d : Int)
def varsFD : Nat → Int → Bs → List Vr → Nat → List Nd → An (List Vr)
  | 0, _, _, _, _, _ => .error (-1, -1)
  | f + 1, kind, between, l, k, M =>
    bind (room L l.length 16 k M) fun _ k M => bind (fresh L (l.map (·.name)) kind k M) fun s k M => bind (must L between k M) fun _ k M =>
    bind (typ L d k M) fun t k M =>
    if isW L [44] k = true then varsFD f kind between (l ++ [⟨s, t⟩]) (k + 1) M else .ok (l ++ [⟨s, t⟩], k, M)
def varsD (kind : Int) (between stop : Bs) (k : Nat) (M : List Nd) : An (List Vr) :=
  bind (varsFD L d (fuel L) kind between [] k M) fun l k M => bind (must L stop k M) fun _ k M => .ok (l, k, M)
def declD (many : Int) (k : Nat) (M : List Nd) : An Vr :=
  bind (room L many 64 k M) fun _ k M => bind (word L 2 (k + 1) M) fun s k M => bind (must L [61] k M) fun _ k M =>
  bind (typ L d k M) fun t k M => .ok (⟨s, t⟩, k, M)
def funcD (many : Int) (k : Nat) (M : List Nd) : An Fd :=
  bind (room L many 64 k M) fun _ k M => bind (word L 1 (k + 1) M) fun s k M =>
  bind (if isW L [91] k = true then varsD L d 2 [60, 58] [93] (k + 1) M else .ok ([], k, M)) fun vs k M =>
  bind (must L [40] k M) fun _ k M =>
  bind (if isW L [41] k = true then .ok ([], k + 1, M) else varsD L d 1 [58] [41] k M) fun ps k M =>
  bind (must L [58] k M) fun _ k M => bind (typ L d k M) fun r k M => bind (must L [61] k M) fun _ k M => bind (expr L d k M) fun b k M =>
  .ok (⟨s, vs, ps, r, b⟩, k, M)
def declsFD : Nat → List Vr → Nat → List Nd → An (List Vr)
  | 0, _, _, _ => .error (-1, -1)
  | f + 1, l, k, M => if isW L [116, 121, 112, 101] k = true then bind (declD L d l.length k M) fun x k M => declsFD f (l ++ [x]) k M else .ok (l, k, M)
def funcsFD : Nat → List Fd → Nat → List Nd → An (List Fd)
  | 0, _, _, _ => .error (-1, -1)
  | f + 1, l, k, M => if isW L [102, 110] k = true then bind (funcD L d l.length k M) fun x k M => funcsFD f (l ++ [x]) k M else .ok (l, k, M)
def moduleA : An (Bs × List Bs × List Vr × List Fd) :=
  bind (must L [109, 111, 100, 117, 108, 101] 0 []) fun _ k M => bind (word L 1 k M) fun s k M =>
    bind (importsF L (fuel L) [] k M) fun is k M => bind (declsFD L d (fuel L) [] k M) fun ts k M => bind (funcsFD L d (fuel L) [] k M) fun fs k M =>
    if (now L k).kind = 7 then .ok ((s, is, ts, fs), k, M) else failA L 30 k
theorem varsFD_one : ∀ (f : Nat) (kind : Int) (b : Bs) (l : List Vr) (k : Nat) (M : List Nd), varsFD L 1 f kind b l k M = varsF L f kind b l k M
  | 0, _, _, _, _, _ => by rw [varsFD, varsF]
  | f + 1, kind, b, l, k, M => by
    rw [varsFD, varsF]
    simp only [varsFD_one f]
theorem funcD_one (m : Int) (k : Nat) (M : List Nd) : funcD L 1 m k M = func L m k M := by
  unfold funcD func varsD vars
  simp only [varsFD_one]
theorem declsFD_one : ∀ (f : Nat) (l : List Vr) (k : Nat) (M : List Nd), declsFD L 1 f l k M = declsF L f l k M
  | 0, _, _, _ => by rw [declsFD, declsF]
  | f + 1, l, k, M => by
    rw [declsFD, declsF]
    simp only [declsFD_one f]
    rfl
theorem funcsFD_one : ∀ (f : Nat) (l : List Fd) (k : Nat) (M : List Nd), funcsFD L 1 f l k M = funcsF L f l k M
  | 0, _, _, _ => by rw [funcsFD, funcsF]
  | f + 1, l, k, M => by
    rw [funcsFD, funcsF]
    simp only [funcsFD_one f, funcD_one]
theorem module_one : module_ L = match moduleA L 1 with
  | .error e => .error e
  | .ok ((s, is, ts, fs), _, M) => .ok ⟨s, is, ts, fs, M⟩ := by
  unfold module_ moduleA
  simp only [funcsFD_one, declsFD_one]
  rfl
end
section
variable {L : List Wd} {d : Int}
theorem varsFD_le {kind : Int} {b : Bs} : ∀ (f : Nat) {l : List Vr} {k : Nat} {M : List Nd} {x : List Vr} {k' : Nat} {M' : List Nd}, varsFD L d f kind b l k M = .ok (x, k', M') → k ≤ k'
  | 0, _, _, _, _, _, _, h => by rw [varsFD] at h; cases h
  | f + 1, l, k, M, x, k', M', h => by
    rw [varsFD] at h
    obtain ⟨_, k1, M1, h1, g1⟩ := bind_ok h
    obtain ⟨e1, _⟩ := room_ok h1
    obtain ⟨_, k2, M2, h2, g2⟩ := bind_ok g1
    obtain ⟨e2, _⟩ := fresh_ok h2
    obtain ⟨_, k3, M3, h3, g3⟩ := bind_ok g2
    obtain ⟨e3, _⟩ := must_ok h3
    obtain ⟨_, k4, M4, h4, g4⟩ := bind_ok g3
    have := (prog (fuel L)).typ h4
    split at g4
    · have := varsFD_le f g4; omega
    · have := (ok_inj g4).2.1; omega
theorem varsFD_up {kind : Int} {b : Bs} : ∀ (f : Nat) (l : List Vr) (k : Nat) (M : List Nd), Up M (varsFD L d f kind b l k M)
  | 0, _, _, _ => by rw [varsFD]; exact up_err
  | f + 1, l, k, M => by
    rw [varsFD]
    refine up_bind up_room fun _ k M => up_bind up_fresh fun s k M => up_bind up_must fun _ k M => up_bind ((ups (fuel L)).typ _ _ _) fun t k M => ?_
    split
    · exact varsFD_up f _ _ _
    · exact up_ok
theorem varsD_le {kind : Int} {b stop : Bs} {k : Nat} {M : List Nd} {x : List Vr} {k' : Nat} {M' : List Nd} (h : varsD L d kind b stop k M = .ok (x, k', M')) : k ≤ k' := by
  unfold varsD at h
  obtain ⟨_, a1, a2, a3, a4⟩ := bind_ok h
  obtain ⟨_, b1, b2, b3, b4⟩ := bind_ok a4
  obtain ⟨e, _⟩ := must_ok b3
  have := (ok_inj b4).2.1
  have := varsFD_le _ a3
  omega
theorem varsD_up {kind : Int} {b stop : Bs} {k : Nat} {M : List Nd} : Up M (varsD L d kind b stop k M) := up_bind (varsFD_up _ _ _ _) fun _ _ _ => up_bind up_must fun _ _ _ => up_ok
end
section
variable {L L1 : List Wd} {n : Nat} (hc : Cutt L L1 n) (hL : n ≤ L1.length)
include hc hL
theorem typ_rel {k k1 : Nat} {M M1 : List Nd} (hs : St n k M k1 M1) : Rel L1 n (typ L (1 + 1) k M) (typ L1 1 k1 M1) :=
  (pre hc (fuel L)).typ hs (by unfold fuel; omega)
theorem expr_rel {k k1 : Nat} {M M1 : List Nd} (hs : St n k M k1 M1) : Rel L1 n (expr L (1 + 1) k M) (expr L1 1 k1 M1) :=
  (pre hc (fuel L)).expr hs (by unfold fuel; omega)
theorem varsF_rel {kind : Int} {b : Bs} (h7 : kind ≠ 7) : ∀ (f : Nat) {l l1 : List Vr} {k k1 g : Nat} {M M1 : List Nd}, St n k M k1 M1 → n - k + 1 ≤ g → l1.length = l.length → (k < n → l1 = l) → Rel L1 n (varsFD L (1 + 1) f kind b l k M) (varsFD L1 1 g kind b l1 k1 M1)
  | 0, _, _, _, _, _, _, _, _, _, _, _ => by rw [varsFD]; exact rel_err
  | f + 1, l, l1, k, k1, g, M, M1, hs, hg, hl, hx => by
    obtain ⟨g, rfl⟩ : ∃ h, g = h + 1 := ⟨g - 1, by omega⟩
    rw [varsFD, varsFD, hl]
    refine rel_bind (room_rel hs _ _) fun _ k2 M2 _ k3 M3 h2 hs2 _ => ?_
    obtain ⟨rfl, rfl⟩ := room_ok h2
    refine rel_bind (fresh_rel hc hs2 (fun h => by rw [hx h]) _ h7) fun s k4 M4 s1 k5 M5 h4 hs4 hs41 => ?_
    obtain ⟨rfl, rfl⟩ := fresh_ok h4
    refine rel_bind (must_rel hc hs4 _) fun _ k6 M6 _ k7 M7 h6 hs6 _ => ?_
    obtain ⟨rfl, rfl⟩ := must_ok h6
    refine rel_bind (typ_rel hc hL hs6) fun y k8 M8 y1 k9 M9 h8 hs8 hy => ?_
    have h9 := (prog (fuel L)).typ h8
    by_cases hlt8 : k8 < n
    · have hs9 := hs8.next hlt8
      have e8 : k9 = k8 := by
        obtain ⟨_, ⟨_, h, _⟩ | ⟨h, _⟩⟩ := hs8
        · exact h
        · omega
      subst e8
      obtain rfl := hx (by omega)
      obtain rfl := hy hlt8
      obtain rfl := hs41 (by omega)
      rw [isW_same hc hlt8]
      split
      · exact varsF_rel h7 f hs9 (by omega) rfl fun _ => rfl
      · exact rel_ok hs8 fun _ => rfl
    · obtain ⟨h4, ⟨h2, _⟩ | ⟨hge, rfl, hM⟩⟩ := hs8
      · omega
      · rw [isW_stop hc, if_neg (c := false = true) (by decide)]
        refine rel_stop (k := k8) hge hM h4 ?_ ?_
        · split
          · exact varsFD_up _ _ _ _
          · exact up_ok
        · intro x k' M' e
          split at e
          · have := varsFD_le _ e; omega
          · have := (ok_inj e).2.1; omega
theorem vars_rel {kind : Int} {b stop : Bs} (h7 : kind ≠ 7) {k k1 : Nat} {M M1 : List Nd} (hs : St n k M k1 M1) : Rel L1 n (varsD L (1 + 1) kind b stop k M) (varsD L1 1 kind b stop k1 M1) := by
  unfold varsD
  refine rel_bind (varsF_rel hc hL h7 _ hs (by unfold fuel; omega) rfl fun _ => rfl) fun y k4 M4 y1 k5 M5 h4 hs4 hy => ?_
  refine rel_bind (must_rel hc hs4 _) fun _ k6 M6 _ k7 M7 h6 hs6 _ => ?_
  obtain ⟨rfl, rfl⟩ := must_ok h6
  exact rel_ok hs6 fun h => hy (by omega)
theorem decl_rel {m : Int} {k k1 : Nat} {M M1 : List Nd} (hs : St n k M k1 M1) (hlt : k < n) : Rel L1 n (declD L (1 + 1) m k M) (declD L1 1 m k1 M1) := by
  unfold declD
  refine rel_bind (room_rel hs _ _) fun _ k2 M2 _ k3 M3 h2 hs2 _ => ?_
  obtain ⟨rfl, rfl⟩ := room_ok h2
  refine rel_bind (word_rel hc (hs2.next hlt) _ (by decide)) fun s k4 M4 s1 k5 M5 h4 hs4 hs41 => ?_
  obtain ⟨rfl, rfl⟩ := word_ok h4
  refine rel_bind (must_rel hc hs4 _) fun _ k6 M6 _ k7 M7 h6 hs6 _ => ?_
  obtain ⟨rfl, rfl⟩ := must_ok h6
  refine rel_bind (typ_rel hc hL hs6) fun y k8 M8 y1 k9 M9 h8 hs8 hy => ?_
  have h9 := (prog (fuel L)).typ h8
  exact rel_ok hs8 fun h => by rw [hs41 (by omega), hy h]
omit hL in
theorem end_vars {kind : Int} {b stop : Bs} (h7 : kind ≠ 7) {M : List Nd} : varsD L1 1 kind b stop n M = .error ((now L1 n).pos, 30) := by
  unfold varsD
  obtain ⟨g, hg⟩ : ∃ g, fuel L1 = g + 1 := ⟨8 * L1.length + 7, rfl⟩
  rw [hg, varsFD, show room L1 (([] : List Vr).length : Int) 16 n M = .ok ((), n, M) from if_neg (by simp)]
  show bind (bind (fresh L1 [] kind n M) _) _ = _
  rw [show fresh L1 [] kind n M = .error ((now L1 n).pos, 30) by
    unfold fresh word failA
    rw [if_neg (fun h => by rw [hc.stop] at h; exact h7 h.1.symm), if_neg (fun h => by rw [hc.stop] at h; exact h7 h.symm)]]
  rfl
theorem func_rel {m : Int} {k k1 : Nat} {M M1 : List Nd} (hs : St n k M k1 M1) (hlt : k < n) : Rel L1 n (funcD L (1 + 1) m k M) (funcD L1 1 m k1 M1) := by
  unfold funcD
  refine rel_bind (room_rel hs _ _) fun _ k2 M2 _ k3 M3 h2 hs2 _ => ?_
  obtain ⟨rfl, rfl⟩ := room_ok h2
  refine rel_bind (word_rel hc (hs2.next hlt) _ (by decide)) fun s k4 M4 s1 k5 M5 h4 hs4 hs41 => ?_
  obtain ⟨rfl, rfl⟩ := word_ok h4
  by_cases hl5 : k2 + 1 + 1 < n
  · have e5 : k5 = k2 + 1 + 1 := by
      obtain ⟨_, ⟨_, h, _⟩ | ⟨h, _⟩⟩ := hs4
      · exact h
      · omega
    have hs5 := hs4.next hl5
    refine rel_bind (r := if isW L [91] (k2 + 1 + 1) = true then varsD L (1 + 1) 2 [60, 58] [93] (k2 + 1 + 1 + 1) M4 else .ok ([], k2 + 1 + 1, M4)) (r1 := if isW L1 [91] k5 = true then varsD L1 1 2 [60, 58] [93] (k5 + 1) M5 else .ok ([], k5, M5)) ?_ fun vs k6 M6 vs1 k7 M7 h6 hs6 hvs => ?_
    · rw [show isW L1 [91] k5 = isW L [91] (k2 + 1 + 1) by rw [e5, isW_same hc hl5]]
      split
      · exact vars_rel hc hL (by decide) hs5
      · exact rel_ok hs4 fun _ => rfl
    have p6 : k2 + 1 + 1 ≤ k6 := by
      split at h6
      · have := varsD_le h6; omega
      · have := (ok_inj h6).2.1; omega
    refine rel_bind (must_rel hc hs6 _) fun _ k8 M8 _ k9 M9 h8 hs8 _ => ?_
    obtain ⟨rfl, rfl⟩ := must_ok h8
    by_cases hl9 : k6 + 1 < n
    · have e9 : k9 = k6 + 1 := by
        obtain ⟨_, ⟨_, h, _⟩ | ⟨h, _⟩⟩ := hs8
        · exact h
        · omega
      have hs9 := hs8.next hl9
      refine rel_bind (r := if isW L [41] (k6 + 1) = true then .ok ([], k6 + 1 + 1, M8) else varsD L (1 + 1) 1 [58] [41] (k6 + 1) M8) (r1 := if isW L1 [41] k9 = true then .ok ([], k9 + 1, M9) else varsD L1 1 1 [58] [41] k9 M9) ?_ fun ps k10 M10 ps1 k11 M11 h10 hs10 hps => ?_
      · rw [show isW L1 [41] k9 = isW L [41] (k6 + 1) by rw [e9, isW_same hc hl9]]
        split
        · exact rel_ok hs9 fun _ => rfl
        · exact vars_rel hc hL (by decide) hs8
      have p10 : k6 + 1 ≤ k10 := by
        split at h10
        · have := (ok_inj h10).2.1; omega
        · have := varsD_le h10; omega
      refine rel_bind (must_rel hc hs10 _) fun _ k12 M12 _ k13 M13 h12 hs12 _ => ?_
      obtain ⟨rfl, rfl⟩ := must_ok h12
      refine rel_bind (typ_rel hc hL hs12) fun y k14 M14 y1 k15 M15 h14 hs14 hy => ?_
      have p14 := (prog (fuel L)).typ h14
      refine rel_bind (must_rel hc hs14 _) fun _ k16 M16 _ k17 M17 h16 hs16 _ => ?_
      obtain ⟨rfl, rfl⟩ := must_ok h16
      refine rel_bind (expr_rel hc hL hs16) fun z k18 M18 z1 k19 M19 h18 hs18 hz => ?_
      have p18 := (prog (fuel L)).expr h18
      exact rel_ok hs18 fun h => by rw [hs41 (by omega), hvs (by omega), hps (by omega), hy (by omega), hz h]
    · obtain ⟨_, ⟨h, _⟩ | ⟨hge, rfl, hM⟩⟩ := hs8
      · omega
      · rw [isW_stop hc, if_neg (c := false = true) (by decide), end_vars hc (by decide)]
        exact fun _ _ _ _ => .inr rfl
  · obtain ⟨_, ⟨h, _⟩ | ⟨hge, rfl, hM⟩⟩ := hs4
    · omega
    · rw [isW_stop hc, if_neg (c := false = true) (by decide)]
      refine fun _ _ _ _ => .inr ?_
      show bind (must L1 [40] k5 M5) _ = _
      rw [show must L1 [40] k5 M5 = .error ((now L1 k5).pos, 30) by unfold must failA; rw [isW_stop hc]; rfl]
      rfl
end
end Go.Proofs.YtmgjmagniefhoaaGreatDoor.Tr

/- A text that ends behind some of its words: it is wrong at its end, or read as one that has no more. No program is walked here. -/
namespace Go.Proofs.YtmgjmagniefhoaaGreatDoor.Tr
open Lx (Bs Wd)
section
variable {L : List Wd} {d : Int}
theorem importsF_le : ∀ (f : Nat) {l : List Bs} {k : Nat} {M : List Nd} {x : List Bs} {k' : Nat} {M' : List Nd}, importsF L f l k M = .ok (x, k', M') → k ≤ k'
  | 0, _, _, _, _, _, _, h => by rw [importsF] at h; cases h
  | f + 1, l, k, M, x, k', M', h => by
    rw [importsF] at h
    split at h
    · obtain ⟨_, k1, M1, h1, g1⟩ := bind_ok h
      obtain ⟨e1, _⟩ := room_ok h1
      obtain ⟨_, k2, M2, h2, g2⟩ := bind_ok g1
      obtain ⟨e2, _⟩ := fresh_ok h2
      have := importsF_le f g2
      omega
    · have := (ok_inj h).2.1; omega
theorem importsF_up : ∀ (f : Nat) (l : List Bs) (k : Nat) (M : List Nd), Up M (importsF L f l k M)
  | 0, _, _, _ => by rw [importsF]; exact up_err
  | f + 1, l, k, M => by
    rw [importsF]
    split
    · exact up_bind up_room fun _ k M => up_bind up_fresh fun s k M => importsF_up f _ _ _
    · exact up_ok
theorem declD_le {m : Int} {k : Nat} {M : List Nd} {x : Vr} {k' : Nat} {M' : List Nd} (h : declD L d m k M = .ok (x, k', M')) : k < k' := by
  unfold declD at h
  obtain ⟨_, k1, M1, h1, g1⟩ := bind_ok h
  obtain ⟨e1, _⟩ := room_ok h1
  obtain ⟨_, k2, M2, h2, g2⟩ := bind_ok g1
  obtain ⟨e2, _⟩ := word_ok h2
  obtain ⟨_, k3, M3, h3, g3⟩ := bind_ok g2
  obtain ⟨e3, _⟩ := must_ok h3
  obtain ⟨_, k4, M4, h4, g4⟩ := bind_ok g3
  have := (prog (fuel L)).typ h4
  have := (ok_inj g4).2.1
  omega
theorem declD_up {m : Int} {k : Nat} {M : List Nd} : Up M (declD L d m k M) := by
  unfold declD
  exact up_bind up_room fun _ k M => up_bind up_word fun s k M => up_bind up_must fun _ k M => up_bind ((ups (fuel L)).typ _ _ _) fun t k M => up_ok
theorem declsFD_le : ∀ (f : Nat) {l : List Vr} {k : Nat} {M : List Nd} {x : List Vr} {k' : Nat} {M' : List Nd}, declsFD L d f l k M = .ok (x, k', M') → k ≤ k'
  | 0, _, _, _, _, _, _, h => by rw [declsFD] at h; cases h
  | f + 1, l, k, M, x, k', M', h => by
    rw [declsFD] at h
    split at h
    · obtain ⟨_, k1, M1, h1, g1⟩ := bind_ok h
      have := declD_le h1
      have := declsFD_le f g1
      omega
    · have := (ok_inj h).2.1; omega
theorem declsFD_up : ∀ (f : Nat) (l : List Vr) (k : Nat) (M : List Nd), Up M (declsFD L d f l k M)
  | 0, _, _, _ => by rw [declsFD]; exact up_err
  | f + 1, l, k, M => by
    rw [declsFD]
    split
    · exact up_bind declD_up fun x k M => declsFD_up f _ _ _
    · exact up_ok
theorem funcD_le {m : Int} {k : Nat} {M : List Nd} {x : Fd} {k' : Nat} {M' : List Nd} (h : funcD L d m k M = .ok (x, k', M')) : k < k' := by
  unfold funcD at h
  obtain ⟨_, k1, M1, h1, g1⟩ := bind_ok h
  obtain ⟨e1, _⟩ := room_ok h1
  obtain ⟨_, k2, M2, h2, g2⟩ := bind_ok g1
  obtain ⟨e2, _⟩ := word_ok h2
  obtain ⟨_, k3, M3, h3, g3⟩ := bind_ok g2
  have e3 : k2 ≤ k3 := by
    split at h3
    · have := varsD_le h3; omega
    · have := (ok_inj h3).2.1; omega
  obtain ⟨_, k4, M4, h4, g4⟩ := bind_ok g3
  obtain ⟨e4, _⟩ := must_ok h4
  obtain ⟨_, k5, M5, h5, g5⟩ := bind_ok g4
  have e5 : k4 ≤ k5 := by
    split at h5
    · have := (ok_inj h5).2.1; omega
    · have := varsD_le h5; omega
  obtain ⟨_, k6, M6, h6, g6⟩ := bind_ok g5
  obtain ⟨e6, _⟩ := must_ok h6
  obtain ⟨_, k7, M7, h7, g7⟩ := bind_ok g6
  have := (prog (fuel L)).typ h7
  obtain ⟨_, k8, M8, h8, g8⟩ := bind_ok g7
  obtain ⟨e8, _⟩ := must_ok h8
  obtain ⟨_, k9, M9, h9, g9⟩ := bind_ok g8
  have := (prog (fuel L)).expr h9
  have := (ok_inj g9).2.1
  omega
theorem funcD_up {m : Int} {k : Nat} {M : List Nd} : Up M (funcD L d m k M) := by
  unfold funcD
  refine up_bind up_room fun _ k M => up_bind up_word fun s k M => up_bind ?_ fun vs k M => up_bind up_must fun _ k M => up_bind ?_ fun ps k M => up_bind up_must fun _ k M => up_bind ((ups (fuel L)).typ _ _ _) fun t k M => up_bind up_must fun _ k M => up_bind ((ups (fuel L)).expr _ _ _) fun b k M => up_ok
  · split
    · exact varsD_up
    · exact up_ok
  · split
    · exact fun x k' M' h => by
        obtain ⟨_, _, rfl⟩ := ok_inj h
        exact ⟨Nat.le_refl _, id⟩
    · exact varsD_up
theorem funcsFD_le : ∀ (f : Nat) {l : List Fd} {k : Nat} {M : List Nd} {x : List Fd} {k' : Nat} {M' : List Nd}, funcsFD L d f l k M = .ok (x, k', M') → k ≤ k' ∧ l.length ≤ x.length
  | 0, _, _, _, _, _, _, h => by rw [funcsFD] at h; cases h
  | f + 1, l, k, M, x, k', M', h => by
    rw [funcsFD] at h
    split at h
    · obtain ⟨_, k1, M1, h1, g1⟩ := bind_ok h
      have := funcD_le h1
      have h2 := funcsFD_le f g1
      rw [List.length_append] at h2
      exact ⟨by omega, by omega⟩
    · obtain ⟨h1, h2, _⟩ := ok_inj h
      subst h1
      exact ⟨by omega, Nat.le_refl _⟩
theorem funcsFD_up : ∀ (f : Nat) (l : List Fd) (k : Nat) (M : List Nd), Up M (funcsFD L d f l k M)
  | 0, _, _, _ => by rw [funcsFD]; exact up_err
  | f + 1, l, k, M => by
    rw [funcsFD]
    split
    · exact up_bind funcD_up fun x k M => funcsFD_up f _ _ _
    · exact up_ok
end
section
variable {L L1 : List Wd} {n : Nat} (hc : Cutt L L1 n) (hL : n ≤ L1.length)
include hc
theorem imports_rel : ∀ (f : Nat) {l l1 : List Bs} {k k1 g : Nat} {M M1 : List Nd}, St n k M k1 M1 → n - k + 1 ≤ g → (k < n → l1 = l) → Rel L1 n (importsF L f l k M) (importsF L1 g l1 k1 M1)
  | 0, _, _, _, _, _, _, _, _, _, _ => by rw [importsF]; exact rel_err
  | f + 1, l, l1, k, k1, g, M, M1, hs, hg, hx => by
    obtain ⟨g, rfl⟩ : ∃ h, g = h + 1 := ⟨g - 1, by omega⟩
    by_cases hlt : k < n
    · have hs1 := hs.next hlt
      have hs0 := hs
      obtain ⟨h4, ⟨_, rfl, rfl⟩ | ⟨h2, _⟩⟩ := hs
      · obtain rfl := hx hlt
        rw [importsF, importsF, isW_same hc hlt]
        split
        · refine rel_bind (room_rel hs1 _ _) fun _ k2 M2 _ k3 M3 h2 hs2 _ => ?_
          obtain ⟨rfl, rfl⟩ := room_ok h2
          refine rel_bind (fresh_rel hc hs2 (fun _ => rfl) _ (by decide)) fun s k4 M4 s1 k5 M5 h4 hs4 hs41 => ?_
          obtain ⟨rfl, rfl⟩ := fresh_ok h4
          exact imports_rel f hs4 (by omega) fun h => by rw [hs41 h]
        · exact rel_ok hs0 fun _ => rfl
      · omega
    · obtain ⟨h4, ⟨h2, _⟩ | ⟨hge, rfl, hM⟩⟩ := hs
      · omega
      · rw [show importsF L1 (g + 1) l1 k1 M1 = .ok (l1, k1, M1) by rw [importsF, isW_stop hc]; rfl]
        exact rel_stop (k := k) hge hM h4 (importsF_up _ _ _ _) fun _ _ _ h => importsF_le _ h
include hL
theorem decls_rel : ∀ (f : Nat) {l l1 : List Vr} {k k1 g : Nat} {M M1 : List Nd}, St n k M k1 M1 → n - k + 1 ≤ g → (k < n → l1 = l) → Rel L1 n (declsFD L (1 + 1) f l k M) (declsFD L1 1 g l1 k1 M1)
  | 0, _, _, _, _, _, _, _, _, _, _ => by rw [declsFD]; exact rel_err
  | f + 1, l, l1, k, k1, g, M, M1, hs, hg, hx => by
    obtain ⟨g, rfl⟩ : ∃ h, g = h + 1 := ⟨g - 1, by omega⟩
    by_cases hlt : k < n
    · have hs0 := hs
      obtain ⟨h4, ⟨_, rfl, rfl⟩ | ⟨h2, _⟩⟩ := hs
      · obtain rfl := hx hlt
        rw [declsFD, declsFD, isW_same hc hlt]
        split
        · refine rel_bind (decl_rel hc hL hs0 hlt) fun y k4 M4 y1 k5 M5 h4 hs4 hy => ?_
          have := declD_le h4
          exact decls_rel f hs4 (by omega) fun h => by rw [hy h]
        · exact rel_ok hs0 fun _ => rfl
      · omega
    · obtain ⟨h4, ⟨h2, _⟩ | ⟨hge, rfl, hM⟩⟩ := hs
      · omega
      · rw [show declsFD L1 1 (g + 1) l1 k1 M1 = .ok (l1, k1, M1) by rw [declsFD, isW_stop hc]; rfl]
        exact rel_stop (k := k) hge hM h4 (declsFD_up _ _ _ _) fun _ _ _ h => declsFD_le _ h
theorem funcs_rel : ∀ (f : Nat) {l l1 : List Fd} {k k1 g : Nat} {M M1 : List Nd}, St n k M k1 M1 → n - k + 1 ≤ g → (k < n → l1 = l) → l1.length ≤ l.length → ∀ x k' M', funcsFD L (1 + 1) f l k M = .ok (x, k', M') →
    (∃ x1 k1' M1', funcsFD L1 1 g l1 k1 M1 = .ok (x1, k1', M1') ∧ St n k' M' k1' M1' ∧ x1.length ≤ x.length) ∨ funcsFD L1 1 g l1 k1 M1 = .error ((now L1 n).pos, 30)
  | 0, _, _, _, _, _, _, _, _, _, _, _, _, _, _, h => by rw [funcsFD] at h; cases h
  | f + 1, l, l1, k, k1, g, M, M1, hs, hg, hx, hl, x, k', M', e => by
    obtain ⟨g, rfl⟩ : ∃ h, g = h + 1 := ⟨g - 1, by omega⟩
    by_cases hlt : k < n
    · have hs0 := hs
      obtain ⟨h4, ⟨_, rfl, rfl⟩ | ⟨h2, _⟩⟩ := hs
      · obtain rfl := hx hlt
        rw [funcsFD] at e
        rw [funcsFD, isW_same hc hlt]
        split at e
        · rename_i hi
          rw [if_pos hi]
          obtain ⟨y, k4, M4, h4, e⟩ := bind_ok e
          have := funcD_le h4
          rcases func_rel hc hL (m := l1.length) hs0 hlt _ _ _ h4 with ⟨y1, k5, M5, e1, hs5, hy⟩ | e1
          · rw [e1]
            exact funcs_rel f hs5 (by omega) (fun h => by rw [hy h]) (by rw [List.length_append, List.length_append]; exact Nat.le_refl _) _ _ _ e
          · rw [e1]
            exact .inr rfl
        · rename_i hi
          rw [if_neg hi]
          obtain ⟨rfl, rfl, rfl⟩ := ok_inj e
          exact .inl ⟨_, _, _, rfl, hs0, Nat.le_refl _⟩
      · omega
    · obtain ⟨h4, ⟨h2, _⟩ | ⟨hge, rfl, hM⟩⟩ := hs
      · omega
      · rw [show funcsFD L1 1 (g + 1) l1 k1 M1 = .ok (l1, k1, M1) by rw [funcsFD, isW_stop hc]; rfl]
        have h1 := funcsFD_up _ _ _ _ _ _ _ e
        have h2 := funcsFD_le _ e
        exact .inl ⟨_, _, _, rfl, ⟨h1.2 h4, .inr ⟨by omega, rfl, by omega⟩⟩, by omega⟩
/-- A module whose words end behind some of its words. -/
theorem module_rel (h7 : ∀ k, k < n → (now L k).kind ≠ 7) {x : Bs × List Bs × List Vr × List Fd} {k : Nat} {M : List Nd} (h : moduleA L (1 + 1) = .ok (x, k, M)) :
    (∃ m1, module_ L1 = .ok m1 ∧ m1.fns.length ≤ x.2.2.2.length ∧ m1.nodes.length ≤ M.length) ∨ module_ L1 = .error ((now L1 n).pos, 30) := by
  have key : (∃ x1 k1 M1, moduleA L1 1 = .ok (x1, k1, M1) ∧ x1.2.2.2.length ≤ x.2.2.2.length ∧ M1.length ≤ M.length) ∨ moduleA L1 1 = .error ((now L1 n).pos, 30) := by
    have hs : St n 0 [] 0 [] := ⟨Nat.zero_le _, by
      by_cases h : 0 < n
      · exact .inl ⟨h, rfl, rfl⟩
      · exact .inr ⟨by omega, by omega, Nat.le_refl _⟩⟩
    unfold moduleA at h ⊢
    obtain ⟨_, k1, M1, h1, g1⟩ := bind_ok h
    rcases must_rel hc hs _ _ _ _ h1 with ⟨_, k2, M2, e2, hs2, _⟩ | e2
    rotate_left
    · rw [e2]; exact .inr rfl
    rw [e2]
    obtain ⟨s, k3, M3, h3, g3⟩ := bind_ok g1
    rcases word_rel hc hs2 _ (by decide) _ _ _ h3 with ⟨s1, k4, M4, e4, hs4, hs41⟩ | e4
    rotate_left
    · refine .inr ?_
      show bind (word L1 1 k2 M2) _ = _
      rw [e4]; rfl
    obtain ⟨im, k5, M5, h5, g5⟩ := bind_ok g3
    have p1 := (must_ok h1).1
    have p3 := (word_ok h3).1
    rcases imports_rel hc _ hs4 (g := fuel L1) (by unfold fuel; omega) (fun _ => rfl) _ _ _ h5 with ⟨im1, k6, M6, e6, hs6, hs61⟩ | e6
    rotate_left
    · refine .inr ?_
      show bind (word L1 1 k2 M2) _ = _
      rw [e4]
      show bind (importsF L1 (fuel L1) [] k4 M4) _ = _
      rw [e6]; rfl
    obtain ⟨ts, k7, M7, h7', g7⟩ := bind_ok g5
    have p5 := importsF_le _ h5
    rcases decls_rel hc hL _ hs6 (g := fuel L1) (by unfold fuel; omega) (fun _ => rfl) _ _ _ h7' with ⟨ts1, k8, M8, e8, hs8, hs81⟩ | e8
    rotate_left
    · refine .inr ?_
      show bind (word L1 1 k2 M2) _ = _
      rw [e4]
      show bind (importsF L1 (fuel L1) [] k4 M4) _ = _
      rw [e6]
      show bind (declsFD L1 1 (fuel L1) [] k6 M6) _ = _
      rw [e8]; rfl
    obtain ⟨fs, k9, M9, h9, g9⟩ := bind_ok g7
    rcases funcs_rel hc hL _ hs8 (g := fuel L1) (by unfold fuel; omega) (fun _ => rfl) (Nat.le_refl _) _ _ _ h9 with ⟨fs1, k10, M10, e10, hs10, hl10⟩ | e10
    rotate_left
    · refine .inr ?_
      show bind (word L1 1 k2 M2) _ = _
      rw [e4]
      show bind (importsF L1 (fuel L1) [] k4 M4) _ = _
      rw [e6]
      show bind (declsFD L1 1 (fuel L1) [] k6 M6) _ = _
      rw [e8]
      show bind (funcsFD L1 1 (fuel L1) [] k8 M8) _ = _
      rw [e10]; rfl
    refine .inl ⟨(s1, im1, ts1, fs1), k10, M10, ?_, ?_, ?_⟩
    · show bind (word L1 1 k2 M2) _ = _
      rw [e4]
      show bind (importsF L1 (fuel L1) [] k4 M4) _ = _
      rw [e6]
      show bind (declsFD L1 1 (fuel L1) [] k6 M6) _ = _
      rw [e8]
      show bind (funcsFD L1 1 (fuel L1) [] k8 M8) _ = _
      rw [e10]
      show (if (now L1 k10).kind = 7 then _ else _) = _
      split at g9
      · rename_i hk
        have hge : n ≤ k9 := by
          rcases Nat.lt_or_ge k9 n with hlt | hge
          · exact absurd hk (h7 _ hlt)
          · exact hge
        obtain ⟨_, ⟨h, _⟩ | ⟨_, rfl, _⟩⟩ := hs10
        · omega
        · rw [if_pos hc.stop]
      · unfold failA at g9
        cases g9
    · split at g9
      · obtain ⟨rfl, _, _⟩ := ok_inj g9
        exact hl10
      · unfold failA at g9
        cases g9
    · split at g9
      · obtain ⟨_, _, rfl⟩ := ok_inj g9
        obtain ⟨_, ⟨_, _, rfl⟩ | ⟨_, _, h⟩⟩ := hs10
        · exact Nat.le_refl _
        · exact h
      · unfold failA at g9
        cases g9
  rw [module_one]
  rcases key with ⟨x1, k1, M1, e, h1, h2⟩ | e
  · rw [e]
    exact .inl ⟨_, rfl, h1, h2⟩
  · rw [e]
    exact .inr rfl
end
end Go.Proofs.YtmgjmagniefhoaaGreatDoor.Tr
