/- What stands in these texts of the proof: Tv Pa Ta. Conditions: those that each theorem names. -/
import Derived.Test.YtmgjmagniefhoaaGreatDoorAa07
import Derived.Test.YtmgjmagniefhoaaGreatDoorAa06
/- What the plain reader gives is a node's number. No program is walked here. -/
namespace Go.Proofs.YtmgjmagniefhoaaGreatDoor.Tr
open Lx (Bs Wd)
section
variable {L : List Wd}
/-- A number of a node. -/
def In (n : Int) (M : List Nd) : Prop := 0 ≤ n ∧ n < M.length
theorem In.more {n : Int} {M M' : List Nd} (h : In n M) (hm : M.length ≤ M'.length) : In n M' := ⟨h.1, by have := h.2; omega⟩
theorem node_in {n : Nd} {k k' : Nat} {M M' : List Nd} {z : Int} (h : node L n k M = .ok (z, k', M')) : In z M' ∧ M.length ≤ M'.length := by
  obtain ⟨_, rfl, rfl⟩ := node_ok h
  exact ⟨⟨by omega, by rw [List.length_append]; show (M.length : Int) < ((M.length + 1 : Nat) : Int); omega⟩, by simp⟩
/-- What each rule gives. -/
structure Vals (L : List Wd) (f : Nat) : Prop where
  typ : ∀ {d k M x k' M'}, typF L f d k M = .ok (x, k', M') → In x M' ∧ M.length ≤ M'.length
  alt : ∀ {d l k M x k' M'}, (∀ n ∈ l, In n M) → l ≠ [] → altF L f d l k M = .ok (x, k', M') → In x M' ∧ M.length ≤ M'.length
  part : ∀ {d k M x k' M'}, partF L f d k M = .ok (x, k', M') → In x M' ∧ M.length ≤ M'.length
  fields : ∀ {t d k M x k' M'}, fieldsF L f t d k M = .ok (x, k', M') → In x M' ∧ M.length ≤ M'.length
  field : ∀ {t d ks l k M x k' M'}, fieldF L f t d ks l k M = .ok (x, k', M') → M.length ≤ M'.length
  list : ∀ {t d n l k M x k' M'}, listF L f t d n l k M = .ok (x, k', M') → M.length ≤ M'.length
  expr : ∀ {d k M x k' M'}, exprF L f d k M = .ok (x, k', M') → In x M' ∧ M.length ≤ M'.length
  sum : ∀ {d n k M x k' M'}, In n M → sumF L f d n k M = .ok (x, k', M') → In x M' ∧ M.length ≤ M'.length
  prim : ∀ {d k M x k' M'}, primF L f d k M = .ok (x, k', M') → In x M' ∧ M.length ≤ M'.length
  dot : ∀ {n k M x k' M'}, In n M → dotF L f n k M = .ok (x, k', M') → In x M' ∧ M.length ≤ M'.length
  atom : ∀ {d k M x k' M'}, atomF L f d k M = .ok (x, k', M') → In x M' ∧ M.length ≤ M'.length
  named : ∀ {d s k M x k' M'}, namedF L f d s k M = .ok (x, k', M') → In x M' ∧ M.length ≤ M'.length
  call : ∀ {d m s k M x k' M'}, callF L f d m s k M = .ok (x, k', M') → In x M' ∧ M.length ≤ M'.length
theorem vals_zero : Vals L 0 := by
  constructor <;> (intros; rename_i h; first | (unfold typF at h; cases h) | (unfold altF at h; cases h) | (unfold partF at h; cases h) | (unfold fieldsF at h; cases h) | (unfold fieldF at h; cases h) | (unfold listF at h; cases h) | (unfold exprF at h; cases h) | (unfold sumF at h; cases h) | (unfold primF at h; cases h) | (unfold dotF at h; cases h) | (unfold atomF at h; cases h) | (unfold namedF at h; cases h) | (unfold callF at h; cases h))
theorem vals_typ {f : Nat} (P : Vals L f) {d k M x k' M'} (h : typF L (f + 1) d k M = .ok (x, k', M')) : In x M' ∧ M.length ≤ M'.length := by
  unfold typF at h
  obtain ⟨_, k1, M1, h1, g1⟩ := bind_ok h
  obtain ⟨rfl, rfl⟩ := deep_ok h1
  obtain ⟨n, k2, M2, h2, g2⟩ := bind_ok g1
  have hp := P.part h2
  have ha := P.alt (fun m hm => by rw [List.mem_singleton.1 hm]; exact hp.1) (by simp) g2
  exact ⟨ha.1, Nat.le_trans hp.2 ha.2⟩
theorem vals_alt {f : Nat} (P : Vals L f) {d l k M x k' M'} (hl : ∀ n ∈ l, In n M) (hne : l ≠ []) (h : altF L (f + 1) d l k M = .ok (x, k', M')) : In x M' ∧ M.length ≤ M'.length := by
  unfold altF at h
  split at h
  · obtain ⟨_, k1, M1, h1, g1⟩ := bind_ok h
    obtain ⟨rfl, rfl⟩ := room_ok h1
    obtain ⟨n, k2, M2, h2, g2⟩ := bind_ok g1
    have hp := P.part h2
    have ha := P.alt (fun m hm => by
      rcases List.mem_append.1 hm with hm | hm
      · exact (hl m hm).more hp.2
      · rw [List.mem_singleton.1 hm]; exact hp.1) (by simp) g2
    exact ⟨ha.1, Nat.le_trans hp.2 ha.2⟩
  · split at h
    · obtain ⟨rfl, rfl, rfl⟩ := ok_inj h
      cases l with
      | nil => exact absurd rfl hne
      | cons a l => exact ⟨hl a List.mem_cons_self, Nat.le_refl _⟩
    · exact node_in h
theorem vals_part {f : Nat} (P : Vals L f) {d k M x k' M'} (h : partF L (f + 1) d k M = .ok (x, k', M')) : In x M' ∧ M.length ≤ M'.length := by
  unfold partF at h
  dsimp only at h
  split at h
  · exact node_in h
  · split at h
    · exact node_in h
    · split at h
      · exact node_in h
      · split at h
        · obtain ⟨_, k1, M1, h1, g1⟩ := bind_ok h
          obtain ⟨rfl, rfl⟩ := must_ok h1
          obtain ⟨_, k2, M2, h2, g2⟩ := bind_ok g1
          obtain ⟨rfl, rfl⟩ := word_ok h2
          exact node_in g2
        · split at h
          · exact P.fields h
          · split at h
            · obtain ⟨n, k1, M1, h1, g1⟩ := bind_ok h
              obtain ⟨_, k2, M2, h2, g2⟩ := bind_ok g1
              obtain ⟨rfl, rfl⟩ := must_ok h2
              obtain ⟨rfl, rfl, rfl⟩ := ok_inj g2
              exact P.typ h1
            · unfold failA at h; cases h
theorem vals_either {f : Nat} (P : Vals L f) {t : Bool} {d k M x k' M'} (h : (if t = true then typF L f d k M else exprF L f d k M) = .ok (x, k', M')) : In x M' ∧ M.length ≤ M'.length := by
  split at h
  · exact P.typ h
  · exact P.expr h
theorem vals_fields {f : Nat} (P : Vals L f) {t d k M x k' M'} (h : fieldsF L (f + 1) t d k M = .ok (x, k', M')) : In x M' ∧ M.length ≤ M'.length := by
  unfold fieldsF at h
  split at h
  · exact node_in h
  · obtain ⟨_, k1, M1, h1, g1⟩ := bind_ok h
    have := P.field h1
    obtain ⟨_, k2, M2, h2, g2⟩ := bind_ok g1
    obtain ⟨rfl, rfl⟩ := must_ok h2
    have hn := node_in g2
    exact ⟨hn.1, by have := hn.2; omega⟩
theorem vals_field {f : Nat} (P : Vals L f) {t d ks l k M x k' M'} (h : fieldF L (f + 1) t d ks l k M = .ok (x, k', M')) : M.length ≤ M'.length := by
  unfold fieldF at h
  obtain ⟨_, k1, M1, h1, g1⟩ := bind_ok h
  obtain ⟨rfl, rfl⟩ := room_ok h1
  obtain ⟨_, k2, M2, h2, g2⟩ := bind_ok g1
  obtain ⟨rfl, rfl⟩ := fresh_ok h2
  obtain ⟨_, k3, M3, h3, g3⟩ := bind_ok g2
  obtain ⟨rfl, rfl⟩ := must_ok h3
  obtain ⟨n, k4, M4, h4, g4⟩ := bind_ok g3
  have := (vals_either P h4).2
  split at g4
  · have := P.field g4; omega
  · obtain ⟨_, _, rfl⟩ := ok_inj g4
    omega
theorem vals_list {f : Nat} (P : Vals L f) {t d n l k M x k' M'} (h : listF L (f + 1) t d n l k M = .ok (x, k', M')) : M.length ≤ M'.length := by
  unfold listF at h
  obtain ⟨_, k1, M1, h1, g1⟩ := bind_ok h
  obtain ⟨rfl, rfl⟩ := room_ok h1
  obtain ⟨n, k4, M4, h4, g4⟩ := bind_ok g1
  have := (vals_either P h4).2
  split at g4
  · have := P.list g4; omega
  · obtain ⟨_, _, rfl⟩ := ok_inj g4
    omega
theorem shape_in {n z : Int} {k k' : Nat} {M M' : List Nd} (h : shapeF L n k M = .ok (z, k', M')) : In z M' ∧ M.length ≤ M'.length := by
  unfold shapeF failA at h
  dsimp only at h
  split at h
  · cases h
  · split at h
    · exact node_in h
    · split at h
      · exact node_in h
      · cases h
theorem vals_expr {f : Nat} (P : Vals L f) {d k M x k' M'} (h : exprF L (f + 1) d k M = .ok (x, k', M')) : In x M' ∧ M.length ≤ M'.length := by
  unfold exprF at h
  obtain ⟨_, k1, M1, h1, g1⟩ := bind_ok h
  obtain ⟨rfl, rfl⟩ := deep_ok h1
  split at g1
  · obtain ⟨_, k2, M2, h2, g2⟩ := bind_ok g1
    obtain ⟨rfl, rfl⟩ := word_ok h2
    obtain ⟨_, k3, M3, h3, g3⟩ := bind_ok g2
    obtain ⟨rfl, rfl⟩ := must_ok h3
    obtain ⟨_, k4, M4, h4, g4⟩ := bind_ok g3
    obtain ⟨_, k5, M5, h5, g5⟩ := bind_ok g4
    obtain ⟨rfl, rfl⟩ := must_ok h5
    obtain ⟨_, k6, M6, h6, g6⟩ := bind_ok g5
    have a := (P.expr h4).2
    have b := (P.expr h6).2
    have hn := node_in g6
    exact ⟨hn.1, by have := hn.2; omega⟩
  · split at g1
    · obtain ⟨_, k2, M2, h2, g2⟩ := bind_ok g1
      obtain ⟨_, k3, M3, h3, g3⟩ := bind_ok g2
      obtain ⟨rfl, rfl⟩ := must_ok h3
      obtain ⟨_, k4, M4, h4, g4⟩ := bind_ok g3
      obtain ⟨_, k5, M5, h5, g5⟩ := bind_ok g4
      obtain ⟨rfl, rfl⟩ := must_ok h5
      obtain ⟨_, k6, M6, h6, g6⟩ := bind_ok g5
      have a := (P.expr h2).2
      have b := (P.expr h4).2
      have c := (P.expr h6).2
      have hn := node_in g6
      exact ⟨hn.1, by have := hn.2; omega⟩
    · obtain ⟨_, k2, M2, h2, g2⟩ := bind_ok g1
      have a := P.prim h2
      obtain ⟨_, k3, M3, h3, g3⟩ := bind_ok g2
      have b := P.sum a.1 h3
      split at g3
      · have hn := shape_in g3
        exact ⟨hn.1, by have := hn.2; have := a.2; have := b.2; omega⟩
      · obtain ⟨rfl, rfl, rfl⟩ := ok_inj g3
        exact ⟨b.1, Nat.le_trans a.2 b.2⟩
theorem vals_sum {f : Nat} (P : Vals L f) {d n k M x k' M'} (hn : In n M) (h : sumF L (f + 1) d n k M = .ok (x, k', M')) : In x M' ∧ M.length ≤ M'.length := by
  unfold sumF at h
  split at h
  · obtain ⟨_, k2, M2, h2, g2⟩ := bind_ok h
    have a := P.prim h2
    obtain ⟨_, k3, M3, h3, g3⟩ := bind_ok g2
    have b := node_in h3
    have c := P.sum b.1 g3
    exact ⟨c.1, by have := a.2; have := b.2; have := c.2; omega⟩
  · obtain ⟨rfl, rfl, rfl⟩ := ok_inj h
    exact ⟨hn, Nat.le_refl _⟩
theorem vals_prim {f : Nat} (P : Vals L f) {d k M x k' M'} (h : primF L (f + 1) d k M = .ok (x, k', M')) : In x M' ∧ M.length ≤ M'.length := by
  unfold primF at h
  obtain ⟨_, k2, M2, h2, g2⟩ := bind_ok h
  have a := P.atom h2
  have b := P.dot a.1 g2
  exact ⟨b.1, Nat.le_trans a.2 b.2⟩
theorem vals_dot {f : Nat} (P : Vals L f) {n k M x k' M'} (hn : In n M) (h : dotF L (f + 1) n k M = .ok (x, k', M')) : In x M' ∧ M.length ≤ M'.length := by
  unfold dotF at h
  split at h
  · obtain ⟨_, k2, M2, h2, g2⟩ := bind_ok h
    obtain ⟨rfl, rfl⟩ := word_ok h2
    obtain ⟨_, k3, M3, h3, g3⟩ := bind_ok g2
    have b := node_in h3
    have c := P.dot b.1 g3
    exact ⟨c.1, Nat.le_trans b.2 c.2⟩
  · obtain ⟨rfl, rfl, rfl⟩ := ok_inj h
    exact ⟨hn, Nat.le_refl _⟩
theorem vals_atom {f : Nat} (P : Vals L f) {d k M x k' M'} (h : atomF L (f + 1) d k M = .ok (x, k', M')) : In x M' ∧ M.length ≤ M'.length := by
  unfold atomF at h
  dsimp only at h
  split at h
  · exact node_in h
  · split at h
    · exact node_in h
    · split at h
      · exact node_in h
      · split at h
        · exact P.named h
        · split at h
          · exact P.fields h
          · split at h
            · obtain ⟨_, k2, M2, h2, g2⟩ := bind_ok h
              have a := P.expr h2
              split at g2
              · obtain ⟨_, k3, M3, h3, g3⟩ := bind_ok g2
                have b := P.typ h3
                obtain ⟨_, k4, M4, h4, g4⟩ := bind_ok g3
                obtain ⟨rfl, rfl⟩ := must_ok h4
                have hn := node_in g4
                exact ⟨hn.1, by have := hn.2; have := a.2; have := b.2; omega⟩
              · obtain ⟨_, k4, M4, h4, g4⟩ := bind_ok g2
                obtain ⟨rfl, rfl⟩ := must_ok h4
                obtain ⟨rfl, rfl, rfl⟩ := ok_inj g4
                exact a
            · unfold failA at h; cases h
theorem vals_named {f : Nat} (P : Vals L f) {d s k M x k' M'} (h : namedF L (f + 1) d s k M = .ok (x, k', M')) : In x M' ∧ M.length ≤ M'.length := by
  unfold namedF at h
  split at h
  · obtain ⟨_, k2, M2, h2, g2⟩ := bind_ok h
    obtain ⟨rfl, rfl⟩ := word_ok h2
    exact P.call g2
  · split at h
    · exact P.call h
    · exact node_in h
theorem vals_call {f : Nat} (P : Vals L f) {d m s k M x k' M'} (h : callF L (f + 1) d m s k M = .ok (x, k', M')) : In x M' ∧ M.length ≤ M'.length := by
  unfold callF at h
  obtain ⟨ts, k1, M1, h1, g1⟩ := bind_ok h
  have hk1 : M.length ≤ M1.length := by
    split at h1
    · obtain ⟨_, k2, M2, h2, g2⟩ := bind_ok h1
      have := P.list h2
      obtain ⟨_, k3, M3, h3, g3⟩ := bind_ok g2
      obtain ⟨rfl, rfl⟩ := must_ok h3
      obtain ⟨_, _, rfl⟩ := ok_inj g3
      omega
    · obtain ⟨_, _, rfl⟩ := ok_inj h1
      omega
  obtain ⟨_, k2, M2, h2, g2⟩ := bind_ok g1
  obtain ⟨rfl, rfl⟩ := must_ok h2
  split at g2
  · have hn := node_in g2
    exact ⟨hn.1, by have := hn.2; omega⟩
  · obtain ⟨_, k3, M3, h3, g3⟩ := bind_ok g2
    have := P.list h3
    obtain ⟨_, k4, M4, h4, g4⟩ := bind_ok g3
    obtain ⟨rfl, rfl⟩ := must_ok h4
    have hn := node_in g4
    exact ⟨hn.1, by have := hn.2; omega⟩
theorem vals : ∀ f : Nat, Vals L f
  | 0 => vals_zero
  | f + 1 => ⟨vals_typ (vals f), vals_alt (vals f), vals_part (vals f), vals_fields (vals f), vals_field (vals f), vals_list (vals f), vals_expr (vals f), vals_sum (vals f), vals_prim (vals f), vals_dot (vals f), vals_atom (vals f), vals_named (vals f), vals_call (vals f)⟩
end
end Go.Proofs.YtmgjmagniefhoaaGreatDoor.Tr

/- What is read hangs on the words, not on their places, but for errors' places. No program is walked here. -/
namespace Go.Proofs.YtmgjmagniefhoaaGreatDoor.Tr
open Lx (Bs Wd)
/-- A word, but for its place. -/
def kw (x : Wd) : Int × Bs × Int := (x.kind, x.text, x.num)
/-- An answer, but for the error's place. -/
def er {α : Type} : An α → Except Int (α × Nat × List Nd)
  | .error e => .error e.2
  | .ok x => .ok x
theorem er_bind {α β : Type} {a a' : An α} {g g' : α → Nat → List Nd → An β} (ha : er a = er a') (hg : ∀ x k M, er (g x k M) = er (g' x k M)) : er (bind a g) = er (bind a' g') := by
  cases a with
  | error e =>
    cases a' with
    | error e' =>
      injection ha with ha
      show Except.error e.2 = Except.error e'.2
      rw [ha]
    | ok x => cases ha
  | ok x =>
    cases a' with
    | error e' => cases ha
    | ok y =>
      injection ha with ha
      subst ha
      exact hg _ _ _
theorem er_ite {α : Type} {c : Prop} [Decidable c] {a a' b b' : An α} (h1 : c → er a = er a') (h2 : ¬ c → er b = er b') : er (if c then a else b) = er (if c then a' else b') := by
  split
  · exact h1 ‹_›
  · exact h2 ‹_›
theorem er_refl {α : Type} {a : An α} : er a = er a := rfl
section
variable {L L' : List Wd}
theorem now_kw (h : L.map kw = L'.map kw) (k : Nat) : kw (now L k) = kw (now L' k) := by
  have e : (L.map kw)[k]? = (L'.map kw)[k]? := by rw [h]
  rw [List.getElem?_map, List.getElem?_map] at e
  unfold now
  rw [List.getD_eq_getElem?_getD, List.getD_eq_getElem?_getD]
  cases h1 : L[k]? with
  | none =>
    rw [h1] at e
    cases h2 : L'[k]? with
    | none => rfl
    | some y => rw [h2] at e; cases e
  | some x =>
    rw [h1] at e
    cases h2 : L'[k]? with
    | none => rw [h2] at e; cases e
    | some y => rw [h2] at e; injection e
variable (h : L.map kw = L'.map kw)
include h
theorem kind_kw (k : Nat) : (now L' k).kind = (now L k).kind := by
  have := now_kw h k
  unfold kw at this
  injection this with h1 _
  exact h1.symm
theorem text_kw (k : Nat) : (now L' k).text = (now L k).text := by
  have := now_kw h k
  unfold kw at this
  injection this with _ h2
  injection h2 with h2 _
  exact h2.symm
theorem num_kw (k : Nat) : (now L' k).num = (now L k).num := by
  have := now_kw h k
  unfold kw at this
  injection this with _ h2
  injection h2 with _ h2
  exact h2.symm
theorem isW_kw (s : Bs) (k : Nat) : isW L' s k = isW L s k := by
  unfold isW
  rw [kind_kw h, text_kw h]
omit h in
theorem fail_kw {α : Type} (e : Int) (k : Nat) : er (failA L e k : An α) = er (failA L' e k : An α) := rfl
theorem must_kw (s : Bs) (k : Nat) (M : List Nd) : er (must L s k M) = er (must L' s k M) := by
  unfold must
  rw [isW_kw h]
  exact er_ite (fun _ => rfl) (fun _ => rfl)
theorem word_kw (kind : Int) (k : Nat) (M : List Nd) : er (word L kind k M) = er (word L' kind k M) := by
  unfold word
  rw [kind_kw h, text_kw h]
  exact er_ite (fun _ => rfl) (fun _ => rfl)
theorem fresh_kw (l : List Bs) (kind : Int) (k : Nat) (M : List Nd) : er (fresh L l kind k M) = er (fresh L' l kind k M) := by
  unfold fresh
  rw [kind_kw h, text_kw h]
  exact er_ite (fun _ => rfl) (fun _ => word_kw h kind k M)
omit h in
theorem room_kw (a b : Int) (k : Nat) (M : List Nd) : er (room L a b k M) = er (room L' a b k M) := by
  unfold room
  exact er_ite (fun _ => rfl) (fun _ => rfl)
omit h in
theorem deep_kw (d : Int) (k : Nat) (M : List Nd) : er (deep L d k M) = er (deep L' d k M) := by
  unfold deep
  exact er_ite (fun _ => rfl) (fun _ => rfl)
omit h in
theorem node_kw (n : Nd) (k : Nat) (M : List Nd) : er (node L n k M) = er (node L' n k M) := by
  unfold node
  exact er_ite (fun _ => rfl) (fun _ => rfl)
theorem shape_kw (n : Int) (k : Nat) (M : List Nd) : er (shapeF L n k M) = er (shapeF L' n k M) := by
  unfold shapeF
  dsimp only
  rw [kind_kw h, text_kw h]
  exact er_ite (fun _ => rfl) (fun _ => er_ite (fun _ => node_kw _ _ _) (fun _ => er_ite (fun _ => node_kw _ _ _) (fun _ => rfl)))
omit h
/-- Each rule. -/
structure Sam (L L' : List Wd) (f : Nat) : Prop where
  typ : ∀ d k M, er (typF L f d k M) = er (typF L' f d k M)
  alt : ∀ d l k M, er (altF L f d l k M) = er (altF L' f d l k M)
  part : ∀ d k M, er (partF L f d k M) = er (partF L' f d k M)
  fields : ∀ t d k M, er (fieldsF L f t d k M) = er (fieldsF L' f t d k M)
  field : ∀ t d ks l k M, er (fieldF L f t d ks l k M) = er (fieldF L' f t d ks l k M)
  list : ∀ t d n l k M, er (listF L f t d n l k M) = er (listF L' f t d n l k M)
  expr : ∀ d k M, er (exprF L f d k M) = er (exprF L' f d k M)
  sum : ∀ d n k M, er (sumF L f d n k M) = er (sumF L' f d n k M)
  prim : ∀ d k M, er (primF L f d k M) = er (primF L' f d k M)
  dot : ∀ n k M, er (dotF L f n k M) = er (dotF L' f n k M)
  atom : ∀ d k M, er (atomF L f d k M) = er (atomF L' f d k M)
  named : ∀ d s k M, er (namedF L f d s k M) = er (namedF L' f d s k M)
  call : ∀ d m s k M, er (callF L f d m s k M) = er (callF L' f d m s k M)
theorem sam_zero : Sam L L' 0 := by
  constructor <;> intros <;> first | (rw [typF, typF]) | (rw [altF, altF]) | (rw [partF, partF]) | (rw [fieldsF, fieldsF]) | (rw [fieldF, fieldF]) | (rw [listF, listF]) | (rw [exprF, exprF]) | (rw [sumF, sumF]) | (rw [primF, primF]) | (rw [dotF, dotF]) | (rw [atomF, atomF]) | (rw [namedF, namedF]) | (rw [callF, callF])
include h
theorem sam_succ {f : Nat} (P : Sam L L' f) : Sam L L' (f + 1) := by
  have ei : ∀ (t : Bool) (d : Int) (k : Nat) (M : List Nd), er (if t = true then typF L f d k M else exprF L f d k M) = er (if t = true then typF L' f d k M else exprF L' f d k M) := fun t d k M => er_ite (fun _ => P.typ d k M) (fun _ => P.expr d k M)
  refine ⟨fun d k M => ?_, fun d l k M => ?_, fun d k M => ?_, fun t d k M => ?_, fun t d ks l k M => ?_, fun t d n l k M => ?_, fun d k M => ?_, fun d n k M => ?_, fun d k M => ?_, fun n k M => ?_, fun d k M => ?_, fun d s k M => ?_, fun d m s k M => ?_⟩
  · rw [typF, typF]
    exact er_bind (deep_kw _ _ _) fun _ _ _ => er_bind (P.part _ _ _) fun _ _ _ => P.alt _ _ _ _
  · rw [altF, altF, isW_kw h]
    exact er_ite (fun _ => er_bind (room_kw _ _ _ _) fun _ _ _ => er_bind (P.part _ _ _) fun _ _ _ => P.alt _ _ _ _) (fun _ => er_ite (fun _ => rfl) (fun _ => node_kw _ _ _))
  · rw [partF, partF]
    rw [kind_kw h, text_kw h, isW_kw h, isW_kw h]
    exact er_ite (fun _ => node_kw _ _ _) fun _ => er_ite (fun _ => node_kw _ _ _) fun _ => er_ite (fun _ => node_kw _ _ _) fun _ => er_ite (fun _ => er_bind (must_kw h _ _ _) fun _ _ _ => er_bind (word_kw h _ _ _) fun _ _ _ => node_kw _ _ _) fun _ =>
      er_ite (fun _ => P.fields _ _ _ _) fun _ => er_ite (fun _ => er_bind (P.typ _ _ _) fun _ _ _ => er_bind (must_kw h _ _ _) fun _ _ _ => rfl) fun _ => rfl
  · rw [fieldsF, fieldsF, isW_kw h]
    exact er_ite (fun _ => node_kw _ _ _) fun _ => er_bind (P.field _ _ _ _ _ _) fun _ _ _ => er_bind (must_kw h _ _ _) fun _ _ _ => node_kw _ _ _
  · rw [fieldF, fieldF]
    refine er_bind (room_kw _ _ _ _) fun _ _ _ => er_bind (fresh_kw h _ _ _ _) fun _ _ _ => er_bind (must_kw h _ _ _) fun _ _ _ => er_bind (ei _ _ _ _) fun _ _ _ => ?_
    rw [isW_kw h]
    exact er_ite (fun _ => P.field _ _ _ _ _ _) fun _ => rfl
  · rw [listF, listF]
    refine er_bind (room_kw _ _ _ _) fun _ _ _ => er_bind (ei _ _ _ _) fun _ _ _ => ?_
    rw [isW_kw h]
    exact er_ite (fun _ => P.list _ _ _ _ _ _) fun _ => rfl
  · rw [exprF, exprF]
    refine er_bind (deep_kw _ _ _) fun _ _ _ => ?_
    rw [isW_kw h, isW_kw h]
    refine er_ite (fun _ => er_bind (word_kw h _ _ _) fun _ _ _ => er_bind (must_kw h _ _ _) fun _ _ _ => er_bind (P.expr _ _ _) fun _ _ _ => er_bind (must_kw h _ _ _) fun _ _ _ => er_bind (P.expr _ _ _) fun _ _ _ => node_kw _ _ _) fun _ =>
      er_ite (fun _ => er_bind (P.expr _ _ _) fun _ _ _ => er_bind (must_kw h _ _ _) fun _ _ _ => er_bind (P.expr _ _ _) fun _ _ _ => er_bind (must_kw h _ _ _) fun _ _ _ => er_bind (P.expr _ _ _) fun _ _ _ => node_kw _ _ _) fun _ =>
      er_bind (P.prim _ _ _) fun _ _ _ => er_bind (P.sum _ _ _ _) fun _ _ _ => ?_
    rw [isW_kw h]
    exact er_ite (fun _ => shape_kw h _ _ _) fun _ => rfl
  · rw [sumF, sumF, isW_kw h, isW_kw h, isW_kw h, text_kw h]
    exact er_ite (fun _ => er_bind (P.prim _ _ _) fun _ _ _ => er_bind (node_kw _ _ _) fun _ _ _ => P.sum _ _ _ _) fun _ => rfl
  · rw [primF, primF]
    exact er_bind (P.atom _ _ _) fun _ _ _ => P.dot _ _ _
  · rw [dotF, dotF, isW_kw h]
    exact er_ite (fun _ => er_bind (word_kw h _ _ _) fun _ _ _ => er_bind (node_kw _ _ _) fun _ _ _ => P.dot _ _ _) fun _ => rfl
  · rw [atomF, atomF]
    rw [kind_kw h, text_kw h, num_kw h, isW_kw h, isW_kw h]
    refine er_ite (fun _ => node_kw _ _ _) fun _ => er_ite (fun _ => node_kw _ _ _) fun _ => er_ite (fun _ => node_kw _ _ _) fun _ => er_ite (fun _ => P.named _ _ _ _) fun _ => er_ite (fun _ => P.fields _ _ _ _) fun _ => er_ite (fun _ => er_bind (P.expr _ _ _) fun _ _ _ => ?_) fun _ => rfl
    rw [isW_kw h]
    exact er_ite (fun _ => er_bind (P.typ _ _ _) fun _ _ _ => er_bind (must_kw h _ _ _) fun _ _ _ => node_kw _ _ _) fun _ => er_bind (must_kw h _ _ _) fun _ _ _ => rfl
  · rw [namedF, namedF, isW_kw h, isW_kw h, isW_kw h]
    exact er_ite (fun _ => er_bind (word_kw h _ _ _) fun _ _ _ => P.call _ _ _ _ _) fun _ => er_ite (fun _ => P.call _ _ _ _ _) fun _ => node_kw _ _ _
  · rw [callF, callF, isW_kw h]
    refine er_bind (er_ite (fun _ => er_bind (P.list _ _ _ _ _ _) fun _ _ _ => er_bind (must_kw h _ _ _) fun _ _ _ => rfl) fun _ => rfl) fun _ _ _ => er_bind (must_kw h _ _ _) fun _ _ _ => ?_
    rw [isW_kw h]
    exact er_ite (fun _ => node_kw _ _ _) fun _ => er_bind (P.list _ _ _ _ _ _) fun _ _ _ => er_bind (must_kw h _ _ _) fun _ _ _ => node_kw _ _ _
theorem sam : ∀ f : Nat, Sam L L' f
  | 0 => sam_zero
  | f + 1 => sam_succ h (sam f)
theorem len_kw : L'.length = L.length := by
  have := congrArg List.length h
  rw [List.length_map, List.length_map] at this
  exact this.symm
theorem fuel_kw : fuel L' = fuel L := by
  unfold fuel
  rw [len_kw h]
theorem typ_kw (d : Int) (k : Nat) (M : List Nd) : er (typ L d k M) = er (typ L' d k M) := by
  unfold typ
  rw [fuel_kw h]
  exact (sam h _).typ _ _ _
theorem expr_kw (d : Int) (k : Nat) (M : List Nd) : er (expr L d k M) = er (expr L' d k M) := by
  unfold expr
  rw [fuel_kw h]
  exact (sam h _).expr _ _ _
theorem varsF_kw (kind : Int) (bt : Bs) : ∀ (f : Nat) (l : List Vr) (k : Nat) (M : List Nd), er (varsF L f kind bt l k M) = er (varsF L' f kind bt l k M)
  | 0, l, k, M => by rw [varsF, varsF]
  | f + 1, l, k, M => by
    rw [varsF, varsF]
    refine er_bind (room_kw _ _ _ _) fun _ _ _ => er_bind (fresh_kw h _ _ _ _) fun _ _ _ => er_bind (must_kw h _ _ _) fun _ _ _ => er_bind (typ_kw h _ _ _) fun _ _ _ => ?_
    rw [isW_kw h]
    exact er_ite (fun _ => varsF_kw kind bt f _ _ _) fun _ => rfl
theorem vars_kw (kind : Int) (bt stop : Bs) (k : Nat) (M : List Nd) : er (vars L kind bt stop k M) = er (vars L' kind bt stop k M) := by
  unfold vars
  rw [fuel_kw h]
  exact er_bind (varsF_kw h _ _ _ _ _ _) fun _ _ _ => er_bind (must_kw h _ _ _) fun _ _ _ => rfl
theorem decl_kw (m : Int) (k : Nat) (M : List Nd) : er (decl L m k M) = er (decl L' m k M) := by
  unfold decl
  exact er_bind (room_kw _ _ _ _) fun _ _ _ => er_bind (word_kw h _ _ _) fun _ _ _ => er_bind (must_kw h _ _ _) fun _ _ _ => er_bind (typ_kw h _ _ _) fun _ _ _ => rfl
theorem func_kw (m : Int) (k : Nat) (M : List Nd) : er (func L m k M) = er (func L' m k M) := by
  unfold func
  refine er_bind (room_kw _ _ _ _) fun _ _ _ => er_bind (word_kw h _ _ _) fun _ k1 M1 => ?_
  rw [isW_kw h]
  refine er_bind (er_ite (fun _ => vars_kw h _ _ _ _ _) fun _ => rfl) fun _ _ _ => er_bind (must_kw h _ _ _) fun _ _ _ => ?_
  rw [isW_kw h]
  exact er_bind (er_ite (fun _ => rfl) fun _ => vars_kw h _ _ _ _ _) fun _ _ _ => er_bind (must_kw h _ _ _) fun _ _ _ => er_bind (typ_kw h _ _ _) fun _ _ _ => er_bind (must_kw h _ _ _) fun _ _ _ => er_bind (expr_kw h _ _ _) fun _ _ _ => rfl
theorem importsF_kw : ∀ (f : Nat) (l : List Bs) (k : Nat) (M : List Nd), er (importsF L f l k M) = er (importsF L' f l k M)
  | 0, l, k, M => by rw [importsF, importsF]
  | f + 1, l, k, M => by
    rw [importsF, importsF, isW_kw h]
    exact er_ite (fun _ => er_bind (room_kw _ _ _ _) fun _ _ _ => er_bind (fresh_kw h _ _ _ _) fun _ _ _ => importsF_kw f _ _ _) fun _ => rfl
theorem declsF_kw : ∀ (f : Nat) (l : List Vr) (k : Nat) (M : List Nd), er (declsF L f l k M) = er (declsF L' f l k M)
  | 0, l, k, M => by rw [declsF, declsF]
  | f + 1, l, k, M => by
    rw [declsF, declsF, isW_kw h]
    exact er_ite (fun _ => er_bind (decl_kw h _ _ _) fun _ _ _ => declsF_kw f _ _ _) fun _ => rfl
theorem funcsF_kw : ∀ (f : Nat) (l : List Fd) (k : Nat) (M : List Nd), er (funcsF L f l k M) = er (funcsF L' f l k M)
  | 0, l, k, M => by rw [funcsF, funcsF]
  | f + 1, l, k, M => by
    rw [funcsF, funcsF, isW_kw h]
    exact er_ite (fun _ => er_bind (func_kw h _ _ _) fun _ _ _ => funcsF_kw f _ _ _) fun _ => rfl
/-- An answer of module, but for the error's place. -/
def erM : Except Er Md → Except Int Md
  | .error e => .error e.2
  | .ok m => .ok m
omit h
theorem erM_match (a a' : An (Bs × List Bs × List Vr × List Fd)) : er a = er a' → erM (match a with | .error e => .error e | .ok ((s, is, ts, fs), _, M) => .ok ⟨s, is, ts, fs, M⟩) = erM (match a' with | .error e => .error e | .ok ((s, is, ts, fs), _, M) => .ok ⟨s, is, ts, fs, M⟩) := by
  intro ha
  cases a with
  | error e =>
    cases a' with
    | error e' =>
      injection ha with ha
      show Except.error e.2 = Except.error e'.2
      rw [ha]
    | ok x => cases ha
  | ok x =>
    cases a' with
    | error e' => cases ha
    | ok y =>
      injection ha with ha
      subst ha
      rfl
include h
theorem module_kw : erM (module_ L) = erM (module_ L') := by
  unfold module_
  refine erM_match _ _ ?_
  rw [fuel_kw h]
  refine er_bind (must_kw h _ _ _) fun _ _ _ => er_bind (word_kw h _ _ _) fun _ _ _ => er_bind (importsF_kw h _ _ _ _) fun _ _ _ => er_bind (declsF_kw h _ _ _ _) fun _ _ _ => er_bind (funcsF_kw h _ _ _ _) fun _ _ _ => ?_
  rw [kind_kw h]
  exact er_ite (fun _ => rfl) fun _ => rfl
end
end Go.Proofs.YtmgjmagniefhoaaGreatDoor.Tr

/- The tree's reader in memory. Conditions: those that each theorem names. -/
namespace Go.Proofs.YtmgjmagniefhoaaGreatDoor
open Go.RowKit Go.Maps

/-- What of the reader stays while types and expressions are read: the words, the name, the lists of imports, types, functions. -/
structure RC where
  lv : Value
  nm : Value
  iv : Value
  tv : Value
  fv : Value
def rcells (c : RC) (k : Nat) (nv : Value) : Array Value := #[c.lv, .int .i64 k, c.nm, c.iv, c.tv, c.fv, nv]
/-- The block in which the reader's nodes lie. -/
def nvOf (w : World) (rb : Nat) : Option Nat := ((w.cell? ⟨rb, 6, none⟩).getD undef).ownBlock
def cellN (n : Tr.Nd) (kv lv : Value) : List Value := [.int .i64 n.kind, .int .i64 n.num, .string (st n.mod), .string (st n.name), kv, lv]
def ints (l : List Int) : List Value := l.map fun z => .int .i64 z
def flatN (xs : List (Tr.Nd × Value × Value)) : List Value := xs.flatMap fun x => cellN x.1 x.2.1 x.2.2
theorem flatN_append (L M : List (Tr.Nd × Value × Value)) : flatN (L ++ M) = flatN L ++ flatN M := List.flatMap_append
theorem flatN_length : ∀ L : List (Tr.Nd × Value × Value), (flatN L).length = L.length * 6
  | [] => rfl
  | p :: L => by
    show (cellN p.1 p.2.1 p.2.2 ++ flatN L).length = _
    rw [List.length_append, flatN_length L, List.length_cons]
    show 6 + _ = _
    omega
/-- A node's own lists. -/
def NdOwn (w : World) (rb : Nat) (x : Tr.Nd × Value × Value) : Prop := w.ownsRow rb 9 1 x.2.1 x.1.keys.length (strs x.1.keys) ∧ w.ownsRow rb 3 1 x.2.2 x.1.l.length (ints x.1.l)
/-- The nodes that are read. -/
def NodesP (w : World) (rb : Nat) (nv : Value) (ns : List Tr.Nd) : Prop := ∃ xs : List (Tr.Nd × Value × Value), xs.map (·.1) = ns ∧ w.ownsRow rb 57 6 nv ns.length (flatN xs) ∧ ∀ x ∈ xs, NdOwn w rb x
/-- The words: the last one is the end, and no other. -/
def EndsL (L : List Lx.Wd) : Prop := ∀ k, k < L.length → ((Tr.now L k).kind = 7 ↔ k + 1 = L.length)
theorem WsAt.kp {S : Nat → Prop} {w w' : World} {v : Value} {L : List Lx.Wd} {rb : Nat} (h : WsAt w v L) (hk : Kp S w w') (hS : ∀ q, S q → rb ≤ q) (hl : ∀ ad n cc, v = .slice (some ad) n cc → ad.block < rb) : WsAt w' v L := by
  obtain ⟨A, c, rfl, hn, hA⟩ := h
  refine ⟨A, c, rfl, hn, fun b off n e => ?_⟩
  obtain ⟨rfl, h2⟩ := hA b off n e
  have hb : b < rb := by
    have := hl ⟨b, off, none⟩ _ _ (by rw [e])
    exact this
  refine ⟨rfl, fun j hj k hk4 => ?_⟩
  have h3 := h2 j hj k hk4
  have h4 : (cellW L[j])[k]? = some ((cellW L[j])[k]'(by show k < 4; exact hk4)) := List.getElem?_eq_getElem _
  rw [h4] at h3 ⊢
  exact hk.cell h3 (fun hq => by have h5 : rb ≤ b := hS _ hq; omega)
/-- A field's node has one part, among the nodes. -/
def NOk (ns : List Tr.Nd) : Prop := ∀ x ∈ ns, x.kind = 18 → ∃ m : Int, x.l = [m] ∧ 0 ≤ m ∧ m < ns.length
/-- The reader. -/
structure Rd (w : World) (rb : Nat) (c : RC) (L : List Lx.Wd) (k : Nat) (ns : List Tr.Nd) : Prop where
  blk : ∃ nv, Blk w rb 65 (rcells c k nv) ∧ NodesP w rb nv ns
  ws : WsAt w c.lv L
  low : ∀ ad n cc, c.lv = .slice (some ad) n cc → ad.block < rb
  lt : k < L.length
  ends : EndsL L
  few : L.length ≤ 70000
  txt : ∀ j, (Tr.now L j).text.length ≤ 70000
  many : ns.length ≤ 4000
  nok : NOk ns
def nvV (w : World) (rb : Nat) : Value := (w.cell? ⟨rb, 6, none⟩).getD undef
def nvLen : Value → Nat
  | .slice _ n _ => n
  | _ => 0
/-- The blocks of the nodes' own lists. -/
def NB (w : World) (rb q : Nat) : Prop := ∃ b i u, nvOf w rb = some b ∧ i < nvLen (nvV w rb) * 6 ∧ w.cell? ⟨b, i, none⟩ = some u ∧ u.ownBlock = some q
theorem nvOf_rd {w : World} {rb : Nat} {c : RC} {k : Nat} {nv : Value} (h : Blk w rb 65 (rcells c k nv)) : nvOf w rb = nv.ownBlock := by
  unfold nvOf
  rw [h.cell 6]
  rfl
theorem nvV_rd {w : World} {rb : Nat} {c : RC} {k : Nat} {nv : Value} (h : Blk w rb 65 (rcells c k nv)) : nvV w rb = nv := by
  unfold nvV
  rw [h.cell 6]
  rfl
theorem Rd.rlt {w : World} {rb k : Nat} {c : RC} {L : List Lx.Wd} {ns : List Tr.Nd} (h : Rd w rb c L k ns) : rb < w.heap.size := by
  obtain ⟨nv, hb, _⟩ := h.blk
  exact hb.lt
theorem Rd.nlt {w : World} {rb k : Nat} {c : RC} {L : List Lx.Wd} {ns : List Tr.Nd} (h : Rd w rb c L k ns) {b : Nat} (hb : nvOf w rb = some b) : b < w.heap.size := by
  obtain ⟨nv, h1, xs, h2, h3, h4⟩ := h.blk
  rw [nvOf_rd h1] at hb
  exact own_lt h3 hb
theorem nb_same {S : Nat → Prop} {w w' : World} {rb k : Nat} {c : RC} {L : List Lx.Wd} {ns : List Tr.Nd} (h : Rd w rb c L k ns) (hk : Kp S w w') (hS : ∀ b, nvOf w rb = some b → ¬ S b) (hc : nvV w' rb = nvV w rb) {q : Nat} (hq : NB w' rb q) : NB w rb q := by
  obtain ⟨b, i, u, h1, h2, h3, h4⟩ := hq
  have e : nvOf w' rb = nvOf w rb := by
    have : (nvV w' rb).ownBlock = (nvV w rb).ownBlock := by rw [hc]
    exact this
  rw [e] at h1
  rw [hc] at h2
  refine ⟨b, i, u, h1, h2, ?_, h4⟩
  rw [← h3]
  exact (World.cell?_of_block (w := w) (w' := w') (a := ⟨b, i, none⟩) (hk.block b (h.nlt h1) (hS b h1))).symm
/-- What may turn: the reader's block, the row of its nodes, new blocks; the nodes' lists are old ones, new ones, or among X. -/
structure FrX (rb : Nat) (X : Nat → Prop) (w w' : World) : Prop where
  kp : Kp (fun q => q = rb ∨ nvOf w rb = some q) w w'
  nv : ∀ q, nvOf w' rb = some q → nvOf w rb = some q ∨ w.heap.size ≤ q
  nb : ∀ q, NB w' rb q → NB w rb q ∨ w.heap.size ≤ q ∨ X q
abbrev Fr (rb : Nat) (w w' : World) : Prop := FrX rb (fun _ => False) w w'
theorem FrX.transX {rb : Nat} {X X' : Nat → Prop} {w w1 w2 : World} (h : FrX rb X w w1) (h' : FrX rb X' w1 w2) (hX : ∀ q, X' q → X q ∨ w.heap.size ≤ q) : FrX rb X w w2 :=
  ⟨h.kp.trans h'.kp (fun q hq => hq.elim (fun e => .inl (.inl e)) (fun e => (h.nv q e).imp .inr id)), fun q hq => (h'.nv q hq).elim (fun e => h.nv q e) (fun e => .inr (Nat.le_trans h.kp.size e)),
    fun q hq => by
      rcases h'.nb q hq with e | e | e
      · exact h.nb q e
      · exact .inr (.inl (Nat.le_trans h.kp.size e))
      · rcases hX q e with e | e
        · exact .inr (.inr e)
        · exact .inr (.inl e)⟩
theorem Fr.trans {rb : Nat} {w w1 w2 : World} (h : Fr rb w w1) (h' : Fr rb w1 w2) : Fr rb w w2 := FrX.transX h h' (fun _ e => e.elim)
theorem FrX.trans {rb : Nat} {w w1 w2 : World} (h : Fr rb w w1) (h' : Fr rb w1 w2) : Fr rb w w2 := Fr.trans h h'
theorem Fr.of_below {rb : Nat} {w w' : World} {k : Nat} {c : RC} {L : List Lx.Wd} {ns : List Tr.Nd} (hb : Below w.heap.size w w') (hR : Rd w rb c L k ns) : Fr rb w w' := by
  have e : w'.cell? ⟨rb, 6, none⟩ = w.cell? ⟨rb, 6, none⟩ := hb.cell (p := ⟨rb, 6, none⟩) hR.rlt
  refine ⟨Kp.of_below hb _, fun q hq => ?_, fun q hq => .inl (nb_same hR (Kp.of_below hb fun _ => False) (fun _ _ e => e) (by unfold nvV; rw [e]) hq)⟩
  unfold nvOf at hq ⊢
  rw [e] at hq
  exact .inl hq
/-- A block of a caller's own stays. -/
theorem FrX.blk {rb : Nat} {X : Nat → Prop} {w w' : World} (h : FrX rb X w w') {g : Nat} {t : TypeId} {cs : Array Value} (hb : Blk w g t cs) (hr : g ≠ rb) (hn : nvOf w rb ≠ some g) : Blk w' g t cs :=
  hb.kp h.kp (fun e => e.elim hr hn)
theorem FrX.ne {rb : Nat} {X : Nat → Prop} {w w' : World} (h : FrX rb X w w') {g : Nat} (hlt : g < w.heap.size) (hn : nvOf w rb ≠ some g) : nvOf w' rb ≠ some g := fun e => (h.nv g e).elim hn (fun h2 => by omega)
/-- An error, as it is thrown. -/
def thrown (er : Tr.Er) : List PanicEntry := [{ v := .iface 62 (.agg #[.int .i64 er.1, .int .i64 er.2]), recovered := false }]
/-- What a part of the reader answers. -/
def EPX {α : Type} (X : Nat → Prop) (val : α → Value) (w : World) (rb : Nat) (c : RC) (L : List Lx.Wd) (A : Tr.An α) (e : Ending) (w' : World) : Prop := match A with
  | .ok (x, k, ns) => e = .returned (val x) ∧ Rd w' rb c L k ns ∧ FrX rb X w w'
  | .error er => e = .panicked (thrown er) ∧ Below rb w w'
abbrev EP {α : Type} (val : α → Value) (w : World) (rb : Nat) (c : RC) (L : List Lx.Wd) (A : Tr.An α) (e : Ending) (w' : World) : Prop := EPX (fun _ => False) val w rb c L A e w'
theorem EPX.cases {α : Type} {X : Nat → Prop} {val : α → Value} {w : World} {rb : Nat} {c : RC} {L : List Lx.Wd} {A : Tr.An α} {e : Ending} {w' : World} (h : EPX X val w rb c L A e w') :
    (∃ x k ns, A = .ok (x, k, ns) ∧ e = .returned (val x) ∧ Rd w' rb c L k ns ∧ FrX rb X w w') ∨ (∃ er, A = .error er ∧ e = .panicked (thrown er) ∧ Below rb w w') := by
  cases A with
  | error er => exact .inr ⟨er, rfl, h⟩
  | ok x =>
    obtain ⟨x, k, ns⟩ := x
    exact .inl ⟨x, k, ns, rfl, h⟩
end Go.Proofs.YtmgjmagniefhoaaGreatDoor
