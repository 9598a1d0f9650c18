/- What stands in these texts of the proof: Pb Tx Tp. Conditions: those that each theorem names. -/
import Derived.Test.YtmgjmagniefhoaaGreatDoorAa06
import Derived.Test.YtmgjmagniefhoaaGreatDoorAa01
/- Words that were cut may be cut again. No program is walked here. -/
namespace Go.Proofs.YtmgjmagniefhoaaGreatDoor
namespace Lx
theorem all_take (p : UInt8 → Bool) : ∀ l : Bs, (l.takeWhile p).all p = true
  | [] => rfl
  | c :: l => by
    unfold List.takeWhile
    split
    · rename_i h
      rw [List.all_cons, h, all_take p l]; rfl
    · rfl
theorem fold_ge : ∀ (t : Bs) (a : Int), 0 ≤ a → t.all digit = true → a * 10 ^ t.length ≤ t.foldl (fun n c => 10 * n + ((c.toNat : Int) - 48)) a
  | [], a, h, _ => by simp
  | c :: t, a, h, hd => by
    rw [List.all_cons, Bool.and_eq_true] at hd
    have hc : 48 ≤ c.toNat := by have := hd.1; unfold digit at this; rw [decide_eq_true_eq] at this; exact this.1
    have ih := fold_ge t (10 * a + ((c.toNat : Int) - 48)) (by omega) hd.2
    rw [List.foldl_cons, List.length_cons]
    refine Int.le_trans ?_ ih
    have h1 : a * 10 ^ (t.length + 1) = (10 * a) * 10 ^ t.length := by rw [Int.pow_succ, Int.mul_comm (10 ^ t.length) 10, ← Int.mul_assoc, Int.mul_comm a 10]
    rw [h1]
    exact Int.mul_le_mul_of_nonneg_right (by omega) (Int.pow_nonneg (by decide))
theorem number_few {t : Bs} (h : 0 ≤ number t) : t ≠ [] ∧ t.all digit = true ∧ t.length ≤ 20 := by
  unfold number at h
  split at h
  · rename_i hc
    obtain ⟨h1, h2, h3, h4⟩ := hc
    refine ⟨h1, h2, ?_⟩
    cases t with
    | nil => exact absurd rfl h1
    | cons c t =>
      by_cases h48 : c = 48
      · subst h48
        have := h3 rfl
        omega
      · have hd := h2
        rw [List.all_cons, Bool.and_eq_true] at hd
        have hc : 48 ≤ c.toNat := by have := hd.1; unfold digit at this; rw [decide_eq_true_eq] at this; exact this.1
        have hc2 : c.toNat ≠ 48 := fun e => h48 (by
          have : c = UInt8.ofNat c.toNat := by simp
          rw [this, e]; rfl)
        have hg := fold_ge t ((c.toNat : Int) - 48) (by omega) hd.2
        have hv : val (c :: t) = t.foldl (fun n c => 10 * n + ((c.toNat : Int) - 48)) ((c.toNat : Int) - 48) := by
          unfold val
          rw [List.foldl_cons]
          congr 1
          omega
        rw [hv] at h4
        refine Classical.byContradiction fun hl => ?_
        rw [List.length_cons] at hl
        have hp : (10 : Int) ^ 20 ≤ 10 ^ t.length := by
          have : 20 ≤ t.length := by omega
          exact_mod_cast Nat.pow_le_pow_right (by omega) this
        have h1 : (1 : Int) * 10 ^ t.length ≤ ((c.toNat : Int) - 48) * 10 ^ t.length := Int.mul_le_mul_of_nonneg_right (by omega) (Int.pow_nonneg (by decide))
        have h20 : (10 : Int) ^ 20 = 100000000000000000000 := by decide
        omega
  · exact absurd h (by decide)
theorem formed_few {t : Bs} {a b : UInt8 → Bool} (h : formed t a b = true) : t ≠ [] ∧ t.length ≤ 16 := by
  unfold formed at h
  cases t with
  | nil => exact absurd h (by simp)
  | cons c t =>
    simp only [Bool.and_eq_true, decide_eq_true_eq] at h
    exact ⟨by simp, h.1.1⟩
theorem key_few {t : Bs} (h : isKey t = true) : t ∈ keysL := by
  unfold isKey at h
  obtain ⟨k, hk, e⟩ := List.any_eq_true.1 h
  rw [decide_eq_true_eq] at e
  rw [← e]; exact hk
/-- A word that was cut may be. -/
theorem good_word {l : Bs} {k : Int} {t : Bs} {m : Int} {len : Nat} (h : word? l = some (k, t, m, len)) : Good ⟨k, t, m, 0⟩ ∧ len = (shown k t).length ∧ len ≤ l.length ∧ 1 ≤ len := by
  unfold word? at h
  split at h
  · rename_i g hg
    injection h with h
    injection h with h1 h
    injection h with h2 h
    injection h with h3 h
    subst h1 h2 h3 h
    have hm := List.mem_of_find?_eq_some hg
    have hp : g.isPrefixOf l = true := List.find?_some (p := fun g => List.isPrefixOf g l) hg
    have hgd := good_sign hm
    have : 1 ≤ g.length := by
      have := hgd.tne
      cases g with
      | nil => exact absurd rfl this
      | cons c g => simp
    exact ⟨hgd, rfl, (List.isPrefixOf_iff_prefix.1 hp).length_le, this⟩
  · split at h
    · cases h
    · rename_i c l' hs
      split at h
      · rename_i h39
        subst h39
        split at h
        · rename_i htg
          injection h with h
          injection h with h1 h
          injection h with h2 h
          injection h with h3 h
          subst h1 h2 h3 h
          have hall := all_take goes l'
          have hlen : (l'.takeWhile goes).length ≤ l'.length := (List.takeWhile_sublist goes).length_le
          generalize l'.takeWhile goes = t at *
          have hf := formed_few htg
          have hsh : shown 4 t = 39 :: t := rfl
          refine ⟨⟨rfl, by show (4 : Int) ≠ 7; decide, hf.1, by show t.length ≤ 20; omega, ?_, fun r hr => ?_⟩, by rw [hsh]; rfl, by rw [List.length_cons]; omega, by omega⟩
          · show 35 ∉ shown 4 t
            rw [hsh]
            intro hm
            rcases List.mem_cons.1 hm with h1 | h1
            · exact absurd h1 (by decide)
            · exact goes_35 hall h1
          · show word? (shown 4 t ++ r) = some (4, t, 0, (shown 4 t).length)
            have hr2 := run_ends hall hr
            rw [hsh, List.cons_append]
            unfold word?
            rw [show sign? (39 :: (t ++ r)) = none from rfl]
            dsimp only
            rw [if_pos rfl, hr2, if_pos htg]
            rfl
        · cases h
      · rename_i h39
        have hall := all_take goes (c :: l')
        have hlen : ((c :: l').takeWhile goes).length ≤ (c :: l').length := (List.takeWhile_sublist goes).length_le
        simp only [] at h
        generalize (c :: l').takeWhile goes = t at *
        have key : ∀ {kk : Int} {mm : Int}, kk ≠ 4 → kk ≠ 7 → t ≠ [] → t.length ≤ 20 → (∀ r, Ends r → word? (t ++ r) = some (kk, t, mm, t.length)) → Good ⟨kk, t, mm, 0⟩ ∧ t.length = (shown kk t).length ∧ t.length ≤ (c :: l').length ∧ 1 ≤ t.length := by
          intro kk mm h4 h7 hne hf hw
          have hsh : shown kk t = t := by unfold shown; rw [if_neg h4]
          refine ⟨⟨rfl, h7, hne, hf, ?_, fun r hr => ?_⟩, by rw [hsh], hlen, ?_⟩
          · show 35 ∉ shown kk t
            rw [hsh]; exact goes_35 hall
          · show word? (shown kk t ++ r) = some (kk, t, mm, (shown kk t).length)
            rw [hsh]; exact hw r hr
          · cases t with
            | nil => exact absurd rfl hne
            | cons a t => simp
        have pw : ∀ r, Ends r → t ≠ [] → word? (t ++ r) = (if isKey t = true then some (5, t, 0, t.length) else if isName t = true then some (1, t, 0, t.length) else if isType t = true then some (2, t, 0, t.length) else if 0 ≤ number t then some (3, t, number t, t.length) else none) := by
          intro r hr hne
          cases t with
          | nil => exact absurd rfl hne
          | cons a t => exact plain_word hall hr
        split at h
        · rename_i hk
          injection h with h
          injection h with h1 h
          injection h with h2 h
          injection h with h3 h
          subst h1 h2 h3 h
          have hgk := good_key (key_few hk)
          exact key (by decide) (by decide) hgk.tne hgk.few (fun r hr => by rw [pw r hr hgk.tne, if_pos hk])
        · rename_i hk
          split at h
          · rename_i hn
            injection h with h
            injection h with h1 h
            injection h with h2 h
            injection h with h3 h
            subst h1 h2 h3 h
            have hf : t ≠ [] ∧ t.length ≤ 16 := by
              have hn2 := hn
              unfold isName at hn2
              rw [Bool.and_eq_true] at hn2
              exact formed_few hn2.1
            exact key (by decide) (by decide) hf.1 (by omega) (fun r hr => by rw [pw r hr hf.1, if_neg hk, if_pos hn])
          · rename_i hn
            split at h
            · rename_i ht
              injection h with h
              injection h with h1 h
              injection h with h2 h
              injection h with h3 h
              subst h1 h2 h3 h
              have hf := formed_few ht
              exact key (by decide) (by decide) hf.1 (by omega) (fun r hr => by rw [pw r hr hf.1, if_neg hk, if_neg hn, if_pos ht])
            · rename_i ht
              split at h
              · rename_i hnum
                injection h with h
                injection h with h1 h
                injection h with h2 h
                injection h with h3 h
                subst h1 h2 h3 h
                have hf := number_few hnum
                exact key (by decide) (by decide) hf.1 hf.2.2 (fun r hr => by rw [pw r hr hf.1, if_neg hk, if_neg hn, if_neg ht, if_pos hnum])
              · cases h
/-- Words that were cut, without their places, may be; how long they are. -/
def strip (x : Wd) : Wd := ⟨x.kind, x.text, x.num, 0⟩
theorem cutF_strip (n : Nat) : ∀ (f : Nat) (l : Bs) (ws : List Wd), cutF n f l = .ok ws → (∀ x ∈ ws, Good (strip x)) ∧ (ws.map fun x => (shown x.kind x.text).length + 1).sum ≤ 2 * l.length
  | 0, _, ws, h => by
    injection h with h
    subst h
    exact ⟨fun x hx => absurd hx (by simp), Nat.zero_le _⟩
  | f + 1, l, ws, h => by
    unfold cutF at h
    split at h
    · injection h with h
      subst h
      exact ⟨fun x hx => absurd hx (by simp), Nat.zero_le _⟩
    · rename_i c r hs
      have hl := skip_le false l
      rw [hs] at hl
      split at h
      · cases h
      · rename_i k t m len hw
        obtain ⟨hg, hlen, hle, h1⟩ := good_word hw
        split at h
        · cases h
        · rename_i he
          injection h with h
          subst h
          obtain ⟨ih1, ih2⟩ := cutF_strip n f _ _ he
          refine ⟨fun x hx => ?_, ?_⟩
          · rcases List.mem_cons.1 hx with rfl | hx
            · exact hg
            · exact ih1 x hx
          · rw [List.map_cons, List.sum_cons]
            show (shown k t).length + 1 + _ ≤ _
            rw [← hlen]
            rw [List.length_drop] at ih2
            omega
end Lx
end Go.Proofs.YtmgjmagniefhoaaGreatDoor

/- A module as a tree, read of words: plainly. No program is named here. -/
namespace Go.Proofs.YtmgjmagniefhoaaGreatDoor.Tr
open Lx (Bs Wd)

structure Nd where
  kind : Int
  num : Int
  mod : Bs
  name : Bs
  keys : List Bs
  l : List Int
deriving DecidableEq
structure Vr where
  name : Bs
  type : Int
deriving DecidableEq
structure Fd where
  name : Bs
  vars : List Vr
  params : List Vr
  ret : Int
  body : Int
deriving DecidableEq
structure Md where
  name : Bs
  imports : List Bs
  types : List Vr
  fns : List Fd
  nodes : List Nd
deriving DecidableEq
def Md.none : Md := ⟨[], [], [], [], []⟩
/-- An error: its place, its number. -/
abbrev Er := Int × Int
/-- What a reader answers: a thing, where it is then, the nodes that are read. -/
abbrev An (α : Type) := Except Er (α × Nat × List Nd)

section
variable (L : List Wd)
def now (k : Nat) : Wd := L.getD k ⟨7, [], 0, 0⟩
def isW (s : Bs) (k : Nat) : Bool := (decide ((now L k).kind = 6) || decide ((now L k).kind = 5)) && decide ((now L k).text = s)
def failA {α : Type} (e : Int) (k : Nat) : An α := .error ((now L k).pos, e)
def must (s : Bs) (k : Nat) (M : List Nd) : An Unit := if isW L s k = true then .ok ((), k + 1, M) else failA L 30 k
def word (kind : Int) (k : Nat) (M : List Nd) : An Bs := if (now L k).kind = kind then .ok ((now L k).text, k + 1, M) else failA L 30 k
def fresh (l : List Bs) (kind : Int) (k : Nat) (M : List Nd) : An Bs := if (now L k).kind = kind ∧ (now L k).text ∈ l then failA L 30 k else word L kind k M
def room (many most : Int) (k : Nat) (M : List Nd) : An Unit := if most ≤ many then failA L 5 k else .ok ((), k, M)
def node (n : Nd) (k : Nat) (M : List Nd) : An Int := if M.length = 4000 then .error ((now L (k - 1)).pos, 5) else .ok ((M.length : Int), k, M ++ [n])
def deep (d : Int) (k : Nat) (M : List Nd) : An Unit := if 60 < d then failA L 31 k else .ok ((), k, M)
def bind {α β : Type} (a : An α) (g : α → Nat → List Nd → An β) : An β := match a with
  | .error e => .error e
  | .ok (x, k, M) => g x k M
/-- The kind of a key that is a type by itself, an expression by itself; 0: none. -/
def plainT (s : Bs) : Int := if s = [100, 121, 110] then 1 else if s = [110, 117, 108, 108] then 2 else if s = [98, 111, 111, 108] then 3 else if s = [105, 110, 116] then 4 else 0
def plainE (s : Bs) : Int := if s = [116, 114, 117, 101] then 13 else if s = [102, 97, 108, 115, 101] then 14 else if s = [110, 117, 108, 108] then 15 else 0
def leaf (kind : Int) (name : Bs) : Nd := ⟨kind, 0, [], name, [], []⟩

mutual
def typF : Nat → Int → Nat → List Nd → An Int
  | 0, _, _, _ => .error (-1, -1)
  | f + 1, d, k, M => bind (deep L d k M) fun _ k M => bind (partF f d k M) fun n k M => altF f d [n] k M
/-- Further parts. -/
def altF : Nat → Int → List Int → Nat → List Nd → An Int
  | 0, _, _, _, _ => .error (-1, -1)
  | f + 1, d, l, k, M =>
    if isW L [124] k = true then bind (room L l.length 16 (k + 1) M) fun _ k M => bind (partF f d k M) fun n k M => altF f d (l ++ [n]) k M
    else if l.length = 1 then .ok (l.getD 0 0, k, M) else node L ⟨8, 0, [], [], [], l⟩ k M
def partF : Nat → Int → Nat → List Nd → An Int
  | 0, _, _, _ => .error (-1, -1)
  | f + 1, d, k, M =>
    let w := now L k
    if w.kind = 5 ∧ plainT w.text ≠ 0 then node L (leaf (plainT w.text) []) (k + 1) M
    else if w.kind = 4 then node L (leaf 5 w.text) (k + 1) M
    else if w.kind = 2 then node L (leaf 6 w.text) (k + 1) M
    else if w.kind = 1 then bind (must L [58, 58] (k + 1) M) fun _ k M => bind (word L 2 k M) fun s k M => node L ⟨6, 0, w.text, s, [], []⟩ k M
    else if isW L [123] k = true then fieldsF f true d (k + 1) M
    else if isW L [40] k = true then bind (typF f (d + 1) (k + 1) M) fun n k M => bind (must L [41] k M) fun _ k M => .ok (n, k, M)
    else failA L 30 k
/-- A record's fields, behind {; t: of types. -/
def fieldsF : Nat → Bool → Int → Nat → List Nd → An Int
  | 0, _, _, _, _ => .error (-1, -1)
  | f + 1, t, d, k, M =>
    if isW L [125] k = true then node L ⟨if t then 7 else 17, 0, [], [], [], []⟩ (k + 1) M
    else bind (fieldF f t d [] [] k M) fun x k M => bind (must L [125] k M) fun _ k M => node L ⟨if t then 7 else 17, 0, [], [], x.1, x.2⟩ k M
def fieldF : Nat → Bool → Int → List Bs → List Int → Nat → List Nd → An (List Bs × List Int)
  | 0, _, _, _, _, _, _ => .error (-1, -1)
  | f + 1, t, d, keys, l, k, M =>
    bind (room L keys.length 16 k M) fun _ k M => bind (fresh L keys 1 k M) fun s k M => bind (must L [58] k M) fun _ k M =>
    bind (if t = true then typF f (d + 1) k M else exprF f (d + 1) k M) fun n k M =>
    if isW L [44] k = true then fieldF f t d (keys ++ [s]) (l ++ [n]) (k + 1) M else .ok ((keys ++ [s], l ++ [n]), k, M)
/-- Things with commas between; t: types. -/
def listF : Nat → Bool → Int → Nat → List Int → Nat → List Nd → An (List Int)
  | 0, _, _, _, _, _, _ => .error (-1, -1)
  | f + 1, t, d, many, l, k, M =>
    bind (room L many 16 k M) fun _ k M =>
    bind (if t = true then typF f (d + 1) k M else exprF f (d + 1) k M) fun n k M =>
    if isW L [44] k = true then listF f t d (many + 1) (l ++ [n]) (k + 1) M else .ok (l ++ [n], k, M)
def exprF : Nat → Int → Nat → List Nd → An Int
  | 0, _, _, _ => .error (-1, -1)
  | f + 1, d, k, M => bind (deep L d k M) fun _ k M =>
    if isW L [108, 101, 116] k = true then
      bind (word L 1 (k + 1) M) fun s k M => bind (must L [61] k M) fun _ k M => bind (exprF f (d + 1) k M) fun a k M =>
      bind (must L [105, 110] k M) fun _ k M => bind (exprF f (d + 1) k M) fun b k M => node L ⟨22, 0, [], s, [], [a, b]⟩ k M
    else if isW L [105, 102] k = true then
      bind (exprF f (d + 1) (k + 1) M) fun a k M => bind (must L [116, 104, 101, 110] k M) fun _ k M => bind (exprF f (d + 1) k M) fun b k M =>
      bind (must L [101, 108, 115, 101] k M) fun _ k M => bind (exprF f (d + 1) k M) fun c k M => node L ⟨20, 0, [], [], [], [a, b, c]⟩ k M
    else bind (primF f d k M) fun n k M => bind (sumF f d n k M) fun n k M =>
      if isW L [105, 115] k = true then shapeF n k M else .ok (n, k, M)
/-- An is, behind something. -/
def shapeF (n : Int) (k : Nat) (M : List Nd) : An Int :=
  let x := M.getD n.toNat (leaf 0 [])
  if x.kind ≠ 16 ∧ (x.kind ≠ 18 ∨ (M.getD (x.l.getD 0 0).toNat (leaf 0 [])).kind ≠ 16) then failA L 30 k else
    let w := now L (k + 1)
    if w.kind = 4 then node L ⟨21, 0, [], 39 :: w.text, [], [n]⟩ (k + 2) M
    else if w.kind = 5 ∧ w.text ∈ [[110, 117, 108, 108], [98, 111, 111, 108], [105, 110, 116], [114, 101, 99]] then node L ⟨21, 0, [], w.text, [], [n]⟩ (k + 2) M
    else failA L 30 (k + 1)
def sumF : Nat → Int → Int → Nat → List Nd → An Int
  | 0, _, _, _, _ => .error (-1, -1)
  | f + 1, d, n, k, M =>
    if (isW L [43] k || isW L [60] k || isW L [61, 61] k) = true then
      bind (primF f d (k + 1) M) fun b k2 M => bind (node L ⟨23, 0, [], (now L k).text, [], [n, b]⟩ k2 M) fun n k M => sumF f d n k M
    else .ok (n, k, M)
def primF : Nat → Int → Nat → List Nd → An Int
  | 0, _, _, _ => .error (-1, -1)
  | f + 1, d, k, M => bind (atomF f d k M) fun n k M => dotF f n k M
def dotF : Nat → Int → Nat → List Nd → An Int
  | 0, _, _, _ => .error (-1, -1)
  | f + 1, n, k, M =>
    if isW L [46] k = true then bind (word L 1 (k + 1) M) fun s k M => bind (node L ⟨18, 0, [], s, [], [n]⟩ k M) fun n k M => dotF f n k M
    else .ok (n, k, M)
def atomF : Nat → Int → Nat → List Nd → An Int
  | 0, _, _, _ => .error (-1, -1)
  | f + 1, d, k, M =>
    let w := now L k
    if w.kind = 5 ∧ plainE w.text ≠ 0 then node L (leaf (plainE w.text) []) (k + 1) M
    else if w.kind = 3 then node L ⟨11, w.num, [], [], [], []⟩ (k + 1) M
    else if w.kind = 4 then node L (leaf 12 w.text) (k + 1) M
    else if w.kind = 1 then namedF f d w.text (k + 1) M
    else if isW L [123] k = true then fieldsF f false d (k + 1) M
    else if isW L [40] k = true then bind (exprF f (d + 1) (k + 1) M) fun n k M =>
      if isW L [97, 115] k = true then bind (typF f (d + 1) (k + 1) M) fun t k M => bind (must L [41] k M) fun _ k M => node L ⟨24, 0, [], [], [], [n, t]⟩ k M
      else bind (must L [41] k M) fun _ k M => .ok (n, k, M)
    else failA L 30 k
def namedF : Nat → Int → Bs → Nat → List Nd → An Int
  | 0, _, _, _, _ => .error (-1, -1)
  | f + 1, d, name, k, M =>
    if isW L [58, 58] k = true then bind (word L 1 (k + 1) M) fun s k M => callF f d name s k M
    else if isW L [91] k = true ∨ isW L [40] k = true then callF f d [] name k M
    else node L (leaf 16 name) k M
def callF : Nat → Int → Bs → Bs → Nat → List Nd → An Int
  | 0, _, _, _, _, _ => .error (-1, -1)
  | f + 1, d, mod, name, k, M =>
    bind (if isW L [91] k = true then bind (listF f true d 0 [] (k + 1) M) fun l k M => bind (must L [93] k M) fun _ k M => .ok (l, k, M) else .ok ([], k, M)) fun ts k M =>
    bind (must L [40] k M) fun _ k M =>
    if isW L [41] k = true then node L ⟨19, ts.length, mod, name, [], ts⟩ (k + 1) M
    else bind (listF f false d 0 ts k M) fun l k M => bind (must L [41] k M) fun _ k M => node L ⟨19, ts.length, mod, name, [], l⟩ k M
end
/-- Enough for what words there are. -/
def fuel : Nat := 8 * L.length + 8
def typ (d : Int) (k : Nat) (M : List Nd) : An Int := typF L (fuel L) d k M
def expr (d : Int) (k : Nat) (M : List Nd) : An Int := exprF L (fuel L) d k M
/-- Parameters. -/
def varsF : Nat → Int → Bs → List Vr → Nat → List Nd → An (List Vr)
  | 0, _, _, _, _, _ => .error (-1, -1)
  | f + 1, kind, between, l, k, M =>
    bind (room L l.length 16 k M) fun _ k M => bind (fresh L (l.map (·.name)) kind k M) fun s k M => bind (must L between k M) fun _ k M =>
    bind (typ L 1 k M) fun t k M =>
    if isW L [44] k = true then varsF f kind between (l ++ [⟨s, t⟩]) (k + 1) M else .ok (l ++ [⟨s, t⟩], k, M)
def vars (kind : Int) (between stop : Bs) (k : Nat) (M : List Nd) : An (List Vr) :=
  bind (varsF L (fuel L) kind between [] k M) fun l k M => bind (must L stop k M) fun _ k M => .ok (l, k, M)
def decl (many : Int) (k : Nat) (M : List Nd) : An Vr :=
  bind (room L many 64 k M) fun _ k M => bind (word L 2 (k + 1) M) fun s k M => bind (must L [61] k M) fun _ k M =>
  bind (typ L 1 k M) fun t k M => .ok (⟨s, t⟩, k, M)
def func (many : Int) (k : Nat) (M : List Nd) : An Fd :=
  bind (room L many 64 k M) fun _ k M => bind (word L 1 (k + 1) M) fun s k M =>
  bind (if isW L [91] k = true then vars L 2 [60, 58] [93] (k + 1) M else .ok ([], k, M)) fun vs k M =>
  bind (must L [40] k M) fun _ k M =>
  bind (if isW L [41] k = true then .ok ([], k + 1, M) else vars L 1 [58] [41] k M) fun ps k M =>
  bind (must L [58] k M) fun _ k M => bind (typ L 1 k M) fun r k M => bind (must L [61] k M) fun _ k M => bind (expr L 1 k M) fun b k M =>
  .ok (⟨s, vs, ps, r, b⟩, k, M)
def importsF : Nat → List Bs → Nat → List Nd → An (List Bs)
  | 0, _, _, _ => .error (-1, -1)
  | f + 1, l, k, M =>
    if isW L [105, 109, 112, 111, 114, 116] k = true then
      bind (room L l.length 16 (k + 1) M) fun _ k M => bind (fresh L l 1 k M) fun s k M => importsF f (l ++ [s]) k M
    else .ok (l, k, M)
def declsF : Nat → List Vr → Nat → List Nd → An (List Vr)
  | 0, _, _, _ => .error (-1, -1)
  | f + 1, l, k, M => if isW L [116, 121, 112, 101] k = true then bind (decl L l.length k M) fun x k M => declsF f (l ++ [x]) k M else .ok (l, k, M)
def funcsF : Nat → List Fd → Nat → List Nd → An (List Fd)
  | 0, _, _, _ => .error (-1, -1)
  | f + 1, l, k, M => if isW L [102, 110] k = true then bind (func L l.length k M) fun x k M => funcsF f (l ++ [x]) k M else .ok (l, k, M)
def module_ : Except Er Md :=
  match bind (must L [109, 111, 100, 117, 108, 101] 0 []) fun _ k M => bind (word L 1 k M) fun s k M =>
    bind (importsF L (fuel L) [] k M) fun is k M => bind (declsF L (fuel L) [] k M) fun ts k M => bind (funcsF L (fuel L) [] k M) fun fs k M =>
    if (now L k).kind = 7 then (.ok ((s, is, ts, fs), k, M) : An (Bs × List Bs × List Vr × List Fd)) else failA L 30 k with
  | .error e => .error e
  | .ok ((s, is, ts, fs), _, M) => .ok ⟨s, is, ts, fs, M⟩
end
end Go.Proofs.YtmgjmagniefhoaaGreatDoor.Tr

/- The plain reader goes forward. No program is walked here. -/
namespace Go.Proofs.YtmgjmagniefhoaaGreatDoor.Tr
open Lx (Bs Wd)
theorem bind_ok {α β : Type} {a : An α} {g : α → Nat → List Nd → An β} {r : β × Nat × List Nd} (h : bind a g = .ok r) : ∃ x k M, a = .ok (x, k, M) ∧ g x k M = .ok r := by
  unfold bind at h
  split at h
  · cases h
  · exact ⟨_, _, _, rfl, h⟩
section
variable {L : List Wd}
theorem must_ok {s : Bs} {k k' : Nat} {M M' : List Nd} {u : Unit} (h : must L s k M = .ok (u, k', M')) : k' = k + 1 ∧ M' = M := by
  unfold must failA at h
  split at h
  · injection h with h; injection h with _ h; injection h with h1 h2; exact ⟨h1.symm, h2.symm⟩
  · cases h
theorem word_ok {kind : Int} {k k' : Nat} {M M' : List Nd} {t : Bs} (h : word L kind k M = .ok (t, k', M')) : k' = k + 1 ∧ M' = M := by
  unfold word failA at h
  split at h
  · injection h with h; injection h with _ h; injection h with h1 h2; exact ⟨h1.symm, h2.symm⟩
  · cases h
theorem fresh_ok {l : List Bs} {kind : Int} {k k' : Nat} {M M' : List Nd} {t : Bs} (h : fresh L l kind k M = .ok (t, k', M')) : k' = k + 1 ∧ M' = M := by
  unfold fresh failA at h
  split at h
  · cases h
  · exact word_ok h
theorem room_ok {a b : Int} {k k' : Nat} {M M' : List Nd} {u : Unit} (h : room L a b k M = .ok (u, k', M')) : k' = k ∧ M' = M := by
  unfold room failA at h
  split at h
  · cases h
  · injection h with h; injection h with _ h; injection h with h1 h2; exact ⟨h1.symm, h2.symm⟩
theorem deep_ok {d : Int} {k k' : Nat} {M M' : List Nd} {u : Unit} (h : deep L d k M = .ok (u, k', M')) : k' = k ∧ M' = M := by
  unfold deep failA at h
  split at h
  · cases h
  · injection h with h; injection h with _ h; injection h with h1 h2; exact ⟨h1.symm, h2.symm⟩
theorem node_ok {n : Nd} {k k' : Nat} {M M' : List Nd} {z : Int} (h : node L n k M = .ok (z, k', M')) : k' = k ∧ M' = M ++ [n] ∧ z = M.length := by
  unfold node at h
  split at h
  · cases h
  · injection h with h; injection h with h0 h; injection h with h1 h2; exact ⟨h1.symm, h2.symm, h0.symm⟩
theorem ok_inj {α : Type} {x x' : α} {k k' : Nat} {M M' : List Nd} (h : (.ok (x, k, M) : An α) = .ok (x', k', M')) : x = x' ∧ k = k' ∧ M = M' := by
  injection h with h; injection h with h0 h; injection h with h1 h2; exact ⟨h0, h1, h2⟩
theorem shape_ok {n z : Int} {k k' : Nat} {M M' : List Nd} (h : shapeF L n k M = .ok (z, k', M')) : k' = k + 2 := by
  unfold shapeF failA at h
  dsimp only at h
  split at h
  · cases h
  · split at h
    · exact (node_ok h).1
    · split at h
      · exact (node_ok h).1
      · cases h
/-- How each rule goes forward. -/
structure Prog (L : List Wd) (f : Nat) : Prop where
  typ : ∀ {d k M x k' M'}, typF L f d k M = .ok (x, k', M') → k < k'
  alt : ∀ {d l k M x k' M'}, altF L f d l k M = .ok (x, k', M') → k ≤ k'
  part : ∀ {d k M x k' M'}, partF L f d k M = .ok (x, k', M') → k < k'
  fields : ∀ {t d k M x k' M'}, fieldsF L f t d k M = .ok (x, k', M') → k < k'
  field : ∀ {t d ks l k M x k' M'}, fieldF L f t d ks l k M = .ok (x, k', M') → k < k'
  list : ∀ {t d n l k M x k' M'}, listF L f t d n l k M = .ok (x, k', M') → k < k'
  expr : ∀ {d k M x k' M'}, exprF L f d k M = .ok (x, k', M') → k < k'
  sum : ∀ {d n k M x k' M'}, sumF L f d n k M = .ok (x, k', M') → k ≤ k'
  prim : ∀ {d k M x k' M'}, primF L f d k M = .ok (x, k', M') → k < k'
  dot : ∀ {n k M x k' M'}, dotF L f n k M = .ok (x, k', M') → k ≤ k'
  atom : ∀ {d k M x k' M'}, atomF L f d k M = .ok (x, k', M') → k < k'
  named : ∀ {d s k M x k' M'}, namedF L f d s k M = .ok (x, k', M') → k ≤ k'
  call : ∀ {d m s k M x k' M'}, callF L f d m s k M = .ok (x, k', M') → k < k'
theorem prog_zero : Prog L 0 := by
  constructor <;> (intros; rename_i h; first | (unfold typF at h; cases h) | (unfold altF at h; cases h) | (unfold partF at h; cases h) | (unfold fieldsF at h; cases h) | (unfold fieldF at h; cases h) | (unfold listF at h; cases h) | (unfold exprF at h; cases h) | (unfold sumF at h; cases h) | (unfold primF at h; cases h) | (unfold dotF at h; cases h) | (unfold atomF at h; cases h) | (unfold namedF at h; cases h) | (unfold callF at h; cases h))
theorem prog_typ {f : Nat} (P : Prog L f) {d k M x k' M'} (h : typF L (f + 1) d k M = .ok (x, k', M')) : k < k' := by
  unfold typF at h
  have hb := bind_ok h
  clear h
  obtain ⟨_, k1, M1, h1, h⟩ := hb
  obtain ⟨rfl, rfl⟩ := deep_ok h1
  have hb := bind_ok h
  clear h
  obtain ⟨n, k2, M2, h2, h⟩ := hb
  have := P.part h2
  have := P.alt h
  omega
theorem prog_alt {f : Nat} (P : Prog L f) {d l k M x k' M'} (h : altF L (f + 1) d l k M = .ok (x, k', M')) : k ≤ k' := by
  unfold altF at h
  split at h
  · have hb := bind_ok h
    clear h
    obtain ⟨_, k1, M1, h1, h⟩ := hb
    obtain ⟨rfl, rfl⟩ := room_ok h1
    have hb := bind_ok h
    clear h
    obtain ⟨n, k2, M2, h2, h⟩ := hb
    have := P.part h2
    have := P.alt h
    omega
  · split at h
    · obtain ⟨_, rfl, _⟩ := ok_inj h
      omega
    · have := (node_ok h).1
      omega
theorem prog_part {f : Nat} (P : Prog L f) {d k M x k' M'} (h : partF L (f + 1) d k M = .ok (x, k', M')) : k < k' := by
  unfold partF at h
  dsimp only at h
  split at h
  · have := (node_ok h).1; omega
  · split at h
    · have := (node_ok h).1; omega
    · split at h
      · have := (node_ok h).1; omega
      · split at h
        · have hb := bind_ok h
          clear h
          obtain ⟨_, k1, M1, h1, h⟩ := hb
          obtain ⟨rfl, rfl⟩ := must_ok h1
          have hb := bind_ok h
          clear h
          obtain ⟨_, k2, M2, h2, h⟩ := hb
          obtain ⟨rfl, rfl⟩ := word_ok h2
          have := (node_ok h).1; omega
        · split at h
          · have := P.fields h; omega
          · split at h
            · have hb := bind_ok h
              clear h
              obtain ⟨n, k1, M1, h1, h⟩ := hb
              have := P.typ h1
              have hb := bind_ok h
              clear h
              obtain ⟨_, k2, M2, h2, h⟩ := hb
              obtain ⟨rfl, rfl⟩ := must_ok h2
              obtain ⟨_, rfl, _⟩ := ok_inj h
              omega
            · unfold failA at h; cases h
theorem prog_fields {f : Nat} (P : Prog L f) {t d k M x k' M'} (h : fieldsF L (f + 1) t d k M = .ok (x, k', M')) : k < k' := by
  unfold fieldsF at h
  split at h
  · have := (node_ok h).1; omega
  · have hb := bind_ok h
    clear h
    obtain ⟨_, k1, M1, h1, h⟩ := hb
    have := P.field h1
    have hb := bind_ok h
    clear h
    obtain ⟨_, k2, M2, h2, h⟩ := hb
    obtain ⟨rfl, rfl⟩ := must_ok h2
    have := (node_ok h).1; omega
theorem prog_either {f : Nat} (P : Prog L f) {t : Bool} {d k M x k' M'} (h : (if t = true then typF L f d k M else exprF L f d k M) = .ok (x, k', M')) : k < k' := by
  split at h
  · exact P.typ h
  · exact P.expr h
theorem prog_field {f : Nat} (P : Prog L f) {t d ks l k M x k' M'} (h : fieldF L (f + 1) t d ks l k M = .ok (x, k', M')) : k < k' := by
  unfold fieldF at h
  have hb := bind_ok h
  clear h
  obtain ⟨_, k1, M1, h1, h⟩ := hb
  obtain ⟨rfl, rfl⟩ := room_ok h1
  have hb := bind_ok h
  clear h
  obtain ⟨_, k2, M2, h2, h⟩ := hb
  obtain ⟨rfl, rfl⟩ := fresh_ok h2
  have hb := bind_ok h
  clear h
  obtain ⟨_, k3, M3, h3, h⟩ := hb
  obtain ⟨rfl, rfl⟩ := must_ok h3
  have hb := bind_ok h
  clear h
  obtain ⟨n, k4, M4, h4, h⟩ := hb
  have := prog_either P h4
  split at h
  · have := P.field h; omega
  · obtain ⟨_, rfl, _⟩ := ok_inj h
    omega
theorem prog_list {f : Nat} (P : Prog L f) {t d n l k M x k' M'} (h : listF L (f + 1) t d n l k M = .ok (x, k', M')) : k < k' := by
  unfold listF at h
  have hb := bind_ok h
  clear h
  obtain ⟨_, k1, M1, h1, h⟩ := hb
  obtain ⟨rfl, rfl⟩ := room_ok h1
  have hb := bind_ok h
  clear h
  obtain ⟨n, k4, M4, h4, h⟩ := hb
  have := prog_either P h4
  split at h
  · have := P.list h; omega
  · obtain ⟨_, rfl, _⟩ := ok_inj h
    omega
theorem prog_expr {f : Nat} (P : Prog L f) {d k M x k' M'} (h : exprF L (f + 1) d k M = .ok (x, k', M')) : k < k' := by
  unfold exprF at h
  have hb := bind_ok h
  clear h
  obtain ⟨_, k1, M1, h1, h⟩ := hb
  obtain ⟨rfl, rfl⟩ := deep_ok h1
  split at h
  · have hb := bind_ok h
    clear h
    obtain ⟨_, k2, M2, h2, h⟩ := hb
    obtain ⟨rfl, rfl⟩ := word_ok h2
    have hb := bind_ok h
    clear h
    obtain ⟨_, k3, M3, h3, h⟩ := hb
    obtain ⟨rfl, rfl⟩ := must_ok h3
    have hb := bind_ok h
    clear h
    obtain ⟨_, k4, M4, h4, h⟩ := hb
    have := P.expr h4
    have hb := bind_ok h
    clear h
    obtain ⟨_, k5, M5, h5, h⟩ := hb
    obtain ⟨rfl, rfl⟩ := must_ok h5
    have hb := bind_ok h
    clear h
    obtain ⟨_, k6, M6, h6, h⟩ := hb
    have := P.expr h6
    have := (node_ok h).1; omega
  · split at h
    · have hb := bind_ok h
      clear h
      obtain ⟨_, k2, M2, h2, h⟩ := hb
      have := P.expr h2
      have hb := bind_ok h
      clear h
      obtain ⟨_, k3, M3, h3, h⟩ := hb
      obtain ⟨rfl, rfl⟩ := must_ok h3
      have hb := bind_ok h
      clear h
      obtain ⟨_, k4, M4, h4, h⟩ := hb
      have := P.expr h4
      have hb := bind_ok h
      clear h
      obtain ⟨_, k5, M5, h5, h⟩ := hb
      obtain ⟨rfl, rfl⟩ := must_ok h5
      have hb := bind_ok h
      clear h
      obtain ⟨_, k6, M6, h6, h⟩ := hb
      have := P.expr h6
      have := (node_ok h).1; omega
    · have hb := bind_ok h
      clear h
      obtain ⟨_, k2, M2, h2, h⟩ := hb
      have := P.prim h2
      have hb := bind_ok h
      clear h
      obtain ⟨_, k3, M3, h3, h⟩ := hb
      have := P.sum h3
      split at h
      · have := shape_ok h; omega
      · obtain ⟨_, rfl, _⟩ := ok_inj h
        omega
theorem prog_sum {f : Nat} (P : Prog L f) {d n k M x k' M'} (h : sumF L (f + 1) d n k M = .ok (x, k', M')) : k ≤ k' := by
  unfold sumF at h
  split at h
  · have hb := bind_ok h
    clear h
    obtain ⟨_, k2, M2, h2, h⟩ := hb
    have := P.prim h2
    have hb := bind_ok h
    clear h
    obtain ⟨_, k3, M3, h3, h⟩ := hb
    have := (node_ok h3).1
    have := P.sum h
    omega
  · obtain ⟨_, rfl, _⟩ := ok_inj h
    omega
theorem prog_prim {f : Nat} (P : Prog L f) {d k M x k' M'} (h : primF L (f + 1) d k M = .ok (x, k', M')) : k < k' := by
  unfold primF at h
  have hb := bind_ok h
  clear h
  obtain ⟨_, k2, M2, h2, h⟩ := hb
  have := P.atom h2
  have := P.dot h
  omega
theorem prog_dot {f : Nat} (P : Prog L f) {n k M x k' M'} (h : dotF L (f + 1) n k M = .ok (x, k', M')) : k ≤ k' := by
  unfold dotF at h
  split at h
  · have hb := bind_ok h
    clear h
    obtain ⟨_, k2, M2, h2, h⟩ := hb
    obtain ⟨rfl, rfl⟩ := word_ok h2
    have hb := bind_ok h
    clear h
    obtain ⟨_, k3, M3, h3, h⟩ := hb
    have := (node_ok h3).1
    have := P.dot h
    omega
  · obtain ⟨_, rfl, _⟩ := ok_inj h
    omega
theorem prog_atom {f : Nat} (P : Prog L f) {d k M x k' M'} (h : atomF L (f + 1) d k M = .ok (x, k', M')) : k < k' := by
  unfold atomF at h
  dsimp only at h
  split at h
  · have := (node_ok h).1; omega
  · split at h
    · have := (node_ok h).1; omega
    · split at h
      · have := (node_ok h).1; omega
      · split at h
        · have := P.named h; omega
        · split at h
          · have := P.fields h; omega
          · split at h
            · have hb := bind_ok h
              clear h
              obtain ⟨_, k2, M2, h2, h⟩ := hb
              have := P.expr h2
              split at h
              · have hb := bind_ok h
                clear h
                obtain ⟨_, k3, M3, h3, h⟩ := hb
                have := P.typ h3
                have hb := bind_ok h
                clear h
                obtain ⟨_, k4, M4, h4, h⟩ := hb
                obtain ⟨rfl, rfl⟩ := must_ok h4
                have := (node_ok h).1; omega
              · have hb := bind_ok h
                clear h
                obtain ⟨_, k4, M4, h4, h⟩ := hb
                obtain ⟨rfl, rfl⟩ := must_ok h4
                obtain ⟨_, rfl, _⟩ := ok_inj h
                omega
            · unfold failA at h; cases h
theorem prog_named {f : Nat} (P : Prog L f) {d s k M x k' M'} (h : namedF L (f + 1) d s k M = .ok (x, k', M')) : k ≤ k' := by
  unfold namedF at h
  split at h
  · have hb := bind_ok h
    clear h
    obtain ⟨_, k2, M2, h2, h⟩ := hb
    obtain ⟨rfl, rfl⟩ := word_ok h2
    have := P.call h; omega
  · split at h
    · have := P.call h; omega
    · have := (node_ok h).1; omega
theorem prog_call {f : Nat} (P : Prog L f) {d m s k M x k' M'} (h : callF L (f + 1) d m s k M = .ok (x, k', M')) : k < k' := by
  unfold callF at h
  have hb := bind_ok h
  clear h
  obtain ⟨ts, k1, M1, h1, h⟩ := hb
  have hk1 : k ≤ k1 := by
    split at h1
    · have hb := bind_ok h1
      clear h1
      obtain ⟨_, k2, M2, h2, h1⟩ := hb
      have := P.list h2
      have hb := bind_ok h1
      clear h1
      obtain ⟨_, k3, M3, h3, h1⟩ := hb
      obtain ⟨rfl, rfl⟩ := must_ok h3
      obtain ⟨_, rfl, _⟩ := ok_inj h1
      omega
    · obtain ⟨_, rfl, _⟩ := ok_inj h1
      omega
  have hb := bind_ok h
  clear h
  obtain ⟨_, k2, M2, h2, h⟩ := hb
  obtain ⟨rfl, rfl⟩ := must_ok h2
  split at h
  · have := (node_ok h).1; omega
  · have hb := bind_ok h
    clear h
    obtain ⟨_, k3, M3, h3, h⟩ := hb
    have := P.list h3
    have hb := bind_ok h
    clear h
    obtain ⟨_, k4, M4, h4, h⟩ := hb
    obtain ⟨rfl, rfl⟩ := must_ok h4
    have := (node_ok h).1; omega
theorem prog : ∀ f : Nat, Prog L f
  | 0 => prog_zero
  | f + 1 => ⟨prog_typ (prog f), prog_alt (prog f), prog_part (prog f), prog_fields (prog f), prog_field (prog f), prog_list (prog f), prog_expr (prog f), prog_sum (prog f), prog_prim (prog f), prog_dot (prog f), prog_atom (prog f), prog_named (prog f), prog_call (prog f)⟩
end
end Go.Proofs.YtmgjmagniefhoaaGreatDoor.Tr
