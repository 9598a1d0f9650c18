/- What stands in these texts of the proof: Lx Lg Ma La Lb. Conditions: those that each theorem names. -/
import Derived.Lib.Hide
import Derived.Lib.AtoiAll
import Derived.Lib.ItoaNum
import Derived.WalkKit
import Derived.Handy
import Derived.WalkLawsBesides
import Derived.WalkSpells
import Derived.Deep.QuietTactic
import Derived.BigQuiet
import Derived.Deep.RegionHeld3
import Derived.Maps.OwnSet
import Derived.Deep.AppendLies
import Derived.Maps.AppendAt
import Derived.Test.YtmgjmagniefhoaaGreatDoorProg
/- Words of a text, as lists of bytes. Plain; no program is named here. -/
namespace Go.Proofs.YtmgjmagniefhoaaGreatDoor.Lx

abbrev Bs := List UInt8
def small (c : UInt8) : Bool := decide (97 ≤ c.toNat ∧ c.toNat ≤ 122)
def great (c : UInt8) : Bool := decide (65 ≤ c.toNat ∧ c.toNat ≤ 90)
def digit (c : UInt8) : Bool := decide (48 ≤ c.toNat ∧ c.toNat ≤ 57)
def score (c : UInt8) : Bool := decide (c.toNat = 95)
def goes (c : UInt8) : Bool := small c || great c || digit c || score c

/-- What stands behind blanks and remarks; the flag: in a remark. -/
def skip : Bool → Bs → Bs
  | _, [] => []
  | true, c :: l => if c = 10 then skip false l else skip true l
  | false, c :: l => if c = 32 ∨ c = 10 then skip false l else if c = 35 then skip true l else c :: l

def keysL : List Bs := [[109, 111, 100, 117, 108, 101], [105, 109, 112, 111, 114, 116], [116, 121, 112, 101], [102, 110], [108, 101, 116], [105, 110], [105, 102], [116, 104, 101, 110], [101, 108, 115, 101], [105, 115], [97, 115], [116, 114, 117, 101], [102, 97, 108, 115, 101], [110, 117, 108, 108], [100, 121, 110], [98, 111, 111, 108], [105, 110, 116], [114, 101, 99]]
def signsL : List Bs := [[58, 58], [61, 61], [60, 58], [124], [123], [125], [40], [41], [91], [93], [44], [58], [46], [61], [43], [60]]
def isKey (t : Bs) : Bool := keysL.any fun k => decide (k = t)
def formed (t : Bs) (first : UInt8 → Bool) (other : UInt8 → Bool) : Bool := match t with
  | [] => false
  | c :: _ => decide (t.length ≤ 16) && first c && t.all other
def tagged (t : Bs) : Bool := formed t small fun c => small c || digit c || score c
def isName (t : Bs) : Bool := tagged t && !isKey t
def isType (t : Bs) : Bool := formed t great fun c => small c || great c || digit c
/-- The number that digits tell. -/
def val (t : Bs) : Int := t.foldl (fun n c => 10 * n + ((c.toNat : Int) - 48)) 0
/-- The number of digits; below 0: they are none. -/
def number (t : Bs) : Int := if t ≠ [] ∧ t.all digit = true ∧ (t.head? = some 48 → t.length = 1) ∧ val t ≤ 2147483647 then val t else -1
def sign? (l : Bs) : Option Bs := signsL.find? fun g => g.isPrefixOf l

structure Wd where
  kind : Int
  text : Bs
  num : Int
  pos : Int
deriving DecidableEq

/-- The word at the head, and how long it is there. -/
def word? (l : Bs) : Option (Int × Bs × Int × Nat) :=
  match sign? l with
  | some g => some (6, g, 0, g.length)
  | none =>
    match l with
    | [] => none
    | c :: l' =>
      if c = 39 then
        if tagged (l'.takeWhile goes) = true then some (4, l'.takeWhile goes, 0, (l'.takeWhile goes).length + 1) else none
      else
        let t := (c :: l').takeWhile goes
        if isKey t = true then some (5, t, 0, t.length) else
        if isName t = true then some (1, t, 0, t.length) else
        if isType t = true then some (2, t, 0, t.length) else
        if 0 ≤ number t then some (3, t, number t, t.length) else none
/-- The words of what is left of a text of n bytes; an error's place. -/
def cutF (n : Nat) : Nat → Bs → Except Nat (List Wd)
  | 0, _ => .ok []
  | f + 1, l => match skip false l with
    | [] => .ok []
    | c :: r => match word? (c :: r) with
      | none => .error (n - (c :: r).length)
      | some (k, t, m, len) => match cutF n f ((c :: r).drop len) with
        | .error e => .error e
        | .ok ws => .ok (⟨k, t, m, n - (c :: r).length⟩ :: ws)
def cut (l : Bs) : Except Nat (List Wd) := cutF l.length (l.length + 1) l
end Go.Proofs.YtmgjmagniefhoaaGreatDoor.Lx

/- Numbers of digits, plainly. No program is named here. -/
namespace Go.Proofs.YtmgjmagniefhoaaGreatDoor.Lx

/-- What digits tell, from acc on. -/
def vals (acc : Nat) (t : List UInt8) : Nat := t.foldl (fun n c => 10 * n + (c.toNat - 48)) acc
theorem vals_cons (acc : Nat) (c : UInt8) (t : List UInt8) : vals acc (c :: t) = vals (10 * acc + (c.toNat - 48)) t := by unfold vals; rw [List.foldl_cons]
theorem vals_snoc (acc : Nat) (t : List UInt8) (c : UInt8) : vals acc (t ++ [c]) = 10 * vals acc t + (c.toNat - 48) := by unfold vals; rw [List.foldl_append, List.foldl_cons, List.foldl_nil]
theorem digit_iff {c : UInt8} : digit c = true ↔ 48 ≤ c.toNat ∧ c.toNat ≤ 57 := by unfold digit; exact decide_eq_true_iff
theorem vals_ge : ∀ (t : List UInt8) (acc : Nat), acc ≤ vals acc t
  | [], _ => Nat.le_refl _
  | c :: t, acc => by
    rw [vals_cons]
    have := vals_ge t (10 * acc + (c.toNat - 48))
    omega
theorem val_is : ∀ (t : List UInt8) (acc : Nat), t.all digit = true → t.foldl (fun (n : Int) c => 10 * n + ((c.toNat : Int) - 48)) (acc : Int) = (vals acc t : Int)
  | [], _, _ => rfl
  | c :: t, acc, h => by
    simp only [List.all_cons, Bool.and_eq_true] at h
    have h1 := digit_iff.1 h.1
    rw [vals_cons, List.foldl_cons, ← val_is t _ h.2]
    congr 1
    omega
theorem val_eq {t : List UInt8} (h : t.all digit = true) : val t = (vals 0 t : Int) := val_is t 0 h
theorem parse_ok : ∀ (t : List UInt8) (acc : Nat), t.all digit = true → vals acc t ≤ 2147483647 → Lib.parseUint10 acc t = .ok (vals acc t)
  | [], _, _, _ => rfl
  | c :: t, acc, h, hv => by
    simp only [List.all_cons, Bool.and_eq_true] at h
    have h1 := digit_iff.1 h.1
    rw [vals_cons] at hv ⊢
    have h2 := vals_ge t (10 * acc + (c.toNat - 48))
    unfold Lib.parseUint10
    rw [if_pos h1, if_neg (by omega), if_neg (by omega), show acc * 10 + (c.toNat - 48) = 10 * acc + (c.toNat - 48) by omega]
    exact parse_ok t _ h.2 hv
theorem dec_canon : ∀ (n : Nat) (t : List UInt8), t.length = n → t ≠ [] → t.all digit = true → (t.head? = some 48 → t.length = 1) → Lib.decDigits (vals 0 t) = t
  | 0, t, hl, h0, _, _ => absurd (List.eq_nil_of_length_eq_zero hl) h0
  | n + 1, t, hl, h0, hd, hc => by
    rcases List.eq_nil_or_concat t with h | ⟨i, c, rfl⟩
    · exact absurd h h0
    · rw [List.concat_eq_append] at *
      simp only [List.all_append, List.all_cons, List.all_nil, Bool.and_true, Bool.and_eq_true] at hd
      have hdc := digit_iff.1 hd.2
      have hcc : UInt8.ofNat (48 + (c.toNat - 48)) = c := by
        rw [show 48 + (c.toNat - 48) = c.toNat by omega]
        exact UInt8.ofNat_toNat
      rw [vals_snoc]
      cases i with
      | nil =>
        show Lib.decDigits (10 * 0 + (c.toNat - 48)) = [c]
        rw [Lib.decDigits, dif_pos (by omega), show 48 + (10 * 0 + (c.toNat - 48)) = 48 + (c.toNat - 48) by omega, hcc]
      | cons a i =>
        have ha : a ≠ 48 := fun e => by
          have := hc (by rw [e]; rfl)
          simp at this
        simp only [List.all_cons, Bool.and_eq_true] at hd
        have hda := digit_iff.1 hd.1.1
        have ha2 : a.toNat ≠ 48 := fun e => ha (UInt8.toNat_inj.1 e)
        have hge : 1 ≤ vals 0 (a :: i) := by
          rw [vals_cons]
          have := vals_ge i (10 * 0 + (a.toNat - 48))
          omega
        have ih := dec_canon n (a :: i) (by simpa using hl) (by simp) (by simp [hd.1]) (fun e => absurd (Option.some.inj e) ha)
        rw [Lib.decDigits, dif_neg (by omega), show (10 * vals 0 (a :: i) + (c.toNat - 48)) / 10 = vals 0 (a :: i) by omega, show (10 * vals 0 (a :: i) + (c.toNat - 48)) % 10 = c.toNat - 48 by omega, hcc, ih]
theorem dec_facts (u : Nat) : Lib.decDigits u ≠ [] ∧ (Lib.decDigits u).all digit = true ∧ ((Lib.decDigits u).head? = some 48 → (Lib.decDigits u).length = 1) ∧ vals 0 (Lib.decDigits u) = u := by
  induction u using Nat.strongRecOn with
  | _ u ih =>
    by_cases h : u < 10
    · rw [Lib.decDigits, dif_pos h]
      have hn : (UInt8.ofNat (48 + u)).toNat = 48 + u := by
        show (48 + u) % 256 = 48 + u
        omega
      refine ⟨by simp, ?_, fun _ => rfl, ?_⟩
      · simp only [List.all_cons, List.all_nil, Bool.and_true]
        exact digit_iff.2 (by omega)
      · rw [vals_cons, hn]
        show 10 * 0 + (48 + u - 48) = u
        omega
    · obtain ⟨h1, h2, h3, h4⟩ := ih (u / 10) (by omega)
      rw [Lib.decDigits, dif_neg h]
      have hn : (UInt8.ofNat (48 + u % 10)).toNat = 48 + u % 10 := by
        show (48 + u % 10) % 256 = 48 + u % 10
        omega
      refine ⟨by simp, ?_, fun e => ?_, ?_⟩
      · rw [List.all_append, h2]
        simp only [List.all_cons, List.all_nil, Bool.and_true, Bool.true_and]
        exact digit_iff.2 (by omega)
      · exfalso
        have e2 : (Lib.decDigits (u / 10)).head? = some 48 := by
          cases hx : Lib.decDigits (u / 10) with
          | nil => exact absurd hx h1
          | cons a l => rw [hx] at e; exact e
        have h5 := h3 e2
        obtain ⟨a, ha⟩ := List.length_eq_one_iff.1 h5
        rw [ha] at e2 h4
        have ea : a = 48 := Option.some.inj e2
        rw [ea, vals_cons] at h4
        have : (0 : Nat) = u / 10 := h4
        omega
      · rw [vals_snoc, h4, hn]
        omega
/-- A number that may be: it is what Atoi tells, and what Itoa writes. -/
theorem number_yes {t : List UInt8} (h : 0 ≤ number t) : Lib.atoiAll t = .ok (number t) ∧ number t ≤ 2147483647 ∧ Lib.itoa (number t) = t := by
  unfold number at *
  split at h
  · rename_i hc
    obtain ⟨h0, hd, hh, hv⟩ := hc
    rw [if_pos ⟨h0, hd, hh, hv⟩]
    rw [val_eq hd] at hv ⊢
    have hv2 : vals 0 t ≤ 2147483647 := by omega
    refine ⟨?_, hv, ?_⟩
    · cases t with
      | nil => exact absurd rfl h0
      | cons c r =>
        have hdc : 48 ≤ c.toNat ∧ c.toNat ≤ 57 := by
          simp only [List.all_cons, Bool.and_eq_true] at hd
          exact digit_iff.1 hd.1
        unfold Lib.atoiAll
        simp only
        rw [if_neg (by omega)]
        have hp : Lib.parseMag (c :: r) = .ok (vals 0 (c :: r)) := by
          unfold Lib.parseMag
          first | exact parse_ok _ _ hd hv2 | (rw [if_neg (by simp)]; exact parse_ok _ _ hd hv2) | (simp only; exact parse_ok _ _ hd hv2)
        rw [hp]
        simp only
        rw [if_neg (by omega), if_neg (by omega), if_neg (by omega)]
    · unfold Lib.itoa
      rw [if_neg (by omega)]
      exact dec_canon _ t rfl h0 hd hh
  · omega
theorem number_of {t : List UInt8} {v : Int} (h0 : 0 ≤ v) (h1 : v ≤ 2147483647) (h : Lib.itoa v = t) : number t = v := by
  unfold Lib.itoa at h
  rw [if_neg (by omega)] at h
  obtain ⟨f1, f2, f3, f4⟩ := dec_facts v.toNat
  rw [h] at f1 f2 f3 f4
  unfold number
  rw [val_eq f2, f4, if_pos ⟨f1, f2, f3, by omega⟩]
  omega
end Go.Proofs.YtmgjmagniefhoaaGreatDoor.Lx

/- Words on memory that the walks of this seat share: a block that is known whole, what a call keeps. Condition: none (no program is named here). -/
namespace Go.Proofs.YtmgjmagniefhoaaGreatDoor
open Go.RowKit

theorem hid_ {p : Prop} (h : p) : Hid p := h

theorem add_at (g j : Nat) : (⟨g, 0, none⟩ : Addr).add j = ⟨g, j, none⟩ := by unfold Addr.add; split <;> simp_all
theorem own_cell {w : World} {base : Nat} {e : TypeId} {size n cap g : Nat} {xs : List Value} (h : w.ownsRow base e size (.slice (some ⟨g, 0, none⟩) n cap) n xs) (j : Nat) (u : Value) (hu : xs[j]? = some u) : w.cell? ⟨g, j, none⟩ = some u := by
  rw [← add_at]
  exact h.cells (g := g) rfl j u hu
theorem below_cell {w w' : World} (h : Below w.heap.size w w') {p : Addr} {v : Value} (hc : w.cell? p = some v) : w'.cell? p = some v := (h.cell (World.block_lt_of_cell? w p hc)).trans hc

/-- Block g is just the cells cs of element type t, none frozen. -/
def Blk (w : World) (g : Nat) (t : TypeId) (cs : Array Value) : Prop := w.heap[g]? = some (.cells cs t (0, 0))

/-- What a call keeps: every block that was there, but those of S. -/
structure Kp (S : Nat → Prop) (w w' : World) : Prop where
  os : w'.os = w.os
  tape : w'.tape = w.tape
  output : w'.output = w.output
  size : w.heap.size ≤ w'.heap.size
  block : ∀ k, k < w.heap.size → ¬ S k → w'.heap[k]? = w.heap[k]?

section
variable {w w' w'' : World} {g : Nat} {t : TypeId} {cs : Array Value} {S S' : Nat → Prop}

theorem Blk.lt (h : Blk w g t cs) : g < w.heap.size := by
  rcases Nat.lt_or_ge g w.heap.size with hlt | hge
  · exact hlt
  · unfold Blk at h; rw [Array.getElem?_eq_none hge] at h; cases h
theorem Blk.cell (h : Blk w g t cs) (i : Nat) : w.cell? ⟨g, i, none⟩ = cs[i]? := cell_of_row w g i cs t (0, 0) h
theorem Blk.frozen (h : Blk w g t cs) (i : Nat) : w.frozen? ⟨g, i, none⟩ = false := by
  unfold Blk at h
  simp [World.frozen?, h]
theorem Blk.new (w : World) (t : TypeId) (cs : Array Value) : Blk (w.alloc (.cells cs t)) w.heap.size t cs := heap_alloc_new w _
theorem Blk.drew (h : Blk w g t cs) : Blk w.drew g t cs := h
theorem Blk.drewN (h : Blk w g t cs) (n : Nat) : Blk (w.drewN n) g t cs := h
theorem Blk.alloc (h : Blk w g t cs) (o : Obj) : Blk (w.alloc o) g t cs := (Below.heap_alloc w o g h.lt).trans h
theorem Blk.set_ (h : Blk w g t cs) (i : Nat) (u : Value) : Blk (w.setCell ⟨g, i, none⟩ u) g t (cs.setIfInBounds i u) := by
  unfold Blk at h ⊢
  simp [World.setCell, Array.getElem?_modify, h]
theorem Blk.far (h : Blk w g t cs) {p : Addr} (hp : g ≠ p.block) (u : Value) : Blk (w.setCell p u) g t cs := (Below.heap_setCell w p u g hp).trans h
theorem Blk.kp (h : Blk w g t cs) (hk : Kp S w w') (hg : ¬ S g) : Blk w' g t cs := (hk.block g h.lt hg).trans h
theorem Blk.ne_ {g' : Nat} {t' : TypeId} {cs' : Array Value} (h : Blk w g t cs) (h' : Blk w g' t' cs') (hne : t ≠ t') : g ≠ g' := by
  rintro rfl
  unfold Blk at h h'
  rw [h] at h'
  injection h' with h'
  injection h' with _ ht
  exact hne ht
theorem own_blk_ne {base : Nat} {e : TypeId} {size n : Nat} {v : Value} {xs : List Value} (h : w.ownsRow base e size v n xs) (hg : Blk w g t cs) (hne : e ≠ t) : v.ownBlock ≠ some g := by
  rcases h.2 with ⟨rfl, _⟩ | ⟨g', cap, cur, rfl, _, hh, _⟩
  · simp [Value.ownBlock]
  · intro he
    have : g' = g := by simpa [Value.ownBlock] using he
    subst this
    exact Blk.ne_ (t := e) hh hg hne rfl

theorem Kp.refl (S : Nat → Prop) (w : World) : Kp S w w := ⟨rfl, rfl, rfl, Nat.le_refl _, fun _ _ _ => rfl⟩
theorem Kp.mono (h : Kp S w w') (hs : ∀ k, S k → S' k) : Kp S' w w' := ⟨h.os, h.tape, h.output, h.size, fun k hk hn => h.block k hk (fun x => hn (hs k x))⟩
theorem Kp.trans (h : Kp S w w') (h' : Kp S' w' w'') (hs : ∀ k, S' k → S k ∨ w.heap.size ≤ k) : Kp S w w'' :=
  ⟨h'.os.trans h.os, h'.tape.trans h.tape, h'.output.trans h.output, Nat.le_trans h.size h'.size,
    fun k hk hn => (h'.block k (Nat.lt_of_lt_of_le hk h.size) (fun x => (hs k x).elim hn (fun y => by omega))).trans (h.block k hk hn)⟩
theorem Kp.alloc (h : Kp S w w') (o : Obj) : Kp S w (w'.alloc o) := h.trans (S' := fun _ => False) ⟨rfl, rfl, rfl, by simp, fun k hk _ => Below.heap_alloc _ _ _ hk⟩ (fun _ hk => hk.elim)
theorem Kp.drew (h : Kp S w w') : Kp S w w'.drew := ⟨h.os, h.tape, h.output, h.size, h.block⟩
theorem Kp.drewN (h : Kp S w w') (n : Nat) : Kp S w (w'.drewN n) := ⟨h.os, h.tape, h.output, h.size, h.block⟩
theorem Kp.setCell (h : Kp S w w') {p : Addr} (hp : S p.block ∨ w.heap.size ≤ p.block) (u : Value) : Kp S w (w'.setCell p u) :=
  h.trans (S' := fun k => k = p.block) ⟨rfl, rfl, rfl, by simp [World.setCell], fun k _ hn => Below.heap_setCell _ _ _ _ hn⟩ (fun k hk => by rw [hk]; exact hp)
theorem Kp.grown (h : Kp S w w') {row : Option Nat} (hg : w'.grownBy w'' row) (hr : ∀ k, row = some k → S k ∨ w.heap.size ≤ k) : Kp S w w'' :=
  h.trans (S' := fun k => row = some k) ⟨hg.os, hg.tape, hg.output, hg.size, fun k hk hn => hg.block k hk (fun e => hn e.symm)⟩ hr
theorem Kp.below (h : Kp S w w') (hb : Below w'.heap.size w' w'') : Kp S w w'' :=
  h.trans (S' := fun _ => False) ⟨hb.os, hb.tape, hb.output, hb.size, fun k hk _ => hb.block k hk⟩ (fun _ hk => hk.elim)
theorem Kp.toGrown (h : Kp S w w') {g : Nat} (hs : ∀ k, S k → k = g) : w.grownBy w' (some g) := ⟨h.os, h.tape, h.output, h.size, fun k hk hn => h.block k hk (fun x => hn (by rw [hs k x]))⟩
theorem Kp.toBelow (h : Kp S w w') {B : Nat} (hB : B ≤ w.heap.size) (hs : ∀ k, k < B → ¬ S k) : Below B w w' := ⟨h.os, h.tape, h.output, h.size, fun k hk => h.block k (Nat.lt_of_lt_of_le hk hB) (hs k hk)⟩
theorem Kp.of_below (h : Below w.heap.size w w') (S : Nat → Prop) : Kp S w w' := ⟨h.os, h.tape, h.output, h.size, fun k hk _ => h.block k hk⟩
theorem Kp.cell (h : Kp S w w') {p : Addr} {v : Value} (hc : w.cell? p = some v) (hn : ¬ S p.block) : w'.cell? p = some v :=
  (World.cell?_of_block (h.block p.block (World.block_lt_of_cell? w p hc) hn)).trans hc

theorem own_kp {base : Nat} {e : TypeId} {size n : Nat} {v : Value} {xs : List Value} (h : w.ownsRow base e size v n xs) (hk : Kp S w w') (hn : ∀ k, v.ownBlock = some k → ¬ S k) : w'.ownsRow base e size v n xs := by
  obtain ⟨h1, h2⟩ := h
  refine ⟨h1, ?_⟩
  rcases h2 with h2 | ⟨g, cap, cur, hv, hg, hh, r⟩
  · exact .inl h2
  · refine .inr ⟨g, cap, cur, hv, hg, ?_, r⟩
    have hlt : g < w.heap.size := Blk.lt (t := e) (cs := cur) hh
    rw [hk.block g hlt (hn g (by rw [hv]; rfl))]
    exact hh
theorem map_kp {H : Type} {P : Program} {k : TypeId} {R : Value → Option (DataW H × List MemPlace)} {b n : Nat} {D : DataW H} (h : w.ownsMap P k R b n D) (hk : Kp S w w') (hn : ¬ S b) : w'.ownsMap P k R b n D := by
  obtain ⟨es, clock, hb, r⟩ := h
  have hlt : b < w.heap.size := by
    rcases Nat.lt_or_ge b w.heap.size with hlt | hge
    · exact hlt
    · rw [Array.getElem?_eq_none hge] at hb; cases hb
  exact ⟨es, clock, (hk.block b hlt hn).trans hb, r⟩
end
end Go.Proofs.YtmgjmagniefhoaaGreatDoor

/- Lex: what a byte is; how far a word goes. Conditions: those that each theorem names. -/
namespace Go.Proofs.YtmgjmagniefhoaaGreatDoor
open Go.RowKit Go.Maps

theorem lex_small (c : UInt8) (w : World) : Calls Tryz.prog 109 #[.int .u8 (c.toNat : Int)] w fun e w' => e = .returned (.bool (Lx.small c)) ∧ w = w' := by
  by_cases h1 : 97 ≤ (c.toNat : Int)
  · by_cases h2 : (c.toNat : Int) ≤ 122
    · have e : Lx.small c = true := decide_eq_true (by omega)
      rw [e]
      go_enter Tryz.func109, Tryz.ntmps109
      go_wp2
      go_ret
      exact ⟨rfl, rfl⟩
    · have e : Lx.small c = false := decide_eq_false (by omega)
      rw [e]
      go_enter Tryz.func109, Tryz.ntmps109
      go_wp2
      go_ret
      exact ⟨rfl, rfl⟩
  · have e : Lx.small c = false := decide_eq_false (by omega)
    rw [e]
    go_enter Tryz.func109, Tryz.ntmps109
    go_wp2
    go_ret
    exact ⟨rfl, rfl⟩
theorem lex_great (c : UInt8) (w : World) : Calls Tryz.prog 112 #[.int .u8 (c.toNat : Int)] w fun e w' => e = .returned (.bool (Lx.great c)) ∧ w = w' := by
  by_cases h1 : 65 ≤ (c.toNat : Int)
  · by_cases h2 : (c.toNat : Int) ≤ 90
    · have e : Lx.great c = true := decide_eq_true (by omega)
      rw [e]
      go_enter Tryz.func112, Tryz.ntmps112
      go_wp2
      go_ret
      exact ⟨rfl, rfl⟩
    · have e : Lx.great c = false := decide_eq_false (by omega)
      rw [e]
      go_enter Tryz.func112, Tryz.ntmps112
      go_wp2
      go_ret
      exact ⟨rfl, rfl⟩
  · have e : Lx.great c = false := decide_eq_false (by omega)
    rw [e]
    go_enter Tryz.func112, Tryz.ntmps112
    go_wp2
    go_ret
    exact ⟨rfl, rfl⟩
theorem lex_digit (c : UInt8) (w : World) : Calls Tryz.prog 110 #[.int .u8 (c.toNat : Int)] w fun e w' => e = .returned (.bool (Lx.digit c)) ∧ w = w' := by
  by_cases h1 : 48 ≤ (c.toNat : Int)
  · by_cases h2 : (c.toNat : Int) ≤ 57
    · have e : Lx.digit c = true := decide_eq_true (by omega)
      rw [e]
      go_enter Tryz.func110, Tryz.ntmps110
      go_wp2
      go_ret
      exact ⟨rfl, rfl⟩
    · have e : Lx.digit c = false := decide_eq_false (by omega)
      rw [e]
      go_enter Tryz.func110, Tryz.ntmps110
      go_wp2
      go_ret
      exact ⟨rfl, rfl⟩
  · have e : Lx.digit c = false := decide_eq_false (by omega)
    rw [e]
    go_enter Tryz.func110, Tryz.ntmps110
    go_wp2
    go_ret
    exact ⟨rfl, rfl⟩
theorem lex_score (c : UInt8) (w : World) : Calls Tryz.prog 111 #[.int .u8 (c.toNat : Int)] w fun e w' => e = .returned (.bool (Lx.score c)) ∧ w = w' := by
  by_cases h1 : c.toNat = 95
  · have e : Lx.score c = true := decide_eq_true h1
    have q : (((c.toNat : Nat) : Int) == 95) = true := by simp [h1]
    rw [e]
    go_enter Tryz.func111, Tryz.ntmps111
    go_wp2
    go_ret
    exact ⟨rfl, rfl⟩
  · have e : Lx.score c = false := decide_eq_false h1
    have q : (((c.toNat : Nat) : Int) == 95) = false := by rw [beq_eq_false_iff_ne]; omega
    rw [e]
    go_enter Tryz.func111, Tryz.ntmps111
    go_wp2
    go_ret
    exact ⟨rfl, rfl⟩
theorem lex_goesOn (c : UInt8) (w : World) : Calls Tryz.prog 107 #[.int .u8 (c.toNat : Int)] w fun e w' => e = .returned (.bool (Lx.goes c)) ∧ w = w' := by
  have hs := lex_small c w
  have hg := lex_great c w
  have hd := lex_digit c w
  have he : Lx.goes c = (Lx.small c || Lx.great c || Lx.digit c || Lx.score c) := rfl
  have hsc : Lx.score c = decide (c.toNat = 95) := rfl
  rw [he]
  generalize Lx.small c = a at *
  generalize Lx.great c = b at *
  generalize Lx.digit c = d at *
  clear he
  have H1 := hid_ hs
  have H2 := hid_ hg
  have H3 := hid_ hd
  clear hs hg hd
  by_cases h1 : c.toNat = 95
  · have e : Lx.score c = true := by rw [hsc]; exact decide_eq_true h1
    have q : (((c.toNat : Nat) : Int) == 95) = true := by simp [h1]
    rw [e]
    clear hsc e
    have H4 := hid_ h1
    clear h1
    cases a <;> cases b <;> cases d <;>
    · go_enter Tryz.func107, Tryz.ntmps107
      go_wp2_with (first
        | (go_at_call 109; refine H1.out.mono ?_; rintro e w' ⟨rfl, rfl⟩)
        | (go_at_call 112; refine H2.out.mono ?_; rintro e w' ⟨rfl, rfl⟩)
        | (go_at_call 110; refine H3.out.mono ?_; rintro e w' ⟨rfl, rfl⟩))
      go_ret
      exact ⟨rfl, rfl⟩
  · have e : Lx.score c = false := by rw [hsc]; exact decide_eq_false h1
    have q : (((c.toNat : Nat) : Int) == 95) = false := by rw [beq_eq_false_iff_ne]; omega
    rw [e]
    clear hsc e
    have H4 := hid_ h1
    clear h1
    cases a <;> cases b <;> cases d <;>
    · go_enter Tryz.func107, Tryz.ntmps107
      go_wp2_with (first
        | (go_at_call 109; refine H1.out.mono ?_; rintro e w' ⟨rfl, rfl⟩)
        | (go_at_call 112; refine H2.out.mono ?_; rintro e w' ⟨rfl, rfl⟩)
        | (go_at_call 110; refine H3.out.mono ?_; rintro e w' ⟨rfl, rfl⟩))
      go_ret
      exact ⟨rfl, rfl⟩
end Go.Proofs.YtmgjmagniefhoaaGreatDoor

/- Lex: a cursor in memory; run. Conditions: those that each theorem names. -/
namespace Go.Proofs.YtmgjmagniefhoaaGreatDoor
open Go.RowKit Go.Maps

/-- A text's bytes; the text of bytes. -/
abbrev bl (s : ByteArray) : List UInt8 := s.data.toList
def st (l : List UInt8) : ByteArray := ⟨l.toArray⟩
theorem bl_st (l : List UInt8) : bl (st l) = l := by show (Array.toList l.toArray) = l; simp
theorem st_bl (s : ByteArray) : st (bl s) = s := by show ByteArray.mk s.data.toList.toArray = s; rw [Array.toArray_toList]
theorem bl_len (s : ByteArray) : (bl s).length = s.size := Array.length_toList
theorem st_size (l : List UInt8) : (st l).size = l.length := by rw [← bl_len, bl_st]
theorem bl_inj {a b : ByteArray} (h : bl a = bl b) : a = b := by rw [← st_bl a, h, st_bl]
theorem bl_drop (s : ByteArray) {k : Nat} (h : k < s.size) : (bl s).drop k = s[k] :: (bl s).drop (k + 1) := by
  rw [List.drop_eq_getElem_cons (by rw [bl_len]; exact h)]
  rfl
theorem bl_end (s : ByteArray) {k : Nat} (h : s.size ≤ k) : (bl s).drop k = [] := List.drop_eq_nil_of_le (by rw [bl_len]; exact h)
theorem extract_st (s : ByteArray) (a b : Nat) : s.extract a b = st (((bl s).drop a).take (b - a)) := by
  refine bl_inj ?_
  rw [bl_st]
  show (s.extract a b).data.toList = _
  rw [ByteArray.data_extract, Array.toList_extract]

/-- A cursor at cb: its text, its place. -/
abbrev Cur (w : World) (cb : Nat) (s : ByteArray) (i : Int) : Prop := Blk w cb 84 #[.string s, .int .i64 i]

def RunR (p : UInt8 → Bool) (s : ByteArray) (a k : Nat) : Prop := ((bl s).drop a).takeWhile p = ((bl s).drop a).take (k - a) ++ ((bl s).drop k).takeWhile p
theorem run_start (p : UInt8 → Bool) (s : ByteArray) (a : Nat) : RunR p s a a := by unfold RunR; simp
theorem run_step {p : UInt8 → Bool} {s : ByteArray} {a k : Nat} (h : RunR p s a k) (ha : a ≤ k) (hk : k < s.size) (hg : p s[k] = true) : RunR p s a (k + 1) := by
  unfold RunR at *
  rw [h, bl_drop s hk, List.takeWhile_cons_of_pos hg, show k + 1 - a = k - a + 1 by omega]
  have e : (((bl s).drop a).drop (k - a)).head? = some s[k] := by
    rw [List.drop_drop, show a + (k - a) = k by omega, bl_drop s hk]; rfl
  rw [List.take_add_one, List.getElem?_eq_getElem (by rw [List.length_drop, bl_len]; omega)]
  have e2 : ((bl s).drop a)[k - a]'(by rw [List.length_drop, bl_len]; omega) = s[k] := by
    rw [List.getElem_drop]
    congr 1
    omega
  rw [e2]
  simp
theorem run_stop {p : UInt8 → Bool} {s : ByteArray} {a k : Nat} (h : RunR p s a k) (hg : ∀ hk : k < s.size, p s[k] = false) : ((bl s).drop a).takeWhile p = ((bl s).drop a).take (k - a) := by
  unfold RunR at h
  rw [h]
  by_cases hk : k < s.size
  · rw [bl_drop s hk, List.takeWhile_cons_of_neg (by rw [hg hk]; simp), List.append_nil]
  · rw [bl_end s (Nat.le_of_not_lt hk)]; simp

set_option maxHeartbeats 1000000 in
set_option maxRecDepth 100000 in
theorem lex_run {w : World} {cb : Nat} {s : ByteArray} {i : Int} (h : Cur w cb s i) (hs : s.size ≤ 1000000000) (a : Nat) (ha : a ≤ s.size) :
    Calls Tryz.prog 84 #[.pointer (some ⟨cb, 0, none⟩), .int .i64 a] w fun e w' => e = .returned (.string (st (((bl s).drop a).takeWhile Lx.goes))) ∧ w = w' := by
  have c0 : w.cell? ⟨cb, 0, none⟩ = some (.string s) := h.cell 0
  clear h
  go_enter Tryz.func84, Tryz.ntmps84
  go_wp2
  go_loop [5] (fun v => ∃ k : Nat, v = .int .i64 k ∧ a ≤ k ∧ k ≤ s.size ∧ RunR Lx.goes s a k) (fun v => s.size - (intOf v).toNat)
  case atStart => exact ⟨a, rfl, Nat.le_refl _, ha, run_start _ _ _⟩
  case round =>
    obtain ⟨k, rfl, hak, hk, hw⟩ := hrel
    have HW := hid_ hw
    clear hw
    have b0 : (0 : Int) ≤ (a : Int) := by omega
    have b3 : (a : Int) ≤ (k : Int) := by omega
    have b2 : (k : Int) ≤ (s.size : Int) := by omega
    by_cases hlt : k < s.size
    · have b0 : (0 : Int) ≤ (k : Int) := by omega
      have b1 : (k : Int) < (s.size : Int) := by omega
      have HG := hid_ (lex_goesOn s[k] w)
      have HS := hid_ (fun hg : Lx.goes s[k] = true => run_step HW.out hak hlt hg)
      have HT := hid_ (fun hg : Lx.goes s[k] = false => run_stop HW.out (fun _ => hg))
      generalize Lx.goes s[k] = g at *
      cases g with
      | true =>
        go_wp2_with fail
        refine HG.out.mono ?_
        rintro e w' ⟨rfl, rfl⟩
        go_wp2
        go_round
        case rel => exact ⟨k + 1, by go_num, by omega, by omega, HS.out (by trivial)⟩
        case measure => simp [intOf]; omega
      | false =>
        go_wp2_with fail
        refine HG.out.mono ?_
        rintro e w' ⟨rfl, rfl⟩
        go_wp2
        go_ret
        exact ⟨by rw [HT.out (by trivial), ← extract_st]; rfl, rfl⟩
    · have b1 : ¬ (k : Int) < (s.size : Int) := by omega
      have HT := hid_ (run_stop HW.out (fun h => absurd h hlt))
      go_wp2
      go_ret
      exact ⟨by rw [HT.out, ← extract_st]; rfl, rfl⟩
end Go.Proofs.YtmgjmagniefhoaaGreatDoor
