/- Words of a text, as lists of bytes. Plain; no program is named here. -/
import Derived.Lib.Hide
namespace Go.Proofs.YtmpdobpnnejmmaaDoor.Lx

abbrev Bs := List UInt8
def small (c : UInt8) : Bool := decide (97 ≤ c.toNat ∧ c.toNat ≤ 122)
def great (c : UInt8) : Bool := decide (65 ≤ c.toNat ∧ c.toNat ≤ 90)
def digit (c : UInt8) : Bool := decide (48 ≤ c.toNat ∧ c.toNat ≤ 57)
def score (c : UInt8) : Bool := decide (c.toNat = 95)
def goes (c : UInt8) : Bool := small c || great c || digit c || score c

/-- What stands behind blanks and remarks; the flag: in a remark. -/
def skip : Bool → Bs → Bs
  | _, [] => []
  | true, c :: l => if c = 10 then skip false l else skip true l
  | false, c :: l => if c = 32 ∨ c = 10 then skip false l else if c = 35 then skip true l else c :: l

def keysL : List Bs := [[109, 111, 100, 117, 108, 101], [105, 109, 112, 111, 114, 116], [116, 121, 112, 101], [102, 110], [108, 101, 116], [105, 110], [105, 102], [116, 104, 101, 110], [101, 108, 115, 101], [105, 115], [97, 115], [116, 114, 117, 101], [102, 97, 108, 115, 101], [110, 117, 108, 108], [100, 121, 110], [98, 111, 111, 108], [105, 110, 116], [114, 101, 99]]
def signsL : List Bs := [[58, 58], [61, 61], [60, 58], [124], [123], [125], [40], [41], [91], [93], [44], [58], [46], [61], [43], [60]]
def isKey (t : Bs) : Bool := keysL.any fun k => decide (k = t)
def formed (t : Bs) (first : UInt8 → Bool) (other : UInt8 → Bool) : Bool := match t with
  | [] => false
  | c :: _ => decide (t.length ≤ 16) && first c && t.all other
def tagged (t : Bs) : Bool := formed t small fun c => small c || digit c || score c
def isName (t : Bs) : Bool := tagged t && !isKey t
def isType (t : Bs) : Bool := formed t great fun c => small c || great c || digit c
/-- The number that digits tell. -/
def val (t : Bs) : Int := t.foldl (fun n c => 10 * n + ((c.toNat : Int) - 48)) 0
/-- The number of digits; below 0: they are none. -/
def number (t : Bs) : Int := if t ≠ [] ∧ t.all digit = true ∧ (t.head? = some 48 → t.length = 1) ∧ val t ≤ 2147483647 then val t else -1
def sign? (l : Bs) : Option Bs := signsL.find? fun g => g.isPrefixOf l

structure Wd where
  kind : Int
  text : Bs
  num : Int
  pos : Int
deriving DecidableEq

/-- The word at the head, and how long it is there. -/
def word? (l : Bs) : Option (Int × Bs × Int × Nat) :=
  match sign? l with
  | some g => some (6, g, 0, g.length)
  | none =>
    match l with
    | [] => none
    | c :: l' =>
      if c = 39 then
        if tagged (l'.takeWhile goes) = true then some (4, l'.takeWhile goes, 0, (l'.takeWhile goes).length + 1) else none
      else
        let t := (c :: l').takeWhile goes
        if isKey t = true then some (5, t, 0, t.length) else
        if isName t = true then some (1, t, 0, t.length) else
        if isType t = true then some (2, t, 0, t.length) else
        if 0 ≤ number t then some (3, t, number t, t.length) else none
/-- The words of what is left of a text of n bytes; an error's place. -/
def cutF (n : Nat) : Nat → Bs → Except Nat (List Wd)
  | 0, _ => .ok []
  | f + 1, l => match skip false l with
    | [] => .ok []
    | c :: r => match word? (c :: r) with
      | none => .error (n - (c :: r).length)
      | some (k, t, m, len) => match cutF n f ((c :: r).drop len) with
        | .error e => .error e
        | .ok ws => .ok (⟨k, t, m, n - (c :: r).length⟩ :: ws)
def cut (l : Bs) : Except Nat (List Wd) := cutF l.length (l.length + 1) l
end Go.Proofs.YtmpdobpnnejmmaaDoor.Lx
