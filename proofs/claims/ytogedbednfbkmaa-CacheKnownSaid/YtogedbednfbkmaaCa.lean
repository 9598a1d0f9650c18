/- A cache of a call's own; the laws' helpers keeps, gets, works. Conditions: those that each theorem names. -/
import Derived.Test.YtogedbednfbkmaaZ
import Derived.Test.YtogedbednfbkmaaU
import Derived.Laws.BytesArg
import Derived.Lib.SmallJoins
namespace Go.Proofs.Ytogedbednfbkmaa
open Go.RowKit Go.Maps

/-- A cache of the call's own: its blocks from B on; below B nothing has turned since w0. -/
structure Own (B : Nat) (w0 w : World) (cb : Nat) (c : Cs) : Prop where
  isC : IsC (fun q => B ≤ q) w cb c
  below : Below B w0 w
  le : B ≤ w.heap.size
section
variable {B : Nat} {w0 w w' : World} {cb : Nat} {c c' : Cs}
theorem Own.left (h : Own B w0 w cb c) (l : Left (fun q => B ≤ q) w cb c' w') : Own B w0 w' cb c' :=
  ⟨l.isC.mono (fun q hq _ => hq.elim id (fun x => Nat.le_trans h.le x)), h.below.trans (l.kp.toBelow h.le (fun k hk x => by omega)), Nat.le_trans h.le l.kp.size⟩
theorem Own.after (h : Own B w0 w cb c) (b : Below w.heap.size w w') : Own B w0 w' cb c := ⟨h.isC.below b, h.below.trans (b.mono h.le), Nat.le_trans h.le b.size⟩
theorem Own.start (h : IsC (fun q => w.heap.size ≤ q) w' cb c) (b : Below w.heap.size w w') : Own w.heap.size w w' cb c := ⟨h, b, b.size⟩
theorem Own.put (h : Own B w0 w cb c) {k : ByteArray} {A : Option Addr} {n cc : Nat} {xs : List Int} (hk : k.size ≤ 1000000) (hs : Small c) (hrd : RdB w A n cc xs) (hn : n ≤ cc) (hn2 : n ≤ 1000000000) (cost : Int) :
    Calls Try.prog 14 #[.pointer (some ⟨cb, 0, none⟩), .string k, .slice A n cc, .int .i64 cost] w fun e w' => e = .returned (.int .i64 (putC c k xs cost).1) ∧ Own B w0 w' cb (putC c k xs cost).2 :=
  (put_c h.isC hk hs hrd hn hn2 cost).mono fun _e _w' ⟨he, hl⟩ => ⟨he, h.left hl⟩
theorem Own.drop (h : Own B w0 w cb c) (k : ByteArray) (hk : k.size ≤ maxLen) : Calls Try.prog 21 #[.pointer (some ⟨cb, 0, none⟩), .string k] w fun e w' => e = .returned (.bool (dropC c k).1) ∧ Own B w0 w' cb (dropC c k).2 :=
  (drop_c h.isC k hk).mono fun _e _w' ⟨he, hl⟩ => ⟨he, h.left hl⟩
theorem Own.get_no {k : ByteArray} (h : Own B w0 w cb c) (hk : k.size ≤ maxLen) (hs : Small c) (hh : getE k c.S = none) :
    Calls Try.prog 13 #[.pointer (some ⟨cb, 0, none⟩), .string k] w fun e w' => e = .returned (.tuple #[.slice none 0 0, .bool false]) ∧ Own B w0 w' cb (getC c k).2 :=
  (Go.Proofs.Ytogedbednfbkmaa.get_no h.isC hk hs hh).mono fun _e _w' ⟨he, hl⟩ => ⟨he, h.left hl⟩
theorem Own.get_yes {k : ByteArray} {x : En} (h : Own B w0 w cb c) (hk : k.size ≤ maxLen) (hs : Small c) (hh : getE k c.S = some x) :
    Calls Try.prog 13 #[.pointer (some ⟨cb, 0, none⟩), .string k] w fun e w' => ∃ A c', e = .returned (.tuple #[.slice A x.val.length c', .bool true]) ∧ RdB w' A x.val.length c' x.val ∧ Own B w0 w' cb (getC c k).2 :=
  (Go.Proofs.Ytogedbednfbkmaa.get_yes h.isC hk hs hh).mono fun e w' ⟨v, he, ⟨B', A, c', hv, hB, hown, hI⟩, hkp⟩ => by
    subst hv
    obtain ⟨A2, c2, h1, _, h2⟩ := (Vl.of_own hown rfl).rd
    injection h1 with h3 h4 h5
    subst h3 h5
    exact ⟨_, _, he, h2, hI.mono (fun q hq _ => hq.1.elim id (fun x => Nat.le_trans h.le x)), h.below.trans (hkp.toBelow h.le (fun k hk x => by omega)), Nat.le_trans h.le hkp.size⟩
set_option maxHeartbeats 1000000 in
set_option maxRecDepth 100000 in
theorem Own.keeps (h : Own B w0 w cb c) {A : Option Addr} {cc : Nat} (hk : RdT w A c.S.length (keysC c)) (hn : c.S.length ≤ 100000) : Calls Try.prog 37 #[.pointer (some ⟨cb, 0, none⟩), .slice A c.S.length cc] w fun e w' => e = .returned (.bool true) ∧ Own B w0 w' cb c := by
  have HK := hid_ (keys_c h.isC)
  have H := hid_ h
  have HT := hid_ hk
  generalize hl : c.S.length = n at *
  have HN := hid_ hl
  clear h hk hl
  have q0 : ((n : Int) == (n : Int)) = true := by simp
  go_enter Try.func37, Try.ntmps37
  go_wp2_with fail
  refine HK.out.mono ?_
  rintro e w1 ⟨A1, c1, rfl, hown, hb⟩
  have H1 := hid_ (H.out.after hb)
  have hE := eqtexts_c (c := c1) (c' := cc) (RdT.of_own hown hn) (HT.out.below hb)
  have HE := hid_ hE
  clear hown hb hE
  go_wp2_with fail
  refine HE.out.mono ?_
  rintro e w2 ⟨rfl, hb2⟩
  have H2 := hid_ (H1.out.after hb2)
  have HL := hid_ (len_is H2.out.isC)
  rw [HN.out] at HL
  clear hb2
  go_wp2_with fail
  refine HL.out.mono ?_
  rintro e w3 ⟨rfl, rfl⟩
  go_wp2
  go_ret
  exact ⟨rfl, H2.out⟩
set_option maxRecDepth 100000 in
theorem conv_rd {A : Option Addr} {n c : Nat} {xs : List Int} (h : RdB w A n c xs) : (convert 32 9 (.slice A n c)).run Try.prog w = .ok (.string (strOfNums xs)) w := by
  cases A with
  | none =>
    obtain ⟨rfl, rfl⟩ := h.nil rfl
    have : xs = [] := List.eq_nil_of_length_eq_zero h.len
    subst this
    exact run_convert_bytes_nil w 32 5 Try.underlying32 Try.underlying5 0 0 9 Try.underlying9
  | some ad =>
    by_cases h0 : 0 < n
    · obtain ⟨b, off, e, hc⟩ := h.cells h0
      injection e with e
      subst e
      exact run_convert_bytes_arg w 32 5 Try.underlying32 Try.underlying5 b off n c xs h.len hc 9 Try.underlying9
    · have hn : n = 0 := by omega
      subst hn
      have : xs = [] := List.eq_nil_of_length_eq_zero h.len
      subst this
      have hl : (loadCells ad 0).run Try.prog w = .ok ((([] : List Int).map (Value.int .u8)).toArray) w := rfl
      rw [run_convert_bytes_string w 32 9 5 _ 0 c Try.underlying32 Try.underlying5 Try.underlying9, run_bytesToString w _ 0 c [] hl]
      rfl
end

def kA : ByteArray := ⟨#[97]⟩
def kB : ByteArray := ⟨#[98]⟩
def kC : ByteArray := ⟨#[99]⟩
def kD : ByteArray := ⟨#[100]⟩
def v3 : List Int := [49, 50, 51]
def s0 : Cs := ⟨10, 0, 0, 0, 0, 0, []⟩
def s1 : Cs := (putC s0 kA v3 5).2
def s2 : Cs := (putC s1 kB v3 1).2
def s3 : Cs := (putC s2 kC v3 1).2
def s4 : Cs := (getC s3 kB).2
def s5 : Cs := (getC s4 kA).2
def s6 : Cs := (putC s5 kD [48, 49, 50, 51, 52] 0).2
theorem keys2 : keysC s2 = [kB, kA] := by rfl
theorem keys3 : keysC s3 = [kC, kA] := by rfl
theorem keys5 : keysC s5 = [kC, kA] := by rfl
theorem keys6 : keysC s6 = [kD, kA] := by rfl
theorem oks : (putC s0 kA v3 5).1 = 0 ∧ (putC s1 kB v3 1).1 = 0 ∧ (putC s2 kC v3 1).1 = 0 ∧ (putC s5 kD [48, 49, 50, 51, 52, 53, 54, 55, 56, 57] 0) = (5, s5) ∧ (putC s5 kD [48, 49, 50, 51, 52] 0).1 = 0 := ⟨rfl, rfl, rfl, rfl, rfl⟩

section
variable {B : Nat} {w0 w w' : World} {cb : Nat} {c c' : Cs}
set_option maxHeartbeats 1000000 in
set_option maxRecDepth 100000 in
theorem Own.gets_no {k : ByteArray} (h : Own B w0 w cb c) (hk : k.size ≤ maxLen) (hs : Small c) (hh : getE k c.S = none) :
    Calls Try.prog 38 #[.pointer (some ⟨cb, 0, none⟩), .string k, .string ⟨#[]⟩, .bool false] w fun e w' => e = .returned (.bool true) ∧ Own B w0 w' cb (getC c k).2 := by
  have HG := hid_ (h.get_no hk hs hh)
  have q1 := fun W => conv_rd (w := W) (A := none) (n := 0) (c := 0) (xs := []) ⟨rfl, fun _ => ⟨rfl, rfl⟩, fun h => absurd h (by omega)⟩
  have q2 : strOfNums [] = ⟨#[]⟩ := rfl
  rw [q2] at q1
  clear h hh hs q2
  go_enter Try.func38, Try.ntmps38
  go_wp2_with fail
  refine HG.out.mono ?_
  rintro e w1 ⟨rfl, hO⟩
  have HO := hid_ hO
  clear hO
  go_wp2
  go_ret
  exact ⟨rfl, HO.out⟩
set_option maxHeartbeats 1000000 in
set_option maxRecDepth 100000 in
theorem Own.gets_yes {k s : ByteArray} {x : En} (h : Own B w0 w cb c) (hk : k.size ≤ maxLen) (hs : Small c) (hh : getE k c.S = some x) (hx : strOfNums x.val = s) :
    Calls Try.prog 38 #[.pointer (some ⟨cb, 0, none⟩), .string k, .string s, .bool true] w fun e w' => e = .returned (.bool true) ∧ Own B w0 w' cb (getC c k).2 := by
  have HG := hid_ (h.get_yes hk hs hh)
  have HX := hid_ hx
  clear h hh hs hx
  go_enter Try.func38, Try.ntmps38
  go_wp2_with fail
  refine HG.out.mono ?_
  rintro e w1 ⟨A, c1, rfl, hrd, hO⟩
  have HO := hid_ hO
  have q1 := conv_rd hrd
  rw [HX.out] at q1
  clear hO hrd
  generalize x.val.length = n at *
  go_wp2
  go_ret
  exact ⟨rfl, HO.out⟩
end
end Go.Proofs.Ytogedbednfbkmaa
