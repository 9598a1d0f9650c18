/- A cache and the reference, side by side. Conditions: those that each theorem names. -/
import Derived.Test.YtogedbednfbkmaaIe
import Derived.Test.YtogedbednfbkmaaEa
namespace Go.Proofs.Ytogedbednfbkmaa
open Go.RowKit Go.Maps

/-- A cache at cb and a reference at mb, apart, within Z. -/
def Pair (Z : Nat → Prop) (w : World) (cb mb : Nat) (c d : Cs) : Prop :=
  ∃ F G : Nat → Prop, IsC F w cb c ∧ Rm G w mb d ∧ (∀ q, F q → Z q ∧ q < w.heap.size ∧ ¬ G q) ∧ ∀ q, G q → Z q ∧ q < w.heap.size
/-- What a call leaves of both. -/
structure PairL (Z : Nat → Prop) (w : World) (cb mb : Nat) (c d : Cs) (w' : World) : Prop where
  pair : Pair (fun q => Z q ∨ w.heap.size ≤ q) w' cb mb c d
  kp : Kp Z w w'
section
variable {Z Y : Nat → Prop} {w w' w'' : World} {cb mb : Nat} {c d c' d' : Cs}
theorem Rm.blocks {X : Nat → Prop} (h : Rm X w mb d) : Rm (fun q => X q ∧ q < w.heap.size) w mb d := h.mono fun _ hq hl => ⟨hq, hl⟩
theorem Pair.ok (h : Pair Z w cb mb c d) : Ok c := by
  obtain ⟨F, G, h1, _⟩ := h
  exact h1.ok
theorem Pair.kp {S : Nat → Prop} (h : Pair Z w cb mb c d) (hk : Kp S w w') (hs : ∀ q, Z q → ¬ S q) : Pair Z w' cb mb c d := by
  obtain ⟨F, G, h1, h2, h3, h4⟩ := h
  exact ⟨F, G, h1.kp hk (fun q hq => hs q (h3 q hq).1), h2.kp hk (fun q hq => hs q (h4 q hq).1), fun q hq => ⟨(h3 q hq).1, Nat.lt_of_lt_of_le (h3 q hq).2.1 hk.size, (h3 q hq).2.2⟩, fun q hq => ⟨(h4 q hq).1, Nat.lt_of_lt_of_le (h4 q hq).2 hk.size⟩⟩
theorem Pair.below (h : Pair Z w cb mb c d) (hb : Below w.heap.size w w') : Pair Z w' cb mb c d := h.kp (Kp.of_below hb fun _ => False) (fun _ _ => id)
theorem Pair.mono (h : Pair Z w cb mb c d) (hz : ∀ q, Z q → q < w.heap.size → Y q) : Pair Y w cb mb c d := by
  obtain ⟨F, G, h1, h2, h3, h4⟩ := h
  exact ⟨F, G, h1, h2, fun q hq => ⟨hz q (h3 q hq).1 (h3 q hq).2.1, (h3 q hq).2⟩, fun q hq => ⟨hz q (h4 q hq).1 (h4 q hq).2, (h4 q hq).2⟩⟩
theorem PairL.then_ (h : PairL Z w cb mb c d w') (l : PairL (fun q => Z q ∨ w.heap.size ≤ q) w' cb mb c' d' w'') : PairL Z w cb mb c' d' w'' :=
  ⟨l.pair.mono (fun _q hq _ => hq.elim id (fun x => .inr (Nat.le_trans h.kp.size x))), h.kp.trans l.kp (fun _ hq => hq)⟩
theorem PairL.below (h : PairL Z w cb mb c d w') (hb : Below w'.heap.size w' w'') : PairL Z w cb mb c d w'' := ⟨h.pair.below hb, h.kp.below hb⟩
theorem PairL.start (h : Pair Z w cb mb c d) (hb : Below w.heap.size w w') : PairL Z w cb mb c d w' := ⟨(h.below hb).mono (fun _ hq _ => .inl hq), (Kp.refl Z w).below hb⟩
theorem Pair.left {F G : Nat → Prop} (h2 : Rm G w mb d) (h3 : ∀ q, F q → Z q ∧ q < w.heap.size ∧ ¬ G q) (h4 : ∀ q, G q → Z q ∧ q < w.heap.size) (l : Left F w cb c' w') : PairL Z w cb mb c' d w' := by
  refine ⟨⟨_, G, l.isC.blocks, h2.kp l.kp (fun q hq hf => (h3 q hf).2.2 hq), fun q hq => ?_, fun q hq => ⟨.inl (h4 q hq).1, Nat.lt_of_lt_of_le (h4 q hq).2 l.kp.size⟩⟩, l.kp.mono (fun q hq => (h3 q hq).1)⟩
  obtain ⟨h5 | h5, h6⟩ := hq
  · exact ⟨.inl (h3 q h5).1, h6, (h3 q h5).2.2⟩
  · exact ⟨.inr h5, h6, fun x => by have := (h4 q x).2; omega⟩
theorem Pair.rleft {F G : Nat → Prop} (h1 : IsC F w cb c) (hm : G mb) (h3 : ∀ q, F q → Z q ∧ q < w.heap.size ∧ ¬ G q) (h4 : ∀ q, G q → Z q ∧ q < w.heap.size) (l : RmLeft G w mb d' w') : PairL Z w cb mb c d' w' := by
  refine ⟨⟨F, _, h1.kp l.kp (fun q hq e => (h3 q hq).2.2 (e ▸ hm)), l.rm.blocks, fun q hq => ⟨.inl (h3 q hq).1, Nat.lt_of_lt_of_le (h3 q hq).2.1 l.kp.size, ?_⟩, fun q hq => ?_⟩, l.kp.mono (fun q hq => by rw [hq]; exact (h4 mb hm).1)⟩
  · rintro ⟨x | x, _⟩
    · exact (h3 q hq).2.2 x
    · have := (h3 q hq).2.1; omega
  · obtain ⟨x | x, h5⟩ := hq
    · exact ⟨.inl (h4 q x).1, h5⟩
    · exact ⟨.inr x, h5⟩

theorem Pair.put (h : Pair Z w cb mb c d) {k : ByteArray} {A : Option Addr} {n cc : Nat} {xs : List Int} (hk : k.size ≤ 1000000) (hs : Small c) (hrd : RdB w A n cc xs) (hn : n ≤ cc) (hn2 : n ≤ 1000000000) (cost : Int) :
    Calls Try.prog 14 #[.pointer (some ⟨cb, 0, none⟩), .string k, .slice A n cc, .int .i64 cost] w fun e w' => e = .returned (.int .i64 (putC c k xs cost).1) ∧ PairL Z w cb mb (putC c k xs cost).2 d w' := by
  obtain ⟨F, G, h1, h2, h3, h4⟩ := h
  exact (put_c h1 hk hs hrd hn hn2 cost).mono fun _ _ ⟨he, hl⟩ => ⟨he, Pair.left h2 h3 h4 hl⟩
theorem Pair.drop (h : Pair Z w cb mb c d) (k : ByteArray) (hk : k.size ≤ maxLen) : Calls Try.prog 21 #[.pointer (some ⟨cb, 0, none⟩), .string k] w fun e w' => e = .returned (.bool (dropC c k).1) ∧ PairL Z w cb mb (dropC c k).2 d w' := by
  obtain ⟨F, G, h1, h2, h3, h4⟩ := h
  exact (drop_c h1 k hk).mono fun _ _ ⟨he, hl⟩ => ⟨he, Pair.left h2 h3 h4 hl⟩
theorem Pair.get_no (h : Pair Z w cb mb c d) {k : ByteArray} (hk : k.size ≤ maxLen) (hs : Small c) (hh : getE k c.S = none) :
    Calls Try.prog 13 #[.pointer (some ⟨cb, 0, none⟩), .string k] w fun e w' => e = .returned (.tuple #[.slice none 0 0, .bool false]) ∧ PairL Z w cb mb (getC c k).2 d w' := by
  obtain ⟨F, G, h1, h2, h3, h4⟩ := h
  exact (Go.Proofs.Ytogedbednfbkmaa.get_no h1 hk hs hh).mono fun _ _ ⟨he, hl⟩ => ⟨he, Pair.left h2 h3 h4 hl⟩
/-- What Get hands out lies apart from both. -/
theorem Pair.get_yes (h : Pair Z w cb mb c d) {k : ByteArray} {x : En} (hk : k.size ≤ maxLen) (hs : Small c) (hh : getE k c.S = some x) :
    Calls Try.prog 13 #[.pointer (some ⟨cb, 0, none⟩), .string k] w fun e w' => ∃ A c1 B, e = .returned (.tuple #[.slice A x.val.length c1, .bool true]) ∧ w'.ownsRow B 5 1 (.slice A x.val.length c1) x.val.length (x.val.map (.int .u8)) ∧ w.heap.size ≤ B ∧ Pair (fun q => (Z q ∨ w.heap.size ≤ q) ∧ q < B) w' cb mb (getC c k).2 d ∧ Kp Z w w' := by
  obtain ⟨F, G, h1, h2, h3, h4⟩ := h
  refine (Go.Proofs.Ytogedbednfbkmaa.get_yes h1 hk hs hh).mono fun _ w' ⟨v, he, hg⟩ => ?_
  obtain ⟨B, A, c1, rfl, hB, hown, hI⟩ := hg.res
  have hsz := hg.kp.size
  refine ⟨A, c1, B, he, hown, hB, ⟨_, G, hI.blocks, h2.kp hg.kp (fun q hq hf => (h3 q hf).2.2 hq), fun q hq => ?_, fun q hq => ⟨⟨.inl (h4 q hq).1, Nat.lt_of_lt_of_le (h4 q hq).2 hB⟩, Nat.lt_of_lt_of_le (h4 q hq).2 hsz⟩⟩, hg.kp.mono (fun q hq => (h3 q hq).1)⟩
  obtain ⟨⟨h5 | h5, h7⟩, h6⟩ := hq
  · exact ⟨⟨.inl (h3 q h5).1, h7⟩, h6, (h3 q h5).2.2⟩
  · exact ⟨⟨.inr h5, h7⟩, h6, fun x => by have := (h4 q x).2; omega⟩
theorem Pair.has (h : Pair Z w cb mb c d) (k : ByteArray) (hk : k.size ≤ maxLen) : Calls Try.prog 16 #[.pointer (some ⟨cb, 0, none⟩), .string k] w fun e w' => e = .returned (.bool (hasE k c.S)) ∧ w = w' := by
  obtain ⟨F, G, h1, _⟩ := h
  exact has_c h1 k hk
theorem Pair.keys (h : Pair Z w cb mb c d) : Calls Try.prog 19 #[.pointer (some ⟨cb, 0, none⟩)] w fun e w' => ∃ A c', e = .returned (.slice A c.S.length c') ∧ w'.ownsRow w.heap.size 9 1 (.slice A c.S.length c') c.S.length ((keysC c).map .string) ∧ Below w.heap.size w w' := by
  obtain ⟨F, G, h1, _⟩ := h
  exact keys_c h1
theorem Pair.len (h : Pair Z w cb mb c d) : Calls Try.prog 17 #[.pointer (some ⟨cb, 0, none⟩)] w fun e w' => e = .returned (.int .i64 c.S.length) ∧ w = w' := by
  obtain ⟨F, G, h1, _⟩ := h
  exact len_is h1
theorem Pair.size (h : Pair Z w cb mb c d) : Calls Try.prog 20 #[.pointer (some ⟨cb, 0, none⟩)] w fun e w' => e = .returned (.int .i64 (szS c.S)) ∧ w = w' := by
  obtain ⟨F, G, h1, _⟩ := h
  exact size_is h1
theorem Pair.level (h : Pair Z w cb mb c d) : Calls Try.prog 28 #[.pointer (some ⟨cb, 0, none⟩)] w fun e w' => e = .returned (.int .i64 c.level) ∧ w = w' := by
  obtain ⟨F, G, h1, _⟩ := h
  exact level_is h1
theorem Pair.counts (h : Pair Z w cb mb c d) : Calls Try.prog 22 #[.pointer (some ⟨cb, 0, none⟩)] w fun e w' => e = .returned (.tuple #[.int .i64 c.found, .int .i64 c.missed, .int .i64 c.thrown]) ∧ Below w.heap.size w w' := by
  obtain ⟨F, G, h1, _⟩ := h
  exact counts_is h1

theorem Pair.rput (h : Pair Z w cb mb c d) (ho : Ok d) (hs : d.uses ≤ 900) {k : ByteArray} {A : Option Addr} {n cc : Nat} {xs : List Int} (hrd : RdB w A n cc xs) (hA : ∀ p, A = some p → ¬ Z p.block) (hk : k.size ≤ 1000000) (hn : n ≤ 1000000000) (cost : Int) :
    Calls Try.prog 45 #[.pointer (some ⟨mb, 0, none⟩), .string k, .slice A n cc, .int .i64 cost] w fun e w' => e = .returned (.int .i64 (putC d k xs cost).1) ∧ PairL Z w cb mb c (putC d k xs cost).2 w' := by
  obtain ⟨F, G, h1, h2, h3, h4⟩ := h
  exact (rput_c h2 ho hs hrd (fun p hp e => hA p hp (e ▸ (h4 mb h2.fm).1)) hk hn cost).mono fun _ _ ⟨he, hl⟩ => ⟨he, Pair.rleft h1 h2.fm h3 h4 hl⟩
theorem Pair.rdrop (h : Pair Z w cb mb c d) (ho : Ok d) (hS : d.S.length ≤ 900) (k : ByteArray) :
    Calls Try.prog 47 #[.pointer (some ⟨mb, 0, none⟩), .string k] w fun e w' => e = .returned (.bool (dropC d k).1) ∧ PairL Z w cb mb c (dropC d k).2 w' := by
  obtain ⟨F, G, h1, h2, h3, h4⟩ := h
  exact (rdrop_c h2 ho.gd.once k hS).mono fun _ _ ⟨he, hl⟩ => ⟨he, Pair.rleft h1 h2.fm h3 h4 hl⟩
theorem Pair.rget_no (h : Pair Z w cb mb c d) (k : ByteArray) (hS : d.S.length ≤ 900) (hm : 0 ≤ d.missed ∧ d.missed ≤ 1000000) (hg : getE k d.S = none) :
    Calls Try.prog 46 #[.pointer (some ⟨mb, 0, none⟩), .string k] w fun e w' => e = .returned (.tuple #[.slice none 0 0, .bool false]) ∧ PairL Z w cb mb c (getC d k).2 w' := by
  obtain ⟨F, G, h1, h2, h3, h4⟩ := h
  exact (Go.Proofs.Ytogedbednfbkmaa.rget_no h2 k hS hm hg).mono fun _ _ ⟨he, hl⟩ => ⟨he, Pair.rleft h1 h2.fm h3 h4 hl⟩
theorem Pair.rget_yes (h : Pair Z w cb mb c d) (ho : Ok d) (k : ByteArray) (hS : d.S.length ≤ 900) (hu : d.uses ≤ 1000000) {x : En} (hl : x.val.length ≤ 2000000000) (hg : getE k d.S = some x) :
    Calls Try.prog 46 #[.pointer (some ⟨mb, 0, none⟩), .string k] w fun e w' => ∃ A' c', e = .returned (.tuple #[.slice A' x.val.length c', .bool true]) ∧ RdB w' A' x.val.length c' x.val ∧ PairL Z w cb mb c (getC d k).2 w' := by
  obtain ⟨F, G, h1, h2, h3, h4⟩ := h
  exact (Go.Proofs.Ytogedbednfbkmaa.rget_yes h2 ho k hS hu hl hg).mono fun _ _ ⟨A', c', he, hr, hl⟩ => ⟨A', c', he, hr, Pair.rleft h1 h2.fm h3 h4 hl⟩
theorem Pair.rkeys (h : Pair Z w cb mb c d) (hS : d.S.length ≤ 900) : Calls Try.prog 26 #[.pointer (some ⟨mb, 0, none⟩)] w fun e w' => ∃ A c', e = .returned (.slice A d.S.length c') ∧ w'.ownsRow w.heap.size 9 1 (.slice A d.S.length c') d.S.length ((keysC d).map .string) ∧ Below w.heap.size w w' := by
  obtain ⟨F, G, h1, h2, _⟩ := h
  exact rkeys_c h2 hS
theorem Pair.rsize (h : Pair Z w cb mb c d) (hS : d.S.length ≤ 1000) (hz : szS d.S ≤ 2000000000) : Calls Try.prog 27 #[.pointer (some ⟨mb, 0, none⟩)] w fun e w' => (∃ nd, w' = w.drewN nd) ∧ e = .returned (.int .i64 (szS d.S)) := by
  obtain ⟨F, G, h1, h2, _⟩ := h
  exact rsize_c h2 hS hz
theorem Pair.rhead (h : Pair Z w cb mb c d) : ∃ A cap, Blk w mb 57 (cellsR d (.slice A d.S.length cap)) := by
  obtain ⟨F, G, h1, h2, _⟩ := h
  exact h2.head
end
end Go.Proofs.Ytogedbednfbkmaa
