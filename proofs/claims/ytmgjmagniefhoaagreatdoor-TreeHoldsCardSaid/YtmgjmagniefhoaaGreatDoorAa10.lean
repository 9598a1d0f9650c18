/- What stands in these texts of the proof: Te Tg Tf Th Ti. Conditions: those that each theorem names. -/
import Derived.Test.YtmgjmagniefhoaaGreatDoorAa09
import Derived.Maps.Own
import Derived.Maps.OwnOps
import Derived.Maps.Views
import Derived.Maps.Keyed
import Derived.Test.YtmgjmagniefhoaaGreatDoorAa07
import Derived.Deep.LoopGhost
/- The tree's reader: dictionaries of keys; base. Conditions: those that each theorem names. -/
namespace Go.Proofs.YtmgjmagniefhoaaGreatDoor
open Go.RowKit Go.Maps

theorem Tryz.lawS : Keyed Tryz.prog 9 := string_keyed Tryz.underlying9
abbrev DI := DataW Unit
/-- A dictionary of texts and numbers, of the call's own. -/
def DictP (w : World) (b n : Nat) (f : List UInt8 → Int) : Prop := ∃ D : DI, w.ownsMap Tryz.prog 9 (plainElem Tryz.prog 3) b n D ∧ IsMap D ∧ ∀ t, D.atKey (.string t) (.lit (.int .i64 0)) = .lit (.int .i64 (f t))
theorem dict_new (w : World) : DictP (w.alloc (.map #[] 0)) w.heap.size 0 (fun _ => 0) :=
  ⟨.map [], World.ownsMap_made w _ _ _, isMap_empty, fun _ => rfl⟩
theorem dkey {t : List UInt8} (h : t.length ≤ 1000000) : keyOf Tryz.prog 9 (.string (st t)) = some (.string t) := by
  have h2 : (st t).size ≤ maxLen := by rw [st_size]; unfold maxLen; omega
  have h3 : (st t).data.toList = t := bl_st t
  simp [keyOf, mapKey, Tryz.underlying9, h2, h3]
theorem dict_put {w : World} {b n : Nat} {f : List UInt8 → Int} (h : DictP w b n f) (hn : n < 100) {k : List UInt8} (hk : k.length ≤ 1000000) (z : Int) (hz : (Lit.int .i64 z).wf = true) :
    ∃ w', (Instr.mapUpdate 138 (.map (some b)) (.string (st k)) (.int .i64 z)).run Tryz.prog w = .ok () w' ∧ DictP w' b (n + 1) (fun t => if t = k then z else f t) ∧ w.grownBy w' (some b) := by
  obtain ⟨D, h1, h2, h3⟩ := h
  obtain ⟨w', hrun, h4, h5⟩ := h1.update Tryz.lawS Tryz.underlying138 (by unfold maxLen; omega) (dkey hk) (d := .lit (.int .i64 z)) (ps := []) (plainElem_int Tryz.underlying3 hz)
  refine ⟨w', hrun, ⟨_, h4, ?_, fun t => ?_⟩, h5⟩
  · exact h2.put _ _
  · by_cases e : t = k
    · subst e
      have e3 : (fun u => if u = t then z else f u) t = z := if_pos rfl
      rw [e3]
      exact atKey_put_same h2 (Tryz.lawS.key (dkey hk)) _ _
    · have e3 : (fun u => if u = k then z else f u) t = f t := if_neg e
      rw [e3, ← h3 t]
      exact atKey_put_other (fun e2 => e (by injection e2)) _ _
theorem DictP.kp {S : Nat → Prop} {w w' : World} {b n : Nat} {f : List UInt8 → Int} (h : DictP w b n f) (hk : Kp S w w') (hn : ¬ S b) : DictP w' b n f := by
  obtain ⟨D, h1, h2, h3⟩ := h
  exact ⟨D, map_kp h1 hk hn, h2, h3⟩
set_option maxHeartbeats 1000000 in
set_option maxRecDepth 100000 in
theorem base_c (w : World) {b n : Nat} {f : List UInt8 → Int} (h : DictP w b n f) (x : Lx.Wd) (hx : x.text.length ≤ 1000000) : Calls Tryz.prog 146 #[wordV x, .map (some b)] w fun e w' => e = .returned (.int .i64 (if x.kind = 5 then f x.text else 0)) ∧ Below w.heap.size w w' := by
  have HD := hid_ h
  clear h
  by_cases h5 : x.kind = 5
  · have hD2 := HD.out.kp (Kp.of_below ((Below.refl w.heap.size w).alloc (Nat.le_refl _) (.cells #[.int .i64 5, .string (st x.text), .int .i64 x.num, .int .i64 x.pos] 88)) (fun _ => False)) id
    obtain ⟨D, h1, h2, h3⟩ := hD2
    obtain ⟨z, hrun, hat, hwc⟩ := h1.lookup_int Tryz.lawS Tryz.underlying138 Tryz.underlying3 (by kernel_rfl) (dkey hx)
    have hz : f x.text = z := by
      have e := (h3 x.text).symm.trans hat
      injection e with e
      injection e with _ e
    have HZ := hid_ hz
    clear hat hwc hz h1 h2 h3 HD
    unfold wordV
    rw [h5]
    simp only [if_true]
    go_enter Tryz.func146, Tryz.ntmps146
    go_wp2_with fail
    go_ret
    exact ⟨by rw [HZ.out]; rfl, (Below.refl _ _).alloc (Nat.le_refl _) _⟩
  · rw [if_neg h5]
    unfold wordV
    have q0 : (x.kind != 5) = true := by simp [h5]
    go_enter Tryz.func146, Tryz.ntmps146
    go_wp2_with fail
    go_ret
    exact ⟨rfl, (Below.refl _ _).alloc (Nat.le_refl _) _⟩
end Go.Proofs.YtmgjmagniefhoaaGreatDoor

/- A caller's own memory beside the reader. Conditions: those that each theorem names. -/
namespace Go.Proofs.YtmgjmagniefhoaaGreatDoor
open Go.RowKit Go.Maps
section
variable {w w' w0 : World} {rb k : Nat} {c : RC} {L : List Lx.Wd} {ns : List Tr.Nd}
/-- A block that is none of the reader's. -/
def Free (w : World) (rb q : Nat) : Prop := rb < q ∧ nvOf w rb ≠ some q ∧ ¬ NB w rb q
theorem flatN_at {xs : List (Tr.Nd × Value × Value)} {x : Tr.Nd × Value × Value} {u : Value} (hx : x ∈ xs) (hu : u ∈ cellN x.1 x.2.1 x.2.2) : u ∈ flatN xs := List.mem_flatMap.2 ⟨x, hx, hu⟩
theorem nb_of {nv u : Value} {xs : List (Tr.Nd × Value × Value)} {x : Tr.Nd × Value × Value} {q : Nat} (hb : Blk w rb 65 (rcells c k nv)) (hxs : xs.map (·.1) = ns) (hown : w.ownsRow rb 57 6 nv ns.length (flatN xs)) (hx : x ∈ xs) (hu : u ∈ cellN x.1 x.2.1 x.2.2) (hq : u.ownBlock = some q) : NB w rb q := by
  obtain ⟨i, hi, e⟩ := List.getElem_of_mem (flatN_at hx hu)
  have hxl : xs.length = ns.length := by rw [← hxs, List.length_map]
  obtain ⟨b0, hb0⟩ : ∃ b0, nv.ownBlock = some b0 := by
    rcases hown.2 with ⟨hv2, h0⟩ | ⟨g', cap, cur, hv2, _⟩
    · rw [flatN_length, hxl, h0] at hi; omega
    · exact ⟨g', by rw [hv2]; rfl⟩
  refine ⟨b0, i, u, by rw [nvOf_rd hb]; exact hb0, ?_, ?_, hq⟩
  · rw [nvV_rd hb, own_nv hown, ← hxl, ← flatN_length]; exact hi
  · rw [← e]; exact own_cells hown hb0 i hi
theorem Rd.nb (h : Rd w rb c L k ns) {q : Nat} (hq : NB w rb q) : rb ≤ q ∧ q < w.heap.size := by
  obtain ⟨nv, hb, xs, hxs, hown, hnd⟩ := h.blk
  obtain ⟨b, i, u, n1, n2, n3, n4⟩ := hq
  rw [nvOf_rd hb] at n1
  rw [nvV_rd hb, own_nv hown] at n2
  have hl : i < (flatN xs).length := by rw [hown.1]; exact n2
  have n5 := own_cells hown n1 i hl
  rw [n3] at n5
  injection n5 with n5
  obtain ⟨y, hy, hu⟩ := flatN_mem xs u (by rw [n5]; exact List.getElem_mem hl)
  rcases cellN_own hu n4 with e | e
  · exact ⟨own_base (hnd y hy).1 e, own_lt (hnd y hy).1 e⟩
  · exact ⟨own_base (hnd y hy).2 e, own_lt (hnd y hy).2 e⟩
theorem Free.new (h : Rd w rb c L k ns) {q : Nat} (hq : w.heap.size ≤ q) : Free w rb q :=
  ⟨Nat.lt_of_lt_of_le h.rlt hq, fun e => by have := h.nlt e; omega, fun e => by have := (h.nb e).2; omega⟩
theorem Free.fr {q : Nat} (h : Free w rb q) (hq : q < w.heap.size) (hF : Fr rb w w') : Free w' rb q :=
  ⟨h.1, hF.ne hq h.2.1, fun e => by
    rcases hF.nb q e with e | e | e
    · exact h.2.2 e
    · omega
    · exact e⟩
/-- Other memory turns. -/
theorem Rd.far {S : Nat → Prop} (h : Rd w rb c L k ns) (hk : Kp S w w') (hS : ∀ q, S q → Free w rb q) : Rd w' rb c L k ns ∧ (∀ q, Free w rb q → Free w' rb q) ∧ (∀ w0, Fr rb w0 w → (∀ q, S q → w0.heap.size ≤ q) → Fr rb w0 w') := by
  obtain ⟨nv, hb, xs, hxs, hown, hnd⟩ := h.blk
  have hb' := hb.kp hk (fun e => by have := (hS _ e).1; omega)
  have hnv : ∀ q, nv.ownBlock = some q → ¬ S q := fun q hq e => (hS q e).2.1 (by rw [nvOf_rd hb]; exact hq)
  have e1 : nvOf w' rb = nvOf w rb := by rw [nvOf_rd hb', nvOf_rd hb]
  have hnb : ∀ q, NB w' rb q → NB w rb q := fun q hq => nb_same h hk (fun b hb2 e => (hS b e).2.1 hb2) (by rw [nvV_rd hb', nvV_rd hb]) hq
  refine ⟨⟨⟨nv, hb', xs, hxs, own_kp hown hk hnv, fun x hx => ⟨own_kp (hnd x hx).1 hk fun q hq e => ?_, own_kp (hnd x hx).2 hk fun q hq e => ?_⟩⟩, h.ws.kp (rb := rb) hk (fun q hq => Nat.le_of_lt (hS q hq).1) h.low, h.low, h.lt, h.ends, h.few, h.txt, h.many, h.nok⟩, fun q hq => ⟨hq.1, by rw [e1]; exact hq.2.1, fun e => hq.2.2 (hnb q e)⟩, fun w0 hF h0 => ⟨hF.kp.trans hk fun q hq => .inr (h0 q hq), fun q hq => hF.nv q (by rw [← e1]; exact hq), fun q hq => hF.nb q (hnb q hq)⟩⟩
  · exact (hS q e).2.2 (nb_of hb hxs hown hx (by simp [cellN]) hq)
  · exact (hS q e).2.2 (nb_of hb hxs hown hx (by simp [cellN]) hq)
/-- A row of a caller's own: none of the reader's, new since w0. -/
structure MyR (w0 w : World) (rb : Nat) (e : TypeId) (v : Value) (n : Nat) (xs : List Value) : Prop where
  own : w.ownsRow w0.heap.size e 1 v n xs
  free : ∀ q, v.ownBlock = some q → Free w rb q
variable {e : TypeId} {v : Value} {n : Nat} {xs : List Value}
theorem MyR.fr (h : MyR w0 w rb e v n xs) (hF : Fr rb w w') : MyR w0 w' rb e v n xs :=
  ⟨own_kp h.own hF.kp (fun q hq hS => hS.elim (fun e => by have := (h.free q hq).1; omega) (fun e => (h.free q hq).2.1 e)), fun q hq => (h.free q hq).fr (own_lt h.own hq) hF⟩
theorem MyR.nil (w0 w : World) (rb : Nat) (e : TypeId) : MyR w0 w rb e (.slice none 0 0) 0 [] := ⟨⟨rfl, .inl ⟨rfl, rfl⟩⟩, fun _ hq => by cases hq⟩
/-- It is made. -/
theorem MyR.made {w0 w : World} {rb k : Nat} {c : RC} {L : List Lx.Wd} {ns : List Tr.Nd} {e : TypeId} (hR : Rd w rb c L k ns) (h0 : w0.heap.size ≤ w.heap.size) (n : Nat) (cs : Array Value) (hn : cs.size = n) (hm : n ≤ 1000 := by omega) : MyR w0 (w.alloc (.cells cs e)) rb e (.slice (some ⟨w.heap.size, 0, none⟩) n n) n cs.toList :=
  ⟨⟨by simp [hn], .inr ⟨w.heap.size, n, cs, rfl, h0, heap_alloc_new _ _, Nat.le_refl _, by unfold maxLen; omega, by omega, by rw [List.take_of_length_le]; simp [hn]⟩⟩,
    fun q hq => by
      have hq' : w.heap.size = q := by injection hq
      subst hq'
      exact ((hR.far (Kp.of_below ((Below.refl w.heap.size w).alloc (Nat.le_refl _) _) fun _ => False) (fun _ e => e.elim)).2.1 _ (Free.new hR (Nat.le_refl _)))⟩
theorem Tr.room_lt {L : List Lx.Wd} {a b : Int} {k k' : Nat} {M M' : List Tr.Nd} {u : Unit} (h : Tr.room L a b k M = .ok (u, k', M')) : a < b := by
  unfold Tr.room Tr.failA at h
  split at h
  · cases h
  · omega
theorem Tr.deep_le {L : List Lx.Wd} {d : Int} {k k' : Nat} {M M' : List Tr.Nd} {u : Unit} (h : Tr.deep L d k M = .ok (u, k', M')) : d ≤ 60 := by
  unfold Tr.deep Tr.failA at h
  split at h
  · cases h
  · omega
/-- It grows. -/
theorem MyR.grown {v' : Value} {n' : Nat} {xs' : List Value} {w1 : World} (h : MyR w0 w rb e v n xs) (hR : Rd w rb c L k ns) (hF : Fr rb w0 w) (hW : Below w.heap.size w w1) (hg : w1.grownBy w' v.ownBlock) (hown : w'.ownsRow w0.heap.size e 1 v' n' xs') (hat : ∀ q, v'.ownBlock = some q → v.ownBlock = some q ∨ w1.heap.size ≤ q) :
    MyR w0 w' rb e v' n' xs' ∧ Rd w' rb c L k ns ∧ Fr rb w0 w' ∧ Kp (fun q => v.ownBlock = some q) w w' ∧ (∀ q, Free w rb q → Free w' rb q) := by
  have hk : Kp (fun q => v.ownBlock = some q) w w' := (Kp.of_below hW _).grown hg (fun q hq => .inl hq)
  obtain ⟨h1, h2, h3⟩ := hR.far hk h.free
  refine ⟨⟨hown, fun q hq => ?_⟩, h1, h3 w0 hF (fun _ hq => own_base h.own hq), hk, h2⟩
  rcases hat q hq with e | e
  · exact h2 q (h.free q e)
  · exact h2 q (Free.new hR (Nat.le_trans hW.size e))
theorem MyR.nd {x : Tr.Nd} {v1 v2 : Value} (h1 : MyR w0 w rb 9 v1 x.keys.length (strs x.keys)) (h2 : MyR w0 w rb 3 v2 x.l.length (ints x.l)) (hlt : rb ≤ w0.heap.size) : NdOwn w rb (x, v1, v2) ∧ ∀ q, NdX (x, v1, v2) q → w0.heap.size ≤ q :=
  ⟨⟨ownsRow_base h1.own hlt, ownsRow_base h2.own hlt⟩, fun _ hq => hq.elim (fun e => own_base h1.own e) (fun e => own_base h2.own e)⟩
theorem Tryz.infoI : (Tryz.prog.info? 3).map (fun i => (i.zero, i.size, i.bytes)) = some (some (.int .i64 0), 1, 8) := by kernel_rfl
theorem Tr.bind_good {α β : Type} {a : Tr.An α} {g : α → Nat → List Tr.Nd → Tr.An β} {x : α} {k : Nat} {M : List Tr.Nd} (h : a = .ok (x, k, M)) : Tr.bind a g = g x k M := by rw [h]; rfl
theorem Tr.bind_err {α β : Type} {a : Tr.An α} {g : α → Nat → List Tr.Nd → Tr.An β} {e : Tr.Er} (h : a = .error e) : Tr.bind a g = .error e := by rw [h]; rfl
theorem Tr.bind_bind {α β γ : Type} (a : Tr.An α) (g : α → Nat → List Tr.Nd → Tr.An β) (h : β → Nat → List Tr.Nd → Tr.An γ) : Tr.bind (Tr.bind a g) h = Tr.bind a fun x k M => Tr.bind (g x k M) h := by
  cases a <;> rfl
theorem below_alloc (w : World) (o : Obj) : Below w.heap.size w (w.alloc o) := (Below.refl _ _).alloc (Nat.le_refl _) o
theorem ints_snoc (l : List Int) (n : Int) : ints l ++ [.int .i64 n] = ints (l ++ [n]) := by simp [ints]
/-- What a part answers, after something else, with lists of its own. -/
theorem EPX.pre2 {α : Type} {X : Nat → Prop} {val : α → Value} {w0 w w' : World} {A : Tr.An α} {e : Ending} (h : EPX X val w rb c L A e w') (hR0 : ∃ k ns, Rd w0 rb c L k ns) (hF : Fr rb w0 w) (hX : ∀ q, X q → w0.heap.size ≤ q) : EP val w0 rb c L A e w' := by
  obtain ⟨k0, ns0, hR0⟩ := hR0
  cases A with
  | error er => exact ⟨h.1, (hF.bel hR0).trans h.2⟩
  | ok x =>
    obtain ⟨x, k, ns⟩ := x
    exact ⟨h.1, h.2.1, FrX.transX (X := fun _ => False) hF h.2.2 (fun q e => .inr (hX q e))⟩
end
end Go.Proofs.YtmgjmagniefhoaaGreatDoor

/- The tree's reader: typ. Conditions: those that each theorem names. -/
namespace Go.Proofs.YtmgjmagniefhoaaGreatDoor
open Go.RowKit Go.Maps
section
variable {w w' : World} {rb k : Nat} {c : RC} {L : List Lx.Wd} {ns : List Tr.Nd}
/-- The loop of typ. -/
structure TyR (L : List Lx.Wd) (rb : Nat) (c : RC) (w wr : World) (A : Tr.An Int) (d : Int) (k0 : Nat) (v : Value) (g : Nat) : Prop where
  ex : ∃ (k : Nat) (ns : List Tr.Nd) (l : List Int) (f : Nat), Rd wr rb c L k ns ∧ MyR w wr rb 3 v l.length (ints l) ∧ 1 ≤ l.length ∧ l.length ≤ 16 ∧ A = Tr.altF L f d l k ns ∧ 8 * (L.length - k) + 6 ≤ f ∧ k0 ≤ k ∧ 1 ≤ k ∧ L.length - k + 1 ≤ g
  fr : Fr rb w wr
/-- What something is that reads, from a word on: a type, an expression. -/
def ValC (L : List Lx.Wd) (k0 V : Nat) (VF : Nat → Int → Nat → List Tr.Nd → Tr.An Int) : Prop := ∀ (w : World) (rb k : Nat) (c : RC) (ns : List Tr.Nd) (f : Nat) (d : Int), 0 ≤ d → d ≤ 61 → k0 ≤ k → 1 ≤ k → 8 * (L.length - k) + 7 ≤ f → Rd w rb c L k ns → Calls Tryz.prog V #[rv rb, .int .i64 d] w (EP (fun z => .int .i64 z) w rb c L (VF f d k ns))
/-- What part is, from a word on. -/
def PartC (L : List Lx.Wd) (k0 : Nat) : Prop := ∀ (w : World) (rb k : Nat) (c : RC) (ns : List Tr.Nd) (f : Nat) (d : Int), 0 ≤ d → d ≤ 60 → k0 ≤ k → 1 ≤ k → 8 * (L.length - k) + 5 ≤ f → Rd w rb c L k ns → Calls Tryz.prog 120 #[rv rb, .int .i64 d] w (EP (fun z => .int .i64 z) w rb c L (Tr.partF L f d k ns))
set_option maxHeartbeats 2000000 in
set_option maxRecDepth 100000 in
theorem typ_c {k0 : Nat} (hp : PartC L k0) (h : Rd w rb c L k ns) (hk0 : k0 ≤ k) (hk1 : 1 ≤ k) (f : Nat) (hf : 8 * (L.length - k) + 7 ≤ f) (d : Int) (hd0 : 0 ≤ d) : Calls Tryz.prog 95 #[rv rb, .int .i64 d] w (EP (fun z => .int .i64 z) w rb c L (Tr.typF L f d k ns)) := by
  obtain ⟨f, rfl⟩ : ∃ f', f = f' + 1 := ⟨f - 1, by omega⟩
  have HR := hid_ h
  have HE := hid_ (show Tr.typF L (f + 1) d k ns = Tr.bind (Tr.deep L d k ns) fun _ k M => Tr.bind (Tr.partF L f d k M) fun n k M => Tr.altF L f d [n] k M from by rw [Tr.typF])
  have HD := hid_ (deep_c h d)
  have HL0 := hid_ (Nat.le_of_lt h.rlt)
  have HR0 := hid_ (show ∃ k ns, Rd w rb c L k ns from ⟨_, _, h⟩)
  clear h
  generalize Tr.typF L (f + 1) d k ns = A at *
  unfold rv
  unfold rv at HD
  go_enter Tryz.func95, Tryz.ntmps95
  go_wp2_with fail
  refine (HD.out).mono ?_
  intro e w1 hE
  rcases hE.cases with ⟨u, k1, ns1, hA, rfl, hR, hF⟩ | ⟨er, hA, rfl, hB⟩
  rotate_left
  · have HAe := hid_ (HE.out.trans (Tr.bind_err hA))
    have HBe := hid_ (hB)
    clear hE hA hB
    go_wp2_with fail
    rw [HAe.out]
    exact ⟨rfl, rfl, HBe.out⟩
  have HA1 := hid_ (HE.out.trans (Tr.bind_good hA))
  have HF1 := hid_ (hF)
  have HR1 := hid_ hR
  have hd1 := Tr.deep_le hA
  obtain ⟨rfl, rfl⟩ := Tr.deep_ok hA
  have HP := hid_ (hp _ _ _ _ _ f d hd0 hd1 hk0 hk1 (by omega) hR)
  clear hE hA hR hF
  go_wp2_with fail
  refine (HP.out).mono ?_
  intro e w2 hE
  rcases hE.cases with ⟨n1, k2, ns2, hA, rfl, hR, hF⟩ | ⟨er, hA, rfl, hB⟩
  rotate_left
  · have HAe := hid_ (HA1.out.trans (Tr.bind_err hA))
    have HBe := hid_ ((HF1.out.bel HR.out).trans hB)
    clear hE hA hB
    go_wp2_with fail
    rw [HAe.out]
    exact ⟨rfl, rfl, HBe.out⟩
  have HA2 := hid_ (HA1.out.trans (Tr.bind_good hA))
  have HF2 := hid_ (HF1.out.trans hF)
  have HR2 := hid_ hR
  have hgo := (Tr.prog f).part hA
  clear hE hA hR hF
  go_wp2_with fail
  have hb3 := below_alloc w2 (.cells #[.int .i64 n1] 3)
  have hlit : MyR w (w2.alloc (.cells #[.int .i64 n1] 3)) rb 3 (.slice (some ⟨w2.heap.size, 0, none⟩) 1 1) 1 (ints [n1]) := MyR.made HR2.out HF2.out.kp.size 1 #[.int .i64 n1] rfl
  have HS := hid_ (show TyR L rb c w (w2.alloc (.cells #[.int .i64 n1] 3)) A d k0 (.slice (some ⟨w2.heap.size, 0, none⟩) 1 1) (L.length + 1) from ⟨⟨k2, ns2, [n1], f, HR2.out.below hb3, hlit, by simp, by simp, HA2.out, by omega, by omega, by omega, by omega⟩, HF2.out.trans (Fr.of_below hb3 HR2.out)⟩)
  obtain ⟨i0, hi0, hz0, hz1, hz2⟩ := info_parts Tryz.infoI
  have HPc := hid_ hp
  clear hlit hb3 hgo hk0 hk1 hf HD HP
  clear hp
  go_loopg [5] (L.length + 1) (fun g v wr => TyR L rb c w wr A d k0 v g)
  case atStart => exact HS.out
  case round =>
    obtain ⟨⟨k, ns, l, f, hR, hown, hl1, hl16, hA, hf, hk0, hk1, hg⟩, hF⟩ := hrel
    obtain ⟨f, rfl⟩ : ∃ f', f = f' + 1 := ⟨f - 1, by omega⟩
    obtain ⟨B, dd, rfl⟩ := own_form hown.own
    have HR := hid_ hR
    have HF := hid_ hF
    have HOwn := hid_ hown
    have HM := hid_ (may_c hR [124])
    have HAl := hid_ (show A = if Tr.isW L [124] k = true then Tr.bind (Tr.room L l.length 16 (k + 1) ns) fun _ k M => Tr.bind (Tr.partF L f d k M) fun n k M => Tr.altF L f d (l ++ [n]) k M else if l.length = 1 then .ok (l.getD 0 0, k, ns) else Tr.node L ⟨8, 0, [], [], [], l⟩ k ns from by rw [hA, Tr.altF])
    have HLt := hid_ (fun hs => isw_lt (s := [124]) hR hs)
    unfold rv at HM
    clear hR hF hown hA HS HF1 HF2 HR1 HR2 HA1 HA2
    cases hb : Tr.isW L [124] k with
    | true =>
      rw [hb] at HM HAl HLt
      have hkl := HLt.out rfl
      have HA3 := hid_ (HAl.out.trans (if_pos rfl))
      clear HAl HLt
      go_wp2_with fail
      refine HM.out.mono ?_
      rintro e w3 ⟨rfl, hR3, hF3⟩
      have HR3 := hid_ (show Rd w3 rb c L (k + 1) ns from hR3)
      have HF3 := hid_ (HF.out.trans hF3)
      have HO3 := hid_ (HOwn.out.fr hF3)
      clear hR3 hF3
      have HRm := hid_ (room_c HR3.out l.length 16)
      unfold rv at HRm
      go_wp2_with fail
      obtain ⟨kz, nsz, HRz⟩ := HR0.out
      have HR0 := hid_ HRz
      clear HRz
      refine (HRm.out).mono ?_
      intro e w4 hE
      rcases hE.cases with ⟨u, k4, ns4, hA, rfl, hR, hF⟩ | ⟨er, hA, rfl, hB⟩
      rotate_left
      · have HAe := hid_ (HA3.out.trans (Tr.bind_err hA))
        have HBe := hid_ ((HF3.out.bel HR0.out).trans hB)
        clear hE hA hB
        go_wp2_with fail
        rw [HAe.out]
        exact ⟨rfl, rfl, HBe.out⟩
      have HA4 := hid_ (HA3.out.trans (Tr.bind_good hA))
      have HF4 := hid_ (HF3.out.trans hF)
      have HR4 := hid_ hR
      have hl := Tr.room_lt hA
      obtain ⟨rfl, rfl⟩ := Tr.room_ok hA
      have HO4 := hid_ (HO3.out.fr hF)
      clear hE hA hR hF
      go_wp2_with fail
      have HP := hid_ (HPc.out _ _ _ _ _ f d hd0 hd1 (by omega) (by omega) (by omega) HR4.out)
      refine (HP.out).mono ?_
      intro e w5 hE
      rcases hE.cases with ⟨n5, k5, ns5, hA, rfl, hR, hF⟩ | ⟨er, hA, rfl, hB⟩
      rotate_left
      · have HAe := hid_ (HA4.out.trans (Tr.bind_err hA))
        have HBe := hid_ ((HF4.out.bel HR0.out).trans hB)
        clear hE hA hB
        go_wp2_with fail
        rw [HAe.out]
        exact ⟨rfl, rfl, HBe.out⟩
      have HA5 := hid_ (HA4.out.trans (Tr.bind_good hA))
      have HF5 := hid_ (HF4.out.trans hF)
      have HR5 := hid_ hR
      have hgo := (Tr.prog f).part hA
      have HO5 := hid_ (HO4.out.fr hF)
      have HO6 := hid_ (HO5.out.fr (Fr.of_below (below_alloc w5 (.cells #[.int .i64 n5] 3)) hR))
      clear hE hA hR hF
      go_wp2_with (first | (at_builtin; refine wpList_append_any rfl (.tmp 19) (.tmp 23) 22 rfl w.heap.size 3 i0 _ 1 8 Tryz.underlying22 hi0 hz0 hz1 hz2 rfl (by omega) (.slice B l.length dd) l.length _ rfl HO6.out.own (some ⟨w5.heap.size, 0, none⟩) 1 1 [.int .i64 n5] rfl rfl (fun h => by cases h) (by intro ad had j u hu; injection had with had; subst had; exact World.news_of_block (heap_alloc_new _ _) j u hu) (by simp [Value.oneCell']) (by unfold maxLen; omega) (by omega) (Nat.le_trans HF5.out.kp.size (below_alloc _ _).size) ?_; intro A1 c1 w6 hown hgrow hat))
      obtain ⟨hm, hr, hf6, _, _⟩ := HO5.out.grown HR5.out HF5.out (below_alloc _ _) hgrow hown hat
      have HTy := hid_ (show TyR L rb c w w6 A d k0 (.slice A1 (l.length + 1) c1) (gk - 1) from ⟨⟨k5, ns5, l ++ [n5], f, hr, by rw [List.length_append, ← ints_snoc]; exact hm, by simp, by simp; omega, HA5.out, by omega, by omega, by omega, by omega⟩, hf6⟩)
      clear hm hr hf6 hown hgrow hat
      go_roundg (gk - 1)
      case rel => exact HTy.out
      case measure => omega
    | false =>
      rw [hb] at HM HAl
      have HA3 := hid_ (HAl.out.trans (if_neg (by decide)))
      clear HAl HLt
      go_wp2_with fail
      refine HM.out.mono ?_
      rintro e w3 ⟨rfl, hR3, hF3⟩
      have HR3 := hid_ (show Rd w3 rb c L k ns from hR3)
      have HF3 := hid_ (HF.out.trans hF3)
      have HO3 := hid_ (HOwn.out.fr hF3)
      clear hR3 hF3
      by_cases h1 : l.length = 1
      · obtain ⟨n1, rfl⟩ := List.length_eq_one_iff.1 h1
        rcases HO3.out.own.2 with ⟨_, h0⟩ | ⟨g, cap, cur, hv, hr⟩
        · exact absurd h0 (by simp)
        · injection hv with hv1 hv2 hv3
          subst hv1
          subst hv3
          have c0 := own_cell HO3.out.own 0 (.int .i64 n1) rfl
          clear hr hv2 h1
          go_wp2_with fail
          go_ret
          rw [HA3.out, if_pos (show [n1].length = 1 from rfl)]
          exact ⟨rfl, HR3.out, HF3.out⟩
      · have q0 : ((l.length : Int) == 1) = false := by rw [beq_eq_false_iff_ne]; omega
        have HA4 := hid_ (HA3.out.trans (if_neg h1))
        clear h1
        have HN := hid_ (MyR.nd (x := ⟨8, 0, [], [], [], l⟩) (MyR.nil w w3 rb 9) HO3.out HL0.out)
        have HNc := hid_ (node_c HR3.out (by omega) HN.out.1 (fun h => absurd h (by simp)))
        unfold rv ndV at HNc
        go_wp2_with fail
        refine HNc.out.mono ?_
        intro e w4 hE
        have hE2 := hE.pre2 HR0.out HF3.out HN.out.2
        rw [← HA4.out] at hE2
        rcases hE2.cases with ⟨x, k', ns', hA, rfl, hR, hF⟩ | ⟨er, hA, rfl, hB⟩
        · have HE2 := hid_ hE2
          clear hE hE2 hA hR hF
          go_wp2_with fail
          go_ret
          exact HE2.out
        · have HE2 := hid_ hE2
          clear hE hE2 hA hB
          go_wp2_with fail
          exact ⟨rfl, HE2.out⟩
theorem typ_val {k0 : Nat} (hp : PartC L k0) : ValC L k0 95 (Tr.typF L) := fun _ _ _ _ _ f d hd0 _ hk0 hk1 hf h => typ_c hp h hk0 hk1 f hf d hd0
theorem ValC.up {k0 k1 V : Nat} {VF : Nat → Int → Nat → List Tr.Nd → Tr.An Int} (h : ValC L k0 V VF) (hk : k0 ≤ k1) : ValC L k1 V VF := fun w rb k c ns f d h0 h1 hk0 hk1 hf hR => h w rb k c ns f d h0 h1 (Nat.le_trans hk hk0) hk1 hf hR
end
end Go.Proofs.YtmgjmagniefhoaaGreatDoor

/- The tree's reader: row. Conditions: those that each theorem names. -/
namespace Go.Proofs.YtmgjmagniefhoaaGreatDoor
open Go.RowKit Go.Maps
section
variable {w w' : World} {rb k : Nat} {c : RC} {L : List Lx.Wd} {ns : List Tr.Nd} {α : Type}
/-- What a part answers that keeps something of the caller's own. -/
def EPI (Inv : α → World → Prop) (w0 : World) (rb : Nat) (c : RC) (L : List Lx.Wd) (A : Tr.An α) (e : Ending) (w' : World) : Prop := match A with
  | .ok (s, k, ns) => e = .returned (.tuple #[]) ∧ Rd w' rb c L k ns ∧ Fr rb w0 w' ∧ Inv s w'
  | .error er => e = .panicked (thrown er) ∧ Below rb w0 w'
theorem EPI.cases {Inv : α → World → Prop} {w0 w' : World} {A : Tr.An α} {e : Ending} (h : EPI Inv w0 rb c L A e w') :
    (∃ s k ns, A = .ok (s, k, ns) ∧ e = .returned (.tuple #[]) ∧ Rd w' rb c L k ns ∧ Fr rb w0 w' ∧ Inv s w') ∨ (∃ er, A = .error er ∧ e = .panicked (thrown er) ∧ Below rb w0 w') := by
  cases A with
  | error er => exact .inr ⟨er, rfl, h⟩
  | ok x =>
    obtain ⟨x, k, ns⟩ := x
    exact .inl ⟨x, k, ns, rfl, h⟩
/-- Things with commas between. -/
structure RowF (L : List Lx.Wd) (P : Nat → α → Prop) (G : Nat → Nat → α → Nat → List Tr.Nd → Tr.An α) (RF : Nat → Nat → α → Nat → List Tr.Nd → Tr.An α) : Prop where
  eq : ∀ f many s k M, P many s → RF (f + 1) many s k M = Tr.bind (Tr.room L many 16 k M) fun _ k M => Tr.bind (G f many s k M) fun s k M => if Tr.isW L [44] k = true then RF f (many + 1) s (k + 1) M else .ok (s, k, M)
  on : ∀ f many s k M s' k' M', G f many s k M = .ok (s', k', M') → k ≤ k'
  nx : ∀ f many s k M s' k' M', P many s → G f many s k M = .ok (s', k', M') → P (many + 1) s'
/-- What the closure of a row does. -/
def OneC (Inv : α → World → Prop) (w0 : World) (rb : Nat) (c : RC) (L : List Lx.Wd) (k0 : Nat) (P : Nat → α → Prop) (G : Nat → Nat → α → Nat → List Tr.Nd → Tr.An α) (F : Nat) (caps : Array Value) : Prop :=
  ∀ (f many : Nat) (s : α) (k : Nat) (ns : List Tr.Nd) (w : World), k0 ≤ k → 1 ≤ k → many < 16 → P many s → 8 * (L.length - k) + 7 ≤ f → Rd w rb c L k ns → Fr rb w0 w → Inv s w → Calls Tryz.prog F (#[.int .i64 many] ++ caps) w (EPI Inv w0 rb c L (G f many s k ns))
/-- The loop of row. -/
def RowR (Inv : α → World → Prop) (w0 : World) (rb : Nat) (c : RC) (L : List Lx.Wd) (k0 : Nat) (P : Nat → α → Prop) (RF : Nat → Nat → α → Nat → List Tr.Nd → Tr.An α) (A : Tr.An α) (stop : List UInt8) (wr : World) (v : Value) (g : Nat) : Prop :=
  ∃ (f many : Nat) (s : α) (k : Nat) (ns : List Tr.Nd), v = .int .i64 many ∧ many ≤ 16 ∧ P many s ∧ k0 ≤ k ∧ 1 ≤ k ∧ 8 * (L.length - k) + 8 ≤ f ∧ Rd wr rb c L k ns ∧ Fr rb w0 wr ∧ Inv s wr ∧ L.length - k + 1 ≤ g ∧ A = Tr.bind (RF f many s k ns) fun s k M => Tr.bind (Tr.must L stop k M) fun _ k M => .ok (s, k, M)
set_option maxHeartbeats 2000000 in
set_option maxRecDepth 100000 in
theorem row_c {k0 : Nat} {Inv : α → World → Prop} {w0 : World} {P : Nat → α → Prop} {G RF : Nat → Nat → α → Nat → List Tr.Nd → Tr.An α} {F : Nat} {caps : Array Value} (hRF : RowF L P G RF) (hI : ∀ s w w', Inv s w → Fr rb w w' → Inv s w') (hone : OneC Inv w0 rb c L k0 P G F caps) (hent : ∀ args w, (callFunc F args).run Tryz.prog w = .ok (.enter F args) w)
    (h00 : ∃ k ns, Rd w0 rb c L k ns) (h : Rd w rb c L k ns) (hF : Fr rb w0 w) (s : α) (hs : Inv s w) (hP : P 0 s) (hk0 : k0 ≤ k) (hk1 : 1 ≤ k) (f : Nat) (hf : 8 * (L.length - k) + 8 ≤ f) (stop : List UInt8) :
    Calls Tryz.prog 122 #[rv rb, .string (st stop), .func (.func F) #[] caps] w (EPI Inv w0 rb c L (Tr.bind (RF f 0 s k ns) fun s k M => Tr.bind (Tr.must L stop k M) fun _ k M => .ok (s, k, M))) := by
  have HS := hid_ (show RowR Inv w0 rb c L k0 P RF (Tr.bind (RF f 0 s k ns) fun s k M => Tr.bind (Tr.must L stop k M) fun _ k M => .ok (s, k, M)) stop w (.int .i64 0) (L.length + 1) from ⟨f, 0, s, k, ns, rfl, by omega, hP, hk0, hk1, hf, h, hF, hs, by omega, rfl⟩)
  obtain ⟨kz, nsz, h00⟩ := h00
  have HR0 := hid_ h00
  have HRF := hid_ hRF
  have HI := hid_ hI
  have HO := hid_ hone
  clear h00 h hF hs hk0 hk1 hf hRF hI hone hP
  generalize (Tr.bind (RF f 0 s k ns) fun s k M => Tr.bind (Tr.must L stop k M) fun _ k M => .ok (s, k, M)) = A at *
  unfold rv
  go_enter Tryz.func122, Tryz.ntmps122
  go_wp2_with fail
  go_loopg [6] (L.length + 1) (fun g v wr => RowR Inv w0 rb c L k0 P RF A stop wr v g)
  case atStart => exact HS.out
  case round =>
    obtain ⟨f, many, s, k, ns, rfl, hm, hP, hk0, hk1, hf, hR, hF, hs, hg, hA⟩ := hrel
    obtain ⟨f, rfl⟩ : ∃ f', f = f' + 1 := ⟨f - 1, by omega⟩
    have HR := hid_ hR
    have HF := hid_ hF
    have HIs := hid_ hs
    have HA0 := hid_ (show A = Tr.bind (Tr.room L many 16 k ns) fun _ k M => Tr.bind (Tr.bind (G f many s k M) fun s k M => if Tr.isW L [44] k = true then RF f (many + 1) s (k + 1) M else .ok (s, k, M)) fun s k M => Tr.bind (Tr.must L stop k M) fun _ k M => .ok (s, k, M) from by rw [hA, HRF.out.eq _ _ _ _ _ hP, Tr.bind_bind])
    have HRm := hid_ (room_c hR many 16)
    unfold rv at HRm
    clear hR hF hs hA HS
    go_wp2_with fail
    refine (HRm.out).mono ?_
    intro e w4 hE
    rcases hE.cases with ⟨u, k4, ns4, hA, rfl, hR, hF⟩ | ⟨er, hA, rfl, hB⟩
    rotate_left
    · have HAe := hid_ (HA0.out.trans (Tr.bind_err hA))
      have HBe := hid_ ((HF.out.bel HR0.out).trans hB)
      clear hE hA hB
      go_wp2_with fail
      rw [HAe.out]
      exact ⟨rfl, rfl, HBe.out⟩
    have HA4 := hid_ (HA0.out.trans (Tr.bind_good hA))
    have HF4 := hid_ (HF.out.trans hF)
    have HR4 := hid_ hR
    have hl := Tr.room_lt hA
    obtain ⟨rfl, rfl⟩ := Tr.room_ok hA
    have HI4 := hid_ (HI.out _ _ _ HIs.out hF)
    have HOn := hid_ (HO.out f many s _ _ w4 hk0 hk1 (by omega) hP (by omega) HR4.out HF4.out HI4.out)
    clear hE hA hR hF
    go_wp2_with fail
    refine HOn.out.mono ?_
    intro e w5 hE
    rcases hE.cases with ⟨s5, k5, ns5, hA, rfl, hR, hF, hi⟩ | ⟨er, hA, rfl, hB⟩
    rotate_left
    · have HAe := hid_ (HA4.out.trans (by rw [hA]; rfl) : A = .error er)
      have HBe := hid_ hB
      clear hE hA hB
      go_wp2_with fail
      rw [HAe.out]
      exact ⟨rfl, rfl, HBe.out⟩
    have hgo := HRF.out.on _ _ _ _ _ _ _ _ hA
    have hP5 := HRF.out.nx _ _ _ _ _ _ _ _ hP hA
    have HA5 := hid_ (HA4.out.trans (by rw [hA]; rfl) : A = Tr.bind (if Tr.isW L [44] k5 = true then RF f (many + 1) s5 (k5 + 1) ns5 else .ok (s5, k5, ns5)) fun s k M => Tr.bind (Tr.must L stop k M) fun _ k M => .ok (s, k, M))
    have HR5 := hid_ hR
    have HF5 := hid_ hF
    have HI5 := hid_ hi
    have HM := hid_ (may_c hR [44])
    have HLt := hid_ (fun hs => isw_lt (s := [44]) hR hs)
    unfold rv at HM
    clear hE hA hR hF hi HOn
    cases hb : Tr.isW L [44] k5 with
    | true =>
      rw [hb] at HM HA5 HLt
      have hkl := HLt.out rfl
      have HA6 := hid_ (HA5.out.trans (congrArg (fun z => Tr.bind z _) (if_pos rfl)))
      clear HLt HA5
      go_wp2_with fail
      refine HM.out.mono ?_
      rintro e w6 ⟨rfl, hR6, hF6⟩
      have HSt := hid_ (show RowR Inv w0 rb c L k0 P RF A stop w6 (.int .i64 ((many + 1 : Nat) : Int)) (gk - 1) from ⟨f, many + 1, s5, k5 + 1, ns5, rfl, by omega, hP5, by omega, by omega, by omega, hR6, HF5.out.trans hF6, HI.out _ _ _ HI5.out hF6, by omega, HA6.out⟩)
      clear hR6 hF6
      go_wp2_with fail
      go_roundg (gk - 1)
      case rel => exact HSt.out
      case measure => omega
    | false =>
      rw [hb] at HM HA5
      have HA6 := hid_ (HA5.out.trans (congrArg (fun z => Tr.bind z _) (if_neg (by decide))))
      clear HLt HA5
      go_wp2_with fail
      refine HM.out.mono ?_
      rintro e w6 ⟨rfl, hR6, hF6⟩
      have HR6 := hid_ (show Rd w6 rb c L k5 ns5 from hR6)
      have HF6 := hid_ (HF5.out.trans hF6)
      have HI6 := hid_ (HI.out _ _ _ HI5.out hF6)
      clear hR6 hF6
      have HMu := hid_ (must_c HR6.out stop)
      have HA7 := hid_ (show A = Tr.bind (Tr.must L stop k5 ns5) fun _ k M => .ok (s5, k, M) from HA6.out)
      unfold rv at HMu
      go_wp2_with fail
      refine (HMu.out).mono ?_
      intro e w7 hE
      rcases hE.cases with ⟨u7, k7, ns7, hA, rfl, hR, hF⟩ | ⟨er, hA, rfl, hB⟩
      rotate_left
      · have HAe := hid_ (HA7.out.trans (Tr.bind_err hA))
        have HBe := hid_ ((HF6.out.bel HR0.out).trans hB)
        clear hE hA hB
        go_wp2_with fail
        rw [HAe.out]
        exact ⟨rfl, rfl, HBe.out⟩
      have HA8 := hid_ (HA7.out.trans (Tr.bind_good hA))
      have HF8 := hid_ (HF6.out.trans hF)
      have HR8 := hid_ hR
      have HI8 := hid_ (HI.out _ _ _ HI6.out hF)
      clear hE hA hR hF
      go_wp2_with fail
      go_end0
      rw [HA8.out]
      exact ⟨rfl, HR8.out, HF8.out, HI8.out⟩
end
end Go.Proofs.YtmgjmagniefhoaaGreatDoor

/- The tree's reader: what the closure of fields does. Conditions: those that each theorem names. -/
namespace Go.Proofs.YtmgjmagniefhoaaGreatDoor
open Go.RowKit Go.Maps
section
variable {w w' : World} {rb k : Nat} {c : RC} {L : List Lx.Wd} {ns : List Tr.Nd}
/-- The variables of fields, from block g on: the reader, the depth, the function, the node. -/
structure FdV (w0 : World) (rb g : Nat) (d kind : Int) (V : Nat) (kv lv : Value) (s : List (List UInt8) × List Int) (W : World) : Prop where
  rB : Blk W g 63 #[rv rb]
  dB : Blk W (g + 1) 3 #[.int .i64 d]
  vB : Blk W (g + 2) 97 #[.func (.func V) #[rv rb] #[]]
  nB : Blk W (g + 3) 57 #[.int .i64 kind, .int .i64 0, .string ⟨#[]⟩, .string ⟨#[]⟩, kv, lv]
  ks : MyR w0 W rb 9 kv s.1.length (strs s.1)
  ls : MyR w0 W rb 3 lv s.2.length (ints s.2)
  ne : lv.ownBlock ≠ some (g + 1)
  fr : ∀ i, i < 4 → Free W rb (g + i)
  le : w0.heap.size ≤ g
def FdI (w0 : World) (rb g : Nat) (d kind : Int) (V : Nat) (s : List (List UInt8) × List Int) (W : World) : Prop := ∃ kv lv, FdV w0 rb g d kind V kv lv s W
variable {w0 W : World} {g V : Nat} {d kind : Int} {kv lv : Value} {s : List (List UInt8) × List Int}
theorem FdV.on {S : Nat → Prop} (h : FdV w0 rb g d kind V kv lv s w) (hk : Kp S w w') (hS : ∀ i, i < 4 → ¬ S (g + i)) (hks : MyR w0 w' rb 9 kv s.1.length (strs s.1)) (hls : MyR w0 w' rb 3 lv s.2.length (ints s.2)) (hf : ∀ i, i < 4 → Free w' rb (g + i)) : FdV w0 rb g d kind V kv lv s w' :=
  ⟨h.rB.kp hk (hS 0 (by omega)), h.dB.kp hk (hS 1 (by omega)), h.vB.kp hk (hS 2 (by omega)), h.nB.kp hk (hS 3 (by omega)), hks, hls, h.ne, hf, h.le⟩
theorem FdV.lt (h : FdV w0 rb g d kind V kv lv s w) (i : Nat) (hi : i < 4) : g + i < w.heap.size := by
  have := h.nB.lt
  omega
theorem FdV.to (h : FdV w0 rb g d kind V kv lv s w) (hF : Fr rb w w') : FdV w0 rb g d kind V kv lv s w' :=
  h.on hF.kp (fun i hi hS => hS.elim (fun e => by have := (h.fr i hi).1; omega) (fun e => (h.fr i hi).2.1 e)) (h.ks.fr hF) (h.ls.fr hF) (fun i hi => (h.fr i hi).fr (h.lt i hi) hF)
theorem FdI.to (h : FdI w0 rb g d kind V s w) (hF : Fr rb w w') : FdI w0 rb g d kind V s w' := by
  obtain ⟨kv, lv, h⟩ := h
  exact ⟨kv, lv, h.to hF⟩
theorem own_ne {w : World} {base base' n n' size size' : Nat} {e e' : TypeId} {v v' : Value} {xs xs' : List Value} {q : Nat} (h : w.ownsRow base e size v n xs) (h' : w.ownsRow base' e' size' v' n' xs') (hne : e ≠ e') (hq : v.ownBlock = some q) : v'.ownBlock ≠ some q := by
  intro hq'
  rcases h.2 with ⟨hv, _⟩ | ⟨g, cap, cur, hv, _, hh, _⟩
  · rw [hv] at hq; cases hq
  · have e1 : g = q := by rw [hv] at hq; injection hq
    subst e1
    exact hne (own_type h' hq' hh)
/-- A key is put behind the others. -/
theorem FdV.key {kv' : Value} {w1 w3 : World} {x : List UInt8} (h : FdV w0 rb g d kind V kv lv s w) (hR : Rd w rb c L k ns) (hF : Fr rb w0 w) (hW : Below w.heap.size w w1) (hg : w1.grownBy w3 kv.ownBlock) (hown : w3.ownsRow w0.heap.size 9 1 kv' (s.1.length + 1) (strs s.1 ++ [.string (st x)])) (hat : ∀ q, kv'.ownBlock = some q → kv.ownBlock = some q ∨ w1.heap.size ≤ q) :
    w3.cell? ⟨g + 3, 4, none⟩ = some kv ∧ w3.frozen? ⟨g + 3, 4, none⟩ = false ∧ Rd (w3.setCell ⟨g + 3, 4, none⟩ kv') rb c L k ns ∧ Fr rb w0 (w3.setCell ⟨g + 3, 4, none⟩ kv') ∧
      FdI w0 rb g d kind V (s.1 ++ [x], s.2) (w3.setCell ⟨g + 3, 4, none⟩ kv') := by
  obtain ⟨hm, hr, hf, hk, hfree⟩ := h.ks.grown hR hF hW hg hown hat
  have n0 : kv.ownBlock ≠ some g := own_blk_ne h.ks.own h.rB (by decide)
  have n1 : kv.ownBlock ≠ some (g + 1) := own_blk_ne h.ks.own h.dB (by decide)
  have n2 : kv.ownBlock ≠ some (g + 2) := own_blk_ne h.ks.own h.vB (by decide)
  have n3 : kv.ownBlock ≠ some (g + 3) := own_blk_ne h.ks.own h.nB (by decide)
  have b0 := h.rB.kp hk n0
  have b1 := h.dB.kp hk n1
  have b2 := h.vB.kp hk n2
  have b3 := h.nB.kp hk n3
  have hls : MyR w0 w3 rb 3 lv s.2.length (ints s.2) := ⟨own_kp h.ls.own hk (fun q hq e => own_ne h.ls.own h.ks.own (by decide) hq e), fun q hq => hfree q (h.ls.free q hq)⟩
  have k3 : Kp (fun q => q = g + 3) w3 (w3.setCell ⟨g + 3, 4, none⟩ kv') := (Kp.refl (fun q => q = g + 3) w3).setCell (p := ⟨g + 3, 4, none⟩) (.inl rfl) kv'
  obtain ⟨hr2, hfree2, hf2⟩ := hr.far k3 (fun q hq => by rw [hq]; exact hfree _ (h.fr 3 (by omega)))
  have m3 : kv'.ownBlock ≠ some (g + 3) := own_blk_ne hown b3 (by decide)
  have l3 : lv.ownBlock ≠ some (g + 3) := own_blk_ne hls.own b3 (by decide)
  refine ⟨b3.cell 4, b3.frozen 4, hr2, hf2 w0 hf (fun q hq => by rw [hq]; have := h.le; omega), ?_⟩
  refine ⟨kv', lv, b0.kp k3 (by omega), b1.kp k3 (by omega), b2.kp k3 (by omega), b3.set_ 4 kv', ⟨?_, fun q hq => hfree2 q (hm.free q hq)⟩, ⟨own_kp hls.own k3 (fun q hq e => l3 (by rw [hq, e])), fun q hq => hfree2 q (hls.free q hq)⟩, h.ne, fun i hi => hfree2 _ (hfree _ (h.fr i hi)), h.le⟩
  have := own_kp hm.own k3 (fun q hq e => m3 (by rw [hq, e]))
  simpa [strs] using this
/-- A number is put behind the others. -/
theorem FdV.num {lv' : Value} {w1 w3 : World} {x : Int} (h : FdV w0 rb g d kind V kv lv s w) (hR : Rd w rb c L k ns) (hF : Fr rb w0 w) (hW : Below w.heap.size w w1) (hg : w1.grownBy w3 lv.ownBlock) (hown : w3.ownsRow w0.heap.size 3 1 lv' (s.2.length + 1) (ints s.2 ++ [.int .i64 x])) (hat : ∀ q, lv'.ownBlock = some q → lv.ownBlock = some q ∨ w1.heap.size ≤ q) :
    w3.cell? ⟨g + 3, 5, none⟩ = some lv ∧ w3.frozen? ⟨g + 3, 5, none⟩ = false ∧ Rd (w3.setCell ⟨g + 3, 5, none⟩ lv') rb c L k ns ∧ Fr rb w0 (w3.setCell ⟨g + 3, 5, none⟩ lv') ∧ FdI w0 rb g d kind V (s.1, s.2 ++ [x]) (w3.setCell ⟨g + 3, 5, none⟩ lv') := by
  obtain ⟨r0, d0, v0, m0, hks, hls, hne, hfr, hle⟩ := h
  obtain ⟨hm, hr, hf, hk, hfree⟩ := hls.grown hR hF hW hg hown hat
  have n0 : lv.ownBlock ≠ some g := own_blk_ne hls.own r0 (by decide)
  have n2 : lv.ownBlock ≠ some (g + 2) := own_blk_ne hls.own v0 (by decide)
  have n3 : lv.ownBlock ≠ some (g + 3) := own_blk_ne hls.own m0 (by decide)
  have b0 := r0.kp hk n0
  have b1 := d0.kp hk hne
  have b2 := v0.kp hk n2
  have b3 := m0.kp hk n3
  have hlt : g + 1 < w1.heap.size := Nat.lt_of_lt_of_le d0.lt hW.size
  have hks2 : MyR w0 w3 rb 9 kv s.1.length (strs s.1) := ⟨own_kp hks.own hk (fun q hq e => own_ne hks.own hls.own (by decide) hq e), fun q hq => hfree q (hks.free q hq)⟩
  have k3 : Kp (fun q => q = g + 3) w3 (w3.setCell ⟨g + 3, 5, none⟩ lv') := (Kp.refl (fun q => q = g + 3) w3).setCell (p := ⟨g + 3, 5, none⟩) (.inl rfl) lv'
  obtain ⟨hr2, hfree2, hf2⟩ := hr.far k3 (fun q hq => by rw [hq]; exact hfree _ (hfr 3 (by omega)))
  have m3 : lv'.ownBlock ≠ some (g + 3) := own_blk_ne hown b3 (by decide)
  have l3 : kv.ownBlock ≠ some (g + 3) := own_blk_ne hks2.own b3 (by decide)
  refine ⟨b3.cell 5, b3.frozen 5, hr2, hf2 w0 hf (fun q hq => by rw [hq]; omega), ?_⟩
  refine ⟨kv, lv', b0.kp k3 (by omega), b1.kp k3 (by omega), b2.kp k3 (by omega), b3.set_ 5 lv', ⟨own_kp hks2.own k3 (fun q hq e => l3 (by rw [hq, e])), fun q hq => hfree2 q (hks2.free q hq)⟩, ⟨?_, fun q hq => hfree2 q (hm.free q hq)⟩, fun e => ?_, fun i hi => hfree2 _ (hfree _ (hfr i hi)), hle⟩
  · have := own_kp hm.own k3 (fun q hq e => m3 (by rw [hq, e]))
    simpa [ints] using this
  · rcases hat _ e with e | e
    · exact hne e
    · omega
end
end Go.Proofs.YtmgjmagniefhoaaGreatDoor
