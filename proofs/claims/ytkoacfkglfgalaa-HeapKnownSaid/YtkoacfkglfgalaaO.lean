/- A heap as what it stands for: its items in their order. Plain; no program is named here. -/
import Derived.Test.YtkoacfkglfgalaaN
namespace Go.Proofs.Ytkoacfkglfgalaa
open Go.RowKit Go.Maps

/-- In order, each ahead of all behind it. -/
def Srt (S : List Item) : Prop := S.Pairwise fun x y => ltI x y = true
def ins (x : Item) : List Item → List Item
  | [] => [x]
  | y :: l => if ltI y x = true then y :: ins x l else x :: y :: l
def outS (id : Int) (S : List Item) : List Item := S.filter fun p => !(p.1 == id)
/-- What a Put makes of a heap. -/
def putS (id r : Int) (S : List Item) : List Item := ins (id, r) (outS id S)
def hasS (id : Int) (S : List Item) : Bool := S.any fun p => p.1 == id
def rankS (id : Int) (S : List Item) : Int := ((S.find? fun p => p.1 == id).map (·.2)).getD 0

theorem ins_perm (x : Item) : ∀ l, (ins x l).Perm (x :: l)
  | [] => .refl _
  | y :: l => by
    unfold ins
    split
    · exact ((ins_perm x l).cons y).trans (.swap x y l)
    · exact .refl _
theorem ltI_tri (x y : Item) (h : x.1 ≠ y.1) : ltI x y = true ∨ ltI y x = true := by
  simp only [ltI, decide_eq_true_eq]; omega
theorem ins_srt (x : Item) : ∀ l, Srt l → (∀ p ∈ l, p.1 ≠ x.1) → Srt (ins x l)
  | [], _, _ => by simp [ins, Srt]
  | y :: l, h, hn => by
    have h' := List.pairwise_cons.1 h
    unfold ins
    split
    · rename_i hy
      refine List.pairwise_cons.2 ⟨fun z hz => ?_, ins_srt x l h'.2 (fun p hp => hn p (by simp [hp]))⟩
      rcases List.mem_cons.1 ((ins_perm x l).mem_iff.1 hz) with rfl | hz
      · exact hy
      · exact h'.1 z hz
    · rename_i hy
      have hxy : ltI x y = true := (ltI_tri x y (fun e => hn y (by simp) e.symm)).resolve_right hy
      refine List.pairwise_cons.2 ⟨fun z hz => ?_, h⟩
      rcases List.mem_cons.1 hz with rfl | hz
      · exact hxy
      · exact ordI.tr _ _ _ hxy (h'.1 z hz)
theorem outS_srt {id : Int} {S : List Item} (h : Srt S) : Srt (outS id S) := List.Pairwise.filter _ h
theorem outS_ne {id : Int} {S : List Item} : ∀ p ∈ outS id S, p.1 ≠ id := fun p hp => by
  have := (List.mem_filter.1 hp).2
  simpa using this
theorem putS_srt {id r : Int} {S : List Item} (h : Srt S) : Srt (putS id r S) := ins_srt _ _ (outS_srt h) outS_ne
theorem outS_none {id : Int} {S : List Item} (h : id ∉ S.map (·.1)) : outS id S = S := by
  unfold outS
  rw [List.filter_eq_self]
  intro p hp
  have : p.1 ≠ id := fun e => h (by rw [← e]; exact List.mem_map.2 ⟨p, hp, rfl⟩)
  simp [this]
theorem hasS_iff {id : Int} {S : List Item} : hasS id S = decide (id ∈ S.map (·.1)) := by
  unfold hasS
  rw [Bool.eq_iff_iff]
  simp
theorem out_perm {L S : List Item} {id : Int} (hp : L.Perm S) : (outS id L).Perm (outS id S) := hp.filter _

/-- Once an item is taken out, that is all without its id. -/
theorem out_of {L L' : List Item} {x : Item} (hp : (L' ++ [x]).Perm L) (g : Good L) : L'.Perm (outS x.1 L) := by
  have h1 := out_perm (id := x.1) hp
  refine List.Perm.trans ?_ h1
  have g' := g.perm hp
  have hx : x.1 ∉ L'.map (·.1) := by
    have := g'.once
    rw [List.map_append, List.nodup_append] at this
    exact fun hm => this.2.2 _ hm x.1 (by simp) rfl
  have e : outS x.1 (L' ++ [x]) = L' := by
    unfold outS
    rw [List.filter_append]
    have := outS_none hx
    unfold outS at this
    rw [this]
    simp
  rw [e]

theorem heap_min {L : List Item} (h : Heap ltI L L.length) : ∀ k, k < L.length → Le ltI (at_ L 0) (at_ L k) := by
  intro k
  induction k using Nat.strongRecOn with
  | _ k ih =>
    intro hk
    by_cases h0 : k = 0
    · subst h0; exact Le.refl ordI _
    · exact Le.trans ordI (ih ((k - 1) / 2) (by omega) (by omega)) (h k (by omega) hk trivial)
theorem head_is {L : List Item} {x : Item} {S : List Item} (h : Heap ltI L L.length) (hp : L.Perm (x :: S)) (hs : Srt (x :: S)) : at_ L 0 = x := by
  have hl := hp.length_eq
  have hx : x ∈ L := hp.mem_iff.2 (by simp)
  obtain ⟨k, hk, e⟩ := List.mem_iff_getElem.1 hx
  have h1 := heap_min h k hk
  rw [at_eq L k hk, e] at h1
  have hm : at_ L 0 ∈ x :: S := by
    rw [at_eq L 0 (by simp at hl; omega)]
    exact hp.mem_iff.1 (List.getElem_mem _)
  rcases List.mem_cons.1 hm with e | hm
  · exact e
  · have := (List.pairwise_cons.1 hs).1 _ hm
    unfold Le at h1
    rw [this] at h1
    cases h1

/-- At hb lies a heap that stands for S; F its blocks. -/
structure IsH (F : Nat → Prop) (w : World) (hb : Nat) (S : List Item) : Prop where
  srt : Srt S
  body : ∃ rb mb L, HM F w hb rb mb w L ∧ Heap ltI L L.length ∧ L.Perm S

section
variable {F : Nat → Prop} {w w' w0 : World} {hb rb mb : Nat} {S : List Item} {L : List Item}
theorem HM.isH (h : HM F w0 hb rb mb w L) (hh : Heap ltI L L.length) (hp : L.Perm S) (hs : Srt S) : IsH (fun q => F q ∨ w0.heap.size ≤ q) w hb S := by
  obtain ⟨sv, D, hR, hI, hq⟩ := h.body
  exact ⟨hs, rb, mb, L, ⟨h.good, Kp.refl _ _, .inl h.fh, .inl h.fr, .inl h.fm, sv, D, hR, hI, fun q hx => .inl (hq q hx)⟩, hh, hp⟩
theorem HM.start (h : HM F w hb rb mb w L) : ∃ sv D, RowIs w hb rb mb L.length sv D L ∧ Idx D L ∧ ∀ q, sv.ownBlock = some q → F q := by
  obtain ⟨sv, D, hR, hI, hq⟩ := h.body
  refine ⟨sv, D, hR, hI, fun q hs => (hq q hs).resolve_right (fun hx => ?_)⟩
  rcases hR.own.2 with ⟨h1, _⟩ | ⟨g, _, _, h1, _, h2, _⟩
  · rw [h1] at hs; simp [Value.ownBlock] at hs
  · rw [h1] at hs
    have : g = q := by simpa [Value.ownBlock] using hs
    subst this
    have := Blk.lt (t := 65) h2
    omega
theorem IsH.kp {G : Nat → Prop} (h : IsH F w hb S) (hk : Kp G w w') (hd : ∀ q, F q → ¬ G q) : IsH F w' hb S := by
  obtain ⟨rb, mb, L, hM, hh, hp⟩ := h.body
  obtain ⟨sv, D, hR, hI, hq⟩ := hM.start
  exact ⟨h.srt, rb, mb, L, ⟨hM.good, Kp.refl _ _, hM.fh, hM.fr, hM.fm, sv, D, hR.kp hk (hd _ hM.fh) (hd _ hM.fr) (hd _ hM.fm) (fun q hs => hd _ (hq q hs)), hI, fun q hs => .inl (hq q hs)⟩, hh, hp⟩
theorem IsH.below (h : IsH F w hb S) (hk : Below w.heap.size w w') : IsH F w' hb S := h.kp (Kp.of_below hk fun _ => False) (fun _ _ => id)
theorem IsH.mono {G : Nat → Prop} (h : IsH F w hb S) (hg : ∀ q, F q → G q) : IsH G w hb S := by
  obtain ⟨rb, mb, L, hM, hh, hp⟩ := h.body
  obtain ⟨sv, D, hR, hI, hq⟩ := hM.start
  exact ⟨h.srt, rb, mb, L, ⟨hM.good, Kp.refl _ _, hg _ hM.fh, hg _ hM.fr, hg _ hM.fm, sv, D, hR, hI, fun q hs => .inl (hg q (hq q hs))⟩, hh, hp⟩
theorem IsH.good (h : IsH F w hb S) : Good S := by
  obtain ⟨rb, mb, L, hM, hh, hp⟩ := h.body
  exact hM.good.perm hp.symm
theorem IsH.drew (h : IsH F w hb S) : IsH F w.drew hb S := h.below (Below.refl _ w).drew
end

theorem lit_inj {a b : Int} (h : (DataW.lit (.int .i64 a) : DataW Unit) = .lit (.int .i64 b)) : a = b := by
  injection h with h
  injection h
/-- A look-up whose answer is known. -/
theorem wpList_lookup_idx (w : World) {ops : Array Oper} {rest : List Oper} {o : Oper} {a : Act} {Q : Exit → Act → World → Prop} (hg : o.guard = none) (m x : Operand) (hop : o.op = Op.lookup 59 m x true) (b n : Nat) (D : DataW Unit)
    (hm : a.eval m = .map (some b)) (hown : MapIs w b n D) (key : Int) (hx : a.eval x = .int .i64 key) (hkey : keyOf Try.prog 3 (.int .i64 key) = some (kl key)) (c : Int) (hat : D.atKey (kl key) (i64 0) = i64 c)
    (hK : wpList Try.prog ops Q rest (a.put o.dst (.tuple #[.int .i64 c, .bool (Maps.has D (kl key))])) w) : wpList Try.prog ops Q (o :: rest) a w :=
  wpList_lookup_own_ok_int w hg m x 59 hop 3 3 .i64 Try.law3 Try.underlying59 Try.underlying3 (Try.zero3 _) b n D hm hown _ _ hx hkey (fun c' hat' _ => by
    have e : c = c' := lit_inj (hat.symm.trans hat')
    subst e
    exact hK)
end Go.Proofs.Ytkoacfkglfgalaa
