/- A cache as what it stands for: its entries in their order. Plain; no program is named here. -/
import Derived.Test.YtogedbednfbkmaaA
import Derived.Test.YtogedbednfbkmaaI
namespace Go.Proofs.Ytogedbednfbkmaa

/-- An entry. -/
structure En where
  key : ByteArray
  val : List Int
  cost : Int
  worth : Int
  used : Int
instance : Inhabited En := ⟨⟨.empty, [], 0, 0, 0⟩⟩
/-- Is an entry cheaper than another one? -/
def ltE (x y : En) : Bool := decide (x.worth < y.worth ∨ x.worth = y.worth ∧ x.used < y.used)
theorem ordE : Ord ltE := by
  refine ⟨fun x => ?_, fun x y z h1 h2 => ?_, fun x y z h => ?_⟩
  · simp [ltE]
  · simp only [ltE, decide_eq_true_eq] at *; omega
  · simp only [ltE, decide_eq_true_eq] at *; omega
def szE (e : En) : Nat := e.key.size + e.val.length
def szS (S : List En) : Nat := (S.map szE).sum
def SrtE (S : List En) : Prop := S.Pairwise fun x y => ltE x y = true
def insE (x : En) : List En → List En
  | [] => [x]
  | y :: l => if ltE y x = true then y :: insE x l else x :: y :: l
def outE (k : ByteArray) (S : List En) : List En := S.filter fun e => decide (e.key ≠ k)
def hasE (k : ByteArray) (S : List En) : Bool := S.any fun e => decide (e.key = k)
def getE (k : ByteArray) (S : List En) : Option En := S.find? fun e => decide (e.key = k)

/-- What a cache stands for. -/
structure Cs where
  room : Int
  level : Int
  uses : Int
  found : Int
  missed : Int
  thrown : Int
  S : List En
def evict (room n : Int) : Int → Int → List En → Int × Int × List En
  | lv, th, [] => (lv, th, [])
  | lv, th, x :: S => if (szS (x :: S) : Int) + n > room then evict room n x.worth (th + 1) S else (lv, th, x :: S)
def badE (k : ByteArray) (cost : Int) : Bool := decide (k.size = 0 ∨ 200 < k.size ∨ cost < 0 ∨ 1000000 < cost)
def useE (c : Cs) (e : En) (S : List En) : Cs := { c with uses := c.uses + 1, S := insE { e with worth := c.level + e.cost, used := c.uses + 1 } S }
def putC (c : Cs) (k : ByteArray) (v : List Int) (cost : Int) : Int × Cs :=
  if badE k cost = true then (2, c) else
  if (k.size + v.length : Int) > c.room then (5, c) else
  let t := evict c.room (k.size + v.length) c.level c.thrown (outE k c.S)
  (0, useE { c with level := t.1, thrown := t.2.1 } ⟨k, v, cost, 0, 0⟩ t.2.2)
def getC (c : Cs) (k : ByteArray) : Option (List Int) × Cs :=
  match getE k c.S with
  | none => (none, { c with missed := c.missed + 1 })
  | some e => (some e.val, useE { c with found := c.found + 1 } e (outE k c.S))
def dropC (c : Cs) (k : ByteArray) : Bool × Cs := (hasE k c.S, { c with S := outE k c.S })

theorem insE_perm (x : En) : ∀ l, (insE x l).Perm (x :: l)
  | [] => .refl _
  | y :: l => by
    unfold insE
    split
    · exact ((insE_perm x l).cons y).trans (.swap x y l)
    · exact .refl _
/-- Two that are neither ahead of the other have the same worth and the same use. -/
theorem ltE_tri (x y : En) (h : x.used ≠ y.used) : ltE x y = true ∨ ltE y x = true := by
  simp only [ltE, decide_eq_true_eq]; omega
theorem insE_srt (x : En) : ∀ l, SrtE l → (∀ p ∈ l, p.used ≠ x.used) → SrtE (insE x l)
  | [], _, _ => by simp [insE, SrtE]
  | y :: l, h, hn => by
    have h' := List.pairwise_cons.1 h
    unfold insE
    split
    · rename_i hy
      refine List.pairwise_cons.2 ⟨fun z hz => ?_, insE_srt x l h'.2 (fun p hp => hn p (by simp [hp]))⟩
      rcases List.mem_cons.1 ((insE_perm x l).mem_iff.1 hz) with rfl | hz
      · exact hy
      · exact h'.1 z hz
    · rename_i hy
      have hxy : ltE x y = true := (ltE_tri x y (fun e => hn y (by simp) e.symm)).resolve_right hy
      refine List.pairwise_cons.2 ⟨fun z hz => ?_, h⟩
      rcases List.mem_cons.1 hz with rfl | hz
      · exact hxy
      · exact ordE.tr _ _ _ hxy (h'.1 z hz)
theorem outE_srt {k : ByteArray} {S : List En} (h : SrtE S) : SrtE (outE k S) := List.Pairwise.filter _ h
theorem mem_outE {k : ByteArray} {S : List En} {e : En} : e ∈ outE k S ↔ e ∈ S ∧ e.key ≠ k := by
  unfold outE
  rw [List.mem_filter]
  simp
theorem szS_perm {S T : List En} (h : S.Perm T) : szS S = szS T := (h.map szE).sum_nat
theorem szS_cons (e : En) (S : List En) : szS (e :: S) = szE e + szS S := by simp [szS]
theorem szS_insE (x : En) (S : List En) : szS (insE x S) = szE x + szS S := by rw [szS_perm (insE_perm x S), szS_cons]
theorem hasE_iff {k : ByteArray} {S : List En} : hasE k S = true ↔ k ∈ S.map En.key := by
  unfold hasE
  simp
theorem hasE_not {k : ByteArray} {S : List En} : hasE k S = false ↔ k ∉ S.map En.key := by
  rw [← hasE_iff, Bool.not_eq_true]
theorem outE_none {k : ByteArray} {S : List En} (h : k ∉ S.map (·.key)) : outE k S = S := by
  unfold outE
  rw [List.filter_eq_self]
  intro p hp
  have : p.key ≠ k := fun e => h (by rw [← e]; exact List.mem_map.2 ⟨p, hp, rfl⟩)
  simp [this]

/-- What holds of every cache's entries. -/
structure Gd (uses : Int) (S : List En) : Prop where
  srt : SrtE S
  once : (S.map En.key).Nodup
  ok : ∀ e ∈ S, 0 < e.key.size ∧ e.key.size ≤ 200 ∧ 0 ≤ e.cost ∧ e.cost ≤ 1000000 ∧ 0 ≤ e.worth ∧ e.worth ≤ 1000000 * uses ∧ 0 < e.used ∧ e.used ≤ uses
theorem Gd.out {uses : Int} {S : List En} (h : Gd uses S) (k : ByteArray) : Gd uses (outE k S) :=
  ⟨outE_srt h.srt, h.once.sublist (List.filter_sublist.map _), fun e he => h.ok e (mem_outE.1 he).1⟩
theorem Gd.tail {uses : Int} {S : List En} (h : Gd uses S) : Gd uses S.tail :=
  ⟨h.srt.sublist (List.tail_sublist S), h.once.sublist ((List.tail_sublist S).map _), fun e he => h.ok e (List.mem_of_mem_tail he)⟩
theorem Gd.ins {uses : Int} {S : List En} (h : Gd uses S) {x : En} (hk : x.key ∉ S.map En.key) (h1 : 0 < x.key.size ∧ x.key.size ≤ 200 ∧ 0 ≤ x.cost ∧ x.cost ≤ 1000000) (h2 : 0 ≤ x.worth ∧ x.worth ≤ 1000000 * (uses + 1)) (h3 : x.used = uses + 1) (h0 : 0 ≤ uses) : Gd (uses + 1) (insE x S) := by
  refine ⟨insE_srt x S h.srt (fun p hp => ?_), ?_, fun e he => ?_⟩
  · have := h.ok p hp; omega
  · rw [((insE_perm x S).map _).nodup_iff, List.map_cons, List.nodup_cons]
    exact ⟨hk, h.once⟩
  · rcases List.mem_cons.1 ((insE_perm x S).mem_iff.1 he) with rfl | he
    · omega
    · have := h.ok e he; omega

/-- An entry in memory: its block, and the slice that its value is. -/
structure Me where
  g : Nat
  v : Go.Value
  e : En
instance : Inhabited Me := ⟨⟨0, .slice none 0 0, default⟩⟩
def ltM (x y : Me) : Bool := ltE x.e y.e
theorem ordM : Ord ltM := ⟨fun x => ordE.irr x.e, fun x y z => ordE.tr x.e y.e z.e, fun x y z => ordE.tot x.e y.e z.e⟩
theorem at_eq {α : Type} [Inhabited α] (L : List α) (i : Nat) (h : i < L.length) : at_ L i = L[i] := by
  simp only [at_, List.getD_eq_getElem?_getD]
  rw [List.getElem?_eq_getElem h, Option.getD_some]
theorem heap_min {α : Type} [Inhabited α] {lt : α → α → Bool} (O : Ord lt) {L : List α} (h : Heap lt L L.length) : ∀ k, k < L.length → Le lt (at_ L 0) (at_ L k) := by
  intro k
  induction k using Nat.strongRecOn with
  | _ k ih =>
    intro hk
    by_cases h0 : k = 0
    · subst h0; exact Le.refl O _
    · exact Le.trans O (ih ((k - 1) / 2) (by omega) (by omega)) (h k (by omega) hk trivial)
theorem head_is {L : List Me} {x : En} {S : List En} (h : Heap ltM L L.length) (hp : (L.map Me.e).Perm (x :: S)) (hs : SrtE (x :: S)) : (at_ L 0).e = x := by
  have hl := hp.length_eq
  simp only [List.length_map, List.length_cons] at hl
  have hx : x ∈ L.map Me.e := hp.mem_iff.2 (by simp)
  obtain ⟨m, hm, e⟩ := List.mem_map.1 hx
  obtain ⟨k, hk, e2⟩ := List.mem_iff_getElem.1 hm
  have h1 := heap_min ordM h k hk
  rw [at_eq L k hk, e2] at h1
  have hm0 : (at_ L 0).e ∈ x :: S := by
    rw [at_eq L 0 (by omega)]
    exact hp.mem_iff.1 (List.mem_map.2 ⟨_, List.getElem_mem _, rfl⟩)
  rcases List.mem_cons.1 hm0 with e3 | hm0
  · exact e3
  · have := (List.pairwise_cons.1 hs).1 _ hm0
    unfold Le ltM at h1
    rw [e, this] at h1
    cases h1
/-- Two sorted lists of the same entries are the same. -/
theorem srt_unique : ∀ {S T : List En}, S.Perm T → SrtE S → SrtE T → S = T
  | [], T, hp, _, _ => hp.nil_eq
  | x :: S, T, hp, hs, ht => by
    match T with
    | [] => exact absurd hp.length_eq (by simp)
    | y :: T =>
      have e : x = y := by
        have hx : x ∈ y :: T := hp.mem_iff.1 (by simp)
        have hy : y ∈ x :: S := hp.mem_iff.2 (by simp)
        rcases List.mem_cons.1 hx with e | hx
        · exact e
        · rcases List.mem_cons.1 hy with e | hy
          · exact e.symm
          · have h1 := (List.pairwise_cons.1 hs).1 _ hy
            have h2 := (List.pairwise_cons.1 ht).1 _ hx
            have := ordE.tr _ _ _ h1 h2
            rw [ordE.irr] at this; cases this
      subst e
      rw [srt_unique ((List.perm_cons x).1 hp) (List.pairwise_cons.1 hs).2 (List.pairwise_cons.1 ht).2]
end Go.Proofs.Ytogedbednfbkmaa
