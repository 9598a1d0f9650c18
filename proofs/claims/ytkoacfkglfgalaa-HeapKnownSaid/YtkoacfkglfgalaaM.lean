/- The map that tells where each id lies: what is put into it and taken out. Conditions: those that each theorem names. -/
import Derived.Test.YtkoacfkglfgalaaH
import Derived.Test.YtkoacfkglfgalaaI
namespace Go.Proofs.Ytkoacfkglfgalaa
open Go.RowKit Go.Maps

abbrev Item := Int × Int
abbrev kl (id : Int) : Lit := .int .i64 id
/-- D tells of each id whether it lies in L, and where. -/
structure Idx (D : DataW Unit) (L : List Item) : Prop where
  has_ : ∀ id, Maps.has D (kl id) = decide (id ∈ L.map (·.1))
  at_ : ∀ (i : Nat) (h : i < L.length), D.atKey (kl (L[i]'h).1) (i64 0) = i64 i
/-- Each id once; ids and ranks in their bounds. -/
structure Good (L : List Item) : Prop where
  once : (L.map (·.1)).Nodup
  low : ∀ p ∈ L, 0 ≤ p.1 ∧ p.1 ≤ 9999 ∧ 0 ≤ p.2 ∧ p.2 ≤ 9007199254740991

theorem Good.perm {L L' : List Item} (h : Good L) (hp : L'.Perm L) : Good L' :=
  ⟨(hp.map _).nodup_iff.2 h.once, fun p hm => h.low p (hp.mem_iff.1 hm)⟩
theorem Good.inj {L : List Item} (h : Good L) {i k : Nat} (hi : i < L.length) (hk : k < L.length) (e : (L[i]'hi).1 = (L[k]'hk).1) : i = k := by
  have := List.pairwise_iff_getElem.1 h.once
  rcases Nat.lt_trichotomy i k with hlt | hlt | hlt
  · exact absurd (by rw [List.getElem_map, List.getElem_map]; exact e) (this i k (by simpa using hi) (by simpa using hk) hlt)
  · exact hlt
  · exact absurd (by rw [List.getElem_map, List.getElem_map]; exact e.symm) (this k i (by simpa using hk) (by simpa using hi) hlt)

theorem keyLit (id : Int) : WideAt.IsKeyLit (kl id) := by simp [WideAt.IsKeyLit]
theorem kl_ne {a b : Int} (h : a ≠ b) : kl a ≠ kl b := fun e => h (by injection e)

theorem Idx.swap {D : DataW Unit} {L : List Item} (hD : IsMap D) (h : Idx D L) (g : Good L) (i k : Nat) (hi : i < L.length) (hk : k < L.length) :
    Idx ((D.put (kl (L[k]'hk).1) (i64 i)).put (kl (L[i]'hi).1) (i64 k)) (sw L i k) := by
  have hp := sw_perm L i k hi hk
  refine ⟨fun id => ?_, fun j hj => ?_⟩
  · have e : decide (id ∈ (sw L i k).map (·.1)) = decide (id ∈ L.map (·.1)) := decide_eq_decide.2 (hp.map _).mem_iff
    rw [e]
    have mi : (L[i]'hi).1 ∈ L.map (·.1) := List.mem_map.2 ⟨_, List.getElem_mem _, rfl⟩
    have mk : (L[k]'hk).1 ∈ L.map (·.1) := List.mem_map.2 ⟨_, List.getElem_mem _, rfl⟩
    by_cases h1 : id = (L[i]'hi).1
    · subst h1
      rw [has_put_same (hD.put _ _) (keyLit _)]
      simp [mi]
    · rw [has_put_other (kl_ne h1)]
      by_cases h2 : id = (L[k]'hk).1
      · subst h2
        rw [has_put_same hD (keyLit _)]
        simp [mk]
      · rw [has_put_other (kl_ne h2)]
        exact h.has_ id
  · have hj' : j < L.length := by rw [← sw_length L i k]; exact hj
    have e : (sw L i k)[j] = if j = i then L[k] else if j = k then L[i] else L[j] := by
      have := sw_at L i k j hi hk
      simp only [List.getD_eq_getElem?_getD, List.getElem?_eq_getElem hj, List.getElem?_eq_getElem hk, List.getElem?_eq_getElem hi, List.getElem?_eq_getElem hj', Option.getD_some] at this
      exact this
    rw [e]
    by_cases h1 : j = i
    · subst h1
      rw [if_pos rfl]
      by_cases h2 : j = k
      · subst h2
        rw [atKey_put_same (hD.put _ _) (keyLit _)]
      · rw [atKey_put_other (kl_ne (fun e => h2 (g.inj hi hk e.symm))), atKey_put_same hD (keyLit _)]
    · rw [if_neg h1]
      by_cases h2 : j = k
      · subst h2
        rw [if_pos rfl, atKey_put_same (hD.put _ _) (keyLit _)]
      · rw [if_neg h2, atKey_put_other (kl_ne (fun e => h1 (g.inj hj' hi e))), atKey_put_other (kl_ne (fun e => h2 (g.inj hj' hk e)))]
        exact h.at_ j hj'

theorem Idx.push {D : DataW Unit} {L : List Item} (hD : IsMap D) (h : Idx D L) (x : Item) (hx : x.1 ∉ L.map (·.1)) : Idx (D.put (kl x.1) (i64 L.length)) (L ++ [x]) := by
  refine ⟨fun id => ?_, fun j hj => ?_⟩
  · by_cases h1 : id = x.1
    · subst h1
      rw [has_put_same hD (keyLit _)]
      simp
    · rw [has_put_other (kl_ne h1), h.has_ id]
      simp [h1]
  · by_cases h1 : j < L.length
    · rw [List.getElem_append_left h1, atKey_put_other (kl_ne (fun e => hx (by rw [← e]; exact List.mem_map.2 ⟨_, List.getElem_mem _, rfl⟩)))]
      exact h.at_ j h1
    · have : j = L.length := by simp at hj; omega
      subst this
      simp only [List.getElem_concat_length]
      rw [atKey_put_same hD (keyLit _)]

theorem Idx.pop {D : DataW Unit} {L : List Item} {x : Item} (h : Idx D (L ++ [x])) (g : Good (L ++ [x])) : Idx (D.del (kl x.1)) L := by
  have hx : x.1 ∉ L.map (·.1) := by
    have := g.once
    simp only [List.map_append, List.map_cons, List.map_nil] at this
    rw [List.nodup_append] at this
    intro hm
    exact this.2.2 _ hm x.1 (by simp) rfl
  refine ⟨fun id => ?_, fun j hj => ?_⟩
  · by_cases h1 : id = x.1
    · subst h1
      rw [has_del_same]
      simp [hx]
    · rw [has_del_other (kl_ne h1), h.has_ id]
      simp [h1]
  · have hne : (L[j]'hj).1 ≠ x.1 := fun e => hx (by rw [← e]; exact List.mem_map.2 ⟨_, List.getElem_mem _, rfl⟩)
    rw [atKey_del_other (kl_ne hne)]
    have := h.at_ j (by simp; omega)
    rw [List.getElem_append_left hj] at this
    exact this

theorem nodup_le {l m : List Int} (h : l.Nodup) (hs : ∀ x ∈ l, x ∈ m) : l.length ≤ m.length := by
  induction l generalizing m with
  | nil => simp
  | cons a l ih =>
    have ha : a ∈ m := hs a (by simp)
    rw [List.nodup_cons] at h
    have := ih h.2 (m := m.erase a) (fun x hx => (List.mem_erase_of_ne (fun e => h.1 (by rw [← e]; exact hx))).2 (hs x (by simp [hx])))
    rw [List.length_erase_of_mem ha] at this
    have : 0 < m.length := List.length_pos_of_mem ha
    simp; omega

/-- The map has no more entries than the row has items. -/
theorem map_tight {w : World} {mb n : Nat} {D : DataW Unit} {L : List Item} (h : MapIs w mb n D) (hi : Idx D L) : MapIs w mb L.length D := by
  have ht := h.tidy Try.law3
  obtain ⟨es, clock, hb, F, hs, hD⟩ := h
  refine ⟨es, clock, hb, F, ?_, hD⟩
  have hlen : ((es.toList.map (WideElems.rg (H := Unit) Try.prog 3 (plainElem Try.prog 3))).foldr DataW.insert []).length = es.size := length_read (H := Unit) (R0 := plainElem Try.prog 3) es
  obtain ⟨l, hl, hpw⟩ := ht
  rw [hD] at hl
  injection hl with hl
  rw [hl] at hlen
  have hkey : ∀ p ∈ l, ∃ k : Int, p.1 = kl k := by
    intro p hp
    have hk := fit_keys F
    have hp' : p ∈ es.toList.map (WideElems.rg Try.prog 3 (plainElem Try.prog 3)) := by
      rw [← hl] at hp
      exact (Go.WideShapes.sorted_perm _).mem_iff.1 hp
    obtain ⟨v, hv⟩ := hk p hp'
    have hv' : keyOf Try.prog 3 v = some p.1 := hv
    cases v <;> simp [keyOf, mapKey, Try.underlying3] at hv'
    obtain ⟨⟨rfl, _⟩, e⟩ := hv'
    exact ⟨_, e.symm⟩
  have hmem : ∀ p ∈ l, ∀ k, p.1 = kl k → k ∈ L.map (·.1) := by
    intro p hp k hk
    have := hi.has_ k
    rw [hD, hl, has_eq] at this
    have ht : l.any (fun q => q.1.sameKey (kl k)) = true := List.any_eq_true.2 ⟨p, hp, by rw [hk]; simp [Lit.sameKey]⟩
    rw [ht] at this
    exact of_decide_eq_true this.symm
  have num : ∀ p ∈ l, p.1 = kl (match p.1 with | .int _ n => n | _ => 0) := by
    intro p hp
    obtain ⟨k, hk⟩ := hkey p hp
    rw [hk]
  have hn : (l.map (fun p => match p.1 with | .int _ n => n | _ => 0)).Nodup := by
    rw [List.Nodup, List.pairwise_map]
    refine List.Pairwise.imp_of_mem (R := fun p q => p.1 ≠ q.1) (fun {p q} hp hq hne e => hne ?_) hpw
    rw [num p hp, num q hq]
    exact congrArg kl e
  have := nodup_le hn (m := L.map (·.1)) (fun x hx => by
    obtain ⟨p, hp, rfl⟩ := List.mem_map.1 hx
    exact hmem p hp _ (num p hp))
  simp at this
  omega
end Go.Proofs.Ytkoacfkglfgalaa
