/- A cache's map from keys to entries. Conditions: those that each theorem names. -/
import Derived.Test.YtogedbednfbkmaaC
import Derived.Maps.StringElems
namespace Go.Proofs.Ytogedbednfbkmaa
open Go.RowKit Go.Maps

/-- How a pointer at an entry reads. -/
def ptrElem : Value → Option (DataW Unit × List MemPlace)
  | .pointer none => some (.lit (.int .i64 (-1)), [])
  | .pointer (some ⟨g, 0, none⟩) => some (.lit (.int .i64 g), [])
  | _ => none
abbrev gD (g : Nat) : DataW Unit := .lit (.int .i64 g)
abbrev nilD : DataW Unit := .lit (.int .i64 (-1))
abbrev kl (k : ByteArray) : Lit := .string k.data.toList
theorem ptrElem_some {v : Value} {g : Nat} {ps : List MemPlace} (h : ptrElem v = some (gD g, ps)) : v = .pointer (some ⟨g, 0, none⟩) := by
  unfold ptrElem at h
  split at h
  · injection h with h; injection h with h _; injection h with h; injection h with _ h; omega
  · injection h with h; injection h with h _; injection h with h; injection h with _ h
    have : _ = g := Int.ofNat.inj h
    rw [this]
  · cases h
theorem ptrElem_none {v : Value} {ps : List MemPlace} (h : ptrElem v = some (nilD, ps)) : v = .pointer none := by
  unfold ptrElem at h
  split at h
  · rfl
  · injection h with h; injection h with h _; injection h with h; injection h with _ h; omega
  · cases h
theorem Try.law9 : Keyed Try.prog 9 := string_keyed Try.underlying9
theorem keyOf_str {s : ByteArray} (h : s.size ≤ maxLen) : keyOf Try.prog 9 (.string s) = some (kl s) := by simp [keyOf, mapKey, Try.underlying9, h]
theorem Try.zero67 (w : World) : (zeroValue 67).run Try.prog w = .ok (.pointer none) w := by kernel_rfl
theorem kl_ne {a b : ByteArray} (h : a ≠ b) : kl a ≠ kl b := fun e => h (by
  injection e with e
  exact ByteArray.ext (Array.toList_inj.1 e))
theorem keyLit (k : ByteArray) : WideAt.IsKeyLit (kl k) := by simp [WideAt.IsKeyLit]
/-- Block mb is the map that reads as D. -/
abbrev MapIs (w : World) (mb n : Nat) (D : DataW Unit) : Prop := w.ownsMap Try.prog 9 ptrElem mb n D
theorem MapIs.tight {w : World} {mb n : Nat} {D : DataW Unit} (h : MapIs w mb n D) : MapIs w mb (Maps.size D) D := by
  obtain ⟨es, clock, hb, F, hs, hD⟩ := h
  refine ⟨es, clock, hb, F, ?_, hD⟩
  rw [hD]
  simp [Maps.size, length_sorted]
theorem turned_kp {w w' : World} {b : Nat} (h : w.mapTurned w' b) : Kp (fun k => k = b) w w' :=
  ⟨h.grown.os, h.grown.tape, h.grown.output, h.grown.size, fun k hk hn => h.grown.block k hk (fun e => hn (by injection e))⟩
theorem blk_map_ne {w : World} {g t mb n : Nat} {cs : Array Value} {D : DataW Unit} (h : Blk w g t cs) (hm : MapIs w mb n D) : g ≠ mb := by
  rintro rfl
  obtain ⟨_, _, hb, _⟩ := hm
  unfold Blk at h
  rw [h] at hb
  cases hb
theorem own_map_ne {w : World} {base : Nat} {e : TypeId} {size m mb n : Nat} {v : Value} {xs : List Value} {D : DataW Unit} (h : w.ownsRow base e size v m xs) (hm : MapIs w mb n D) : v.ownBlock ≠ some mb := by
  rcases h.2 with ⟨rfl, _⟩ | ⟨g', cap, cur, rfl, _, hh, _⟩
  · simp [Value.ownBlock]
  · intro he
    have : g' = mb := by simpa [Value.ownBlock] using he
    subst this
    exact blk_map_ne (t := e) hh hm rfl

/-- D tells of each key where its entry lies. -/
structure Idx (D : DataW Unit) (L : List Me) : Prop where
  has_ : ∀ k : ByteArray, Maps.has D (kl k) = true ↔ ∃ m ∈ L, m.e.key = k
  at_ : ∀ m ∈ L, D.atKey (kl m.e.key) nilD = gD m.g
  size : Maps.size D = L.length
theorem Idx.perm {D : DataW Unit} {L L' : List Me} (h : Idx D L) (hp : L'.Perm L) : Idx D L' :=
  ⟨fun k => by rw [h.has_ k]; exact ⟨fun ⟨m, hm, e⟩ => ⟨m, hp.mem_iff.2 hm, e⟩, fun ⟨m, hm, e⟩ => ⟨m, hp.mem_iff.1 hm, e⟩⟩, fun m hm => h.at_ m (hp.mem_iff.1 hm), by rw [h.size, hp.length_eq]⟩
theorem Idx.miss {D : DataW Unit} {L : List Me} (h : Idx D L) {k : ByteArray} (hk : ∀ m ∈ L, m.e.key ≠ k) : Maps.has D (kl k) = false := by
  cases e : Maps.has D (kl k) with
  | false => rfl
  | true =>
    obtain ⟨m, hm, e2⟩ := (h.has_ k).1 e
    exact absurd e2 (hk m hm)
theorem Idx.put {D : DataW Unit} {L : List Me} (hD : Tidy D) (h : Idx D L) (x : Me) (hx : ∀ m ∈ L, m.e.key ≠ x.e.key) : Idx (D.put (kl x.e.key) (gD x.g)) (L ++ [x]) := by
  refine ⟨fun k => ?_, fun m hm => ?_, ?_⟩
  · by_cases e : k = x.e.key
    · subst e
      rw [has_put_same hD.isMap (keyLit _)]
      exact ⟨fun _ => ⟨x, by simp, rfl⟩, fun _ => rfl⟩
    · rw [has_put_other (kl_ne e), h.has_ k]
      constructor
      · rintro ⟨m, hm, e2⟩; exact ⟨m, by simp [hm], e2⟩
      · rintro ⟨m, hm, e2⟩
        rcases List.mem_append.1 hm with hm | hm
        · exact ⟨m, hm, e2⟩
        · simp at hm; subst hm; exact absurd e2.symm e
  · rcases List.mem_append.1 hm with hm | hm
    · rw [atKey_put_other (kl_ne (hx m hm))]; exact h.at_ m hm
    · simp at hm; subst hm
      rw [atKey_put_same hD.isMap (keyLit _)]
  · rw [size_put hD, h.miss hx, h.size]; simp
theorem Idx.del {D : DataW Unit} {L : List Me} {x : Me} (hD : Tidy D) (h : Idx D (L ++ [x])) (hx : ∀ m ∈ L, m.e.key ≠ x.e.key) : Idx (D.del (kl x.e.key)) L := by
  refine ⟨fun k => ?_, fun m hm => ?_, ?_⟩
  · by_cases e : k = x.e.key
    · subst e
      rw [has_del_same]
      constructor
      · intro h; cases h
      · rintro ⟨m, hm, e2⟩; exact absurd e2 (hx m hm)
    · rw [has_del_other (kl_ne e), h.has_ k]
      constructor
      · rintro ⟨m, hm, e2⟩
        rcases List.mem_append.1 hm with hm | hm
        · exact ⟨m, hm, e2⟩
        · simp at hm; subst hm; exact absurd e2.symm e
      · rintro ⟨m, hm, e2⟩; exact ⟨m, by simp [hm], e2⟩
  · rw [atKey_del_other (kl_ne (hx m hm))]
    exact h.at_ m (by simp [hm])
  · have h1 : Maps.has D (kl x.e.key) = true := (h.has_ _).2 ⟨x, by simp, rfl⟩
    have h2 := size_del (k := kl x.e.key) hD
    rw [h1, h.size] at h2
    simp at h2
    omega
/-- A look-up in the map: nil, or the entry. -/
theorem look {w : World} {mb n : Nat} {D : DataW Unit} {L : List Me} (h : MapIs w mb n D) (hI : Idx D L) (k : ByteArray) (hk : k.size ≤ maxLen) :
    ((∀ m ∈ L, m.e.key ≠ k) ∧ (Instr.lookup 62 (.map (some mb)) (.string k) false).run Try.prog w = .ok (.pointer none) w) ∨ (∃ m ∈ L, m.e.key = k ∧ (Instr.lookup 62 (.map (some mb)) (.string k) false).run Try.prog w = .ok (.pointer (some ⟨m.g, 0, none⟩)) w) := by
  obtain ⟨v, ps, hrun, hv⟩ := h.lookup Try.law9 Try.underlying62 (Try.zero67 w) (zd := nilD) (zp := []) rfl (keyOf_str hk)
  by_cases e : ∃ m ∈ L, m.e.key = k
  · obtain ⟨m, hm, e⟩ := e
    refine .inr ⟨m, hm, e, ?_⟩
    rw [← e, hI.at_ m hm] at hv
    rw [hrun, ptrElem_some hv]
  · refine .inl ⟨fun m hm x => e ⟨m, hm, x⟩, ?_⟩
    have hno : Maps.has D (kl k) = false := hI.miss fun m hm x => e ⟨m, hm, x⟩
    rw [atKey_of_not_has hno] at hv
    rw [hrun, ptrElem_none hv]
end Go.Proofs.Ytogedbednfbkmaa
