/- A heap's memory, and what the row's methods do to it, as container/heap asks it. Conditions: those that each theorem names. -/
import Derived.Test.YtkoacfkglfgalaaM
import Derived.Test.YtkoacfkglfgalaaL
import Derived.Test.YtkoacfkglfgalaaE
import Derived.Test.YtkoacfkglfgalaaF
import Derived.Test.YtkoacfkglfgalaaG
namespace Go.Proofs.Ytkoacfkglfgalaa
open Go.RowKit Go.Maps

theorem ordI : Ord ltI := by
  refine ⟨fun x => ?_, fun x y z h1 h2 => ?_, fun x y z h => ?_⟩
  · simp [ltI]
  · simp only [ltI, decide_eq_true_eq] at *; omega
  · simp only [ltI, decide_eq_true_eq] at *; omega
theorem ltI_anti {x y : Item} (h1 : ltI x y = false) (h2 : ltI y x = false) : x = y := by
  simp only [ltI, decide_eq_false_iff_not] at *
  have : x.1 = y.1 ∧ x.2 = y.2 := by omega
  exact Prod.ext this.1 this.2

theorem Good.len {L : List Item} (h : Good L) : L.length ≤ 10000 := by
  have := nodup_le h.once (m := (List.range 10000).map (fun n : Nat => (n : Int))) (fun x hx => by
    obtain ⟨p, hp, rfl⟩ := List.mem_map.1 hx
    have := h.low p hp
    exact List.mem_map.2 ⟨p.1.toNat, List.mem_range.2 (by omega), by omega⟩)
  simpa using this
theorem wf_of {n : Int} (h0 : 0 ≤ n) (h1 : n ≤ 9007199254740991) : Wf n := WalkArith.wf_i64 (by omega)
theorem Good.wf {L : List Item} (h : Good L) {p : Item} (hp : p ∈ L) : Wf p.1 := wf_of (h.low p hp).1 (by have := h.low p hp; omega)

/-- A heap's memory, F its blocks since w0. -/
structure HM (F : Nat → Prop) (w0 : World) (hb rb mb : Nat) (w : World) (L : List Item) : Prop where
  good : Good L
  kp : Kp F w0 w
  fh : F hb
  fr : F rb
  fm : F mb
  body : ∃ sv D, RowIs w hb rb mb L.length sv D L ∧ Idx D L ∧ ∀ q, sv.ownBlock = some q → F q ∨ w0.heap.size ≤ q

section
variable {F : Nat → Prop} {w0 : World} {hb rb mb : Nat}
theorem at_eq (L : List Item) (i : Nat) (h : i < L.length) : at_ L i = L[i] := by
  simp only [at_, List.getD_eq_getElem?_getD]
  rw [List.getElem?_eq_getElem h, Option.getD_some]

theorem HM.lenM : LenM (HM F w0 hb rb mb) ⟨rb, 0, none⟩ := by
  intro w L h
  obtain ⟨sv, D, hR, hI, hq⟩ := h.body
  exact (len_c hR).mono fun e w' ⟨he, hw⟩ => ⟨he, hw ▸ h⟩

theorem HM.lessM : LessM ltI (HM F w0 hb rb mb) ⟨rb, 0, none⟩ := by
  intro w L i k h i0 i1 k0 k1
  obtain ⟨sv, D, hR, hI, hq⟩ := h.body
  obtain ⟨i, rfl⟩ := Int.eq_ofNat_of_zero_le i0
  obtain ⟨k, rfl⟩ := Int.eq_ofNat_of_zero_le k0
  refine (less_c hR i k (by omega) (by omega)).mono fun e w' ⟨he, hw⟩ => ⟨?_, ?_⟩
  · rw [he, Int.toNat_natCast, Int.toNat_natCast, at_eq _ _ (by omega), at_eq _ _ (by omega)]
  · exact ⟨h.good, h.kp.below hw, h.fh, h.fr, h.fm, sv, D, hR.below hw, hI, hq⟩

theorem HM.swapM : SwapM (HM F w0 hb rb mb) ⟨rb, 0, none⟩ := by
  intro w L i k h i0 i1 k0 k1
  obtain ⟨sv, D, hR, hI, hq⟩ := h.body
  obtain ⟨i, rfl⟩ := Int.eq_ofNat_of_zero_le i0
  obtain ⟨k, rfl⟩ := Int.eq_ofNat_of_zero_le k0
  have hi : i < L.length := by omega
  have hk : k < L.length := by omega
  have hlen := h.good.len
  have hwi := h.good.wf (List.getElem_mem hi)
  have hwk := h.good.wf (List.getElem_mem hk)
  have hmax : L.length + 1 < maxLen := by unfold maxLen; omega
  have hidx := hI.swap hR.map.isMap h.good i k hi hk
  have hlk : ∀ q, (q = mb ∨ sv.ownBlock = some q) → F q ∨ w0.heap.size ≤ q := fun q hx => hx.elim (fun e => .inl (e ▸ h.fm)) (hq q)
  rw [Int.toNat_natCast, Int.toNat_natCast]
  have fin : ∀ (e : Ending) (w' : World), e = .returned (.tuple #[]) → RowIs w' hb rb mb (L.length + 2) sv ((D.put (kl (L[k]'hk).1) (i64 i)).put (kl (L[i]'hi).1) (i64 k)) (sw L i k) → Kp (fun q => q = mb ∨ sv.ownBlock = some q) w w' →
      e = .returned (.tuple #[]) ∧ HM F w0 hb rb mb w' (sw L i k) := by
    intro e w' he hR' hk'
    refine ⟨he, h.good.perm (sw_perm L i k hi hk), h.kp.trans hk' hlk, h.fh, h.fr, h.fm, sv, _, ⟨hR'.head, hR'.row, hR'.own, map_tight hR'.map hidx⟩, hidx, hq⟩
  by_cases e : i = k
  · subst e
    have es : sw L i i = L := by
      simp only [sw, List.set_set, List.getD_eq_getElem?_getD, List.getElem?_eq_getElem hi, Option.getD_some]
      exact List.set_getElem_self hi
    exact (swap_eq hR i hi hwi (wf_of (by omega) (by omega)) hmax).mono fun e w' ⟨he, hR', hk'⟩ => fin e w' he (by rw [es]; exact hR') hk'
  · exact (swap_ne hR i k hi hk e hwi hwk (wf_of (by omega) (by omega)) (wf_of (by omega) (by omega)) hmax).mono fun e w' ⟨he, hR', hk'⟩ => fin e w' he hR' hk'

theorem HM.pushM (x : Item) (hx : 0 ≤ x.1 ∧ x.1 ≤ 9999 ∧ 0 ≤ x.2 ∧ x.2 ≤ 9007199254740991) :
    PushM (fun w L => HM F w0 hb rb mb w L ∧ x.1 ∉ L.map (·.1)) (HM F w0 hb rb mb) ⟨rb, 0, none⟩ x (.iface 65 (.agg #[.int .i64 x.1, .int .i64 x.2])) := by
  intro w L ⟨h, hf⟩
  obtain ⟨sv, D, hR, hI, hq⟩ := h.body
  have hlen := h.good.len
  have hidx := hI.push hR.map.isMap x hf
  refine (push_c hR x.1 x.2 (wf_of hx.1 (by omega)) (by unfold maxLen; omega) (by omega)).mono fun e w' ⟨he, sv', hR', hk', hq'⟩ => ⟨he, ?_⟩
  refine ⟨⟨?_, ?_⟩, h.kp.trans hk' (fun q hx => ?_), h.fh, h.fr, h.fm, sv', _, ⟨hR'.head, hR'.row, hR'.own, map_tight hR'.map hidx⟩, hidx, fun q hs => ?_⟩
  · rw [List.map_append, List.nodup_append]
    exact ⟨h.good.once, by simp, fun a ha b hb e => hf (by simp at hb; rw [hb] at e; rw [← e]; exact ha)⟩
  · intro p hp
    rcases List.mem_append.1 hp with hp | hp
    · exact h.good.low p hp
    · simp at hp; rw [hp]; exact hx
  · rcases hx with e | e | e
    · exact .inl (e ▸ h.fm)
    · exact .inl (e ▸ h.fr)
    · exact hq q e
  · rcases hq' q hs with e | e
    · exact hq q e
    · exact .inr (Nat.le_trans h.kp.size e)

theorem HM.popM : PopM (HM F w0 hb rb mb) (HM F w0 hb rb mb) ⟨rb, 0, none⟩ (fun x => .iface 65 (.agg #[.int .i64 x.1, .int .i64 x.2])) := by
  intro w L x h
  obtain ⟨sv, D, hR, hI, hq⟩ := h.body
  have hlen := h.good.len
  have hidx := hI.pop h.good
  refine (popm_c hR (h.good.wf (by simp)) (by simp at hlen; omega)).mono fun e w' ⟨he, sv', hR', hk', hq'⟩ => ⟨he, ?_⟩
  refine ⟨⟨?_, fun p hp => h.good.low p (by simp [hp])⟩, h.kp.trans hk' (fun q hx => ?_), h.fh, h.fr, h.fm, sv', _, ⟨hR'.head, hR'.row, hR'.own, map_tight hR'.map hidx⟩, hidx, fun q hs => hq q (by rw [← hq']; exact hs)⟩
  · have := h.good.once
    rw [List.map_append, List.nodup_append] at this
    exact this.1
  · rcases hx with e | e
    · exact .inl (e ▸ h.fm)
    · exact .inl (e ▸ h.fr)
end
end Go.Proofs.Ytkoacfkglfgalaa
