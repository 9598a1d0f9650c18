/- A cache's row, as container/heap asks it. Conditions: those that each theorem names. -/
import Derived.Test.YtogedbednfbkmaaD
import Derived.Test.YtogedbednfbkmaaE
import Derived.Test.YtogedbednfbkmaaL
namespace Go.Proofs.Ytogedbednfbkmaa
open Go.RowKit Go.Maps

/-- A cache's row in memory, F its blocks since w0. -/
structure CM (F : Nat → Prop) (w0 : World) (cb : Nat) (h : Hd) (w : World) (L : List Me) : Prop where
  kp : Kp F w0 w
  fc : F cb
  fe : ∀ m ∈ L, F m.g
  len : L.length ≤ 100000
  body : ∃ sv, RowIs w cb h sv L ∧ ∀ q, sv.ownBlock = some q → F q ∨ w0.heap.size ≤ q

section
variable {F : Nat → Prop} {w0 : World} {cb : Nat} {h : Hd}
theorem CM.headM : HeadM (CM F w0 cb h) ⟨cb, 8, none⟩ := by
  intro w L hM
  obtain ⟨sv, r, _⟩ := hM.body
  obtain ⟨A, c, rfl⟩ := r.shape
  exact ⟨A, c, r.head.cell 8⟩
theorem head_sv {w : World} {sv sv' : Value} {L : List Me} (r : RowIs w cb h sv L) (hc : w.cell? ⟨cb, 8, none⟩ = some sv') : sv' = sv := by
  have h1 : w.cell? ⟨cb, 8, none⟩ = some sv := r.head.cell 8
  rw [h1] at hc
  injection hc with hc
  exact hc.symm
theorem CM.lenM : LenM (CM F w0 cb h) ⟨cb, 8, none⟩ := by
  intro w L sv hM hc
  obtain ⟨sv', r, hq⟩ := hM.body
  obtain rfl := head_sv r hc
  exact (len_c r).mono fun e w' ⟨he, hw⟩ => ⟨he, hw ▸ hM⟩
theorem CM.below {w w' : World} {L : List Me} (hM : CM F w0 cb h w L) (hb : Below w.heap.size w w') : CM F w0 cb h w' L := by
  obtain ⟨sv, r, hq⟩ := hM.body
  exact ⟨hM.kp.below hb, hM.fc, hM.fe, hM.len, sv, r.below hb, hq⟩
theorem CM.lessM : LessM ltM (CM F w0 cb h) ⟨cb, 8, none⟩ := by
  intro w L i k sv hM hc i0 i1 k0 k1
  obtain ⟨sv', r, hq⟩ := hM.body
  obtain rfl := head_sv r hc
  obtain ⟨i, rfl⟩ := Int.eq_ofNat_of_zero_le i0
  obtain ⟨k, rfl⟩ := Int.eq_ofNat_of_zero_le k0
  refine (less_c r i k (by omega) (by omega)).mono fun e w' ⟨he, hw⟩ => ⟨?_, hM.below hw⟩
  rw [he, Int.toNat_natCast, Int.toNat_natCast, at_eq _ _ (by omega), at_eq _ _ (by omega)]
theorem CM.swapM : SwapM (CM F w0 cb h) ⟨cb, 8, none⟩ := by
  intro w L i k sv hM hc i0 i1 k0 k1 hne
  obtain ⟨sv', r, hq⟩ := hM.body
  obtain rfl := head_sv r hc
  obtain ⟨i, rfl⟩ := Int.eq_ofNat_of_zero_le i0
  obtain ⟨k, rfl⟩ := Int.eq_ofNat_of_zero_le k0
  have hi : i < L.length := by omega
  have hk : k < L.length := by omega
  obtain ⟨rg, cap, hv, _⟩ := r.item hi
  subst hv
  rw [Int.toNat_natCast, Int.toNat_natCast]
  refine (swap_c r i k hi hk (by omega)).mono fun e w' ⟨he, hw⟩ => ⟨he, ?_⟩
  subst hw
  have hs := r.swap i k hi hk
  have hl := sw_length L i k
  refine ⟨hM.kp.trans (swapW_kp w rg i k _ _) (fun q hx => ?_), hM.fc, fun m hm => hM.fe m ((sw_perm L i k hi hk).mem_iff.1 hm), by rw [hl]; exact hM.len, _, hs, hq⟩
  rcases hx with e | e | e
  · exact hq q (by rw [e]; rfl)
  · exact .inl (e ▸ hM.fe _ (List.getElem_mem hi))
  · exact .inl (e ▸ hM.fe _ (List.getElem_mem hk))
theorem CM.pushM (x : Me) : PushM (fun w L => CM F w0 cb h w L ∧ L.length < 100000 ∧ F x.g ∧ x.g ∉ L.map Me.g ∧ ∃ k, Ent w x k) (CM F w0 cb h) ⟨cb, 8, none⟩ x (.iface 67 (ptr x.g)) := by
  intro w L ⟨hM, hl, hF, hg, k, hE⟩
  obtain ⟨sv, r, hq⟩ := hM.body
  refine (push_c r hE hg hM.len).mono fun e w' ⟨he, sv', r', hk, hq'⟩ => ⟨he, hM.kp.trans hk (fun q hx => ?_), hM.fc, fun m hm => ?_, by simp; omega, sv', r', fun q hs => ?_⟩
  · rcases hx with e | e | e
    · exact .inl (e ▸ hM.fc)
    · exact .inl (e ▸ hF)
    · exact hq q e
  · rcases List.mem_append.1 hm with hm | hm
    · exact hM.fe m hm
    · simp at hm; rw [hm]; exact hF
  · rcases hq' q hs with e | e
    · exact hq q e
    · exact .inr (Nat.le_trans hM.kp.size e)
theorem CM.popM (x : Me) : PopM (CM F w0 cb h) (fun w L => CM F w0 cb h w L ∧ ∃ k, Ent w x k) ⟨cb, 8, none⟩ (fun x => .iface 67 (ptr x.g)) x := by
  intro w L hM
  obtain ⟨sv, r, hq⟩ := hM.body
  have hl := hM.len
  have hE : Ent w x L.length := by
    have := r.ents L.length (by simp)
    simpa using this
  have hne : cb ≠ x.g := r.head_ne (by simp)
  refine (popm_c r (by simp at hl; omega)).mono fun e w' ⟨he, sv', r', hk, hq'⟩ => ⟨he, ⟨hM.kp.trans hk (fun q hx => .inl (hx ▸ hM.fc)), hM.fc, fun m hm => hM.fe m (by simp [hm]), by simp at hl; omega, sv', r', fun q hs => hq q (by rw [← hq']; exact hs)⟩, _, hE.kp hk (fun e => hne e.symm)⟩
end
end Go.Proofs.Ytogedbednfbkmaa
