/- Put's end, plainly: the entry goes into the map, the size is told, the entry goes into the row. Conditions: those that each theorem names. -/
import Derived.Test.YtogedbednfbkmaaT
namespace Go.Proofs.Ytogedbednfbkmaa
open Go.RowKit Go.Maps
section
variable {F : Nat → Prop} {w w3 w4 w6 w7 w8 : World} {cb mb n n' gx : Nat} {c : Cs} {h h6 h7 : Hd} {sv : Value} {L' L9 : List Me} {D D' : DataW Unit} {x : Me}

theorem put7 (r : RowIs w4 cb h sv L') (hM : MapIs w4 mb n D) {cs : Array Value} (hx4 : Blk w4 x.g 74 cs) (hgL : ∀ m ∈ L', m.g ≠ x.g) (hk46 : Kp (fun q => q = cb ∨ q = x.g ∨ q = mb) w4 w6) (hB6 : Blk w6 cb 66 (h6.cells sv)) (hE6 : Ent w6 x 0) (hM6 : MapIs w6 mb n' D')
    (N : Nat) (u : Value) (e : (h6.cells sv).setIfInBounds 3 u = h7.cells sv) :
    RowIs ((w6.drewN N).setCell ⟨cb, 3, none⟩ u) cb h7 sv L' ∧ Ent ((w6.drewN N).setCell ⟨cb, 3, none⟩ u) x 0 ∧ Kp (fun q => q = cb ∨ q = x.g ∨ q = mb) w4 ((w6.drewN N).setCell ⟨cb, 3, none⟩ u) ∧ MapIs ((w6.drewN N).setCell ⟨cb, 3, none⟩ u) mb (Maps.size D') D' := by
  have hk67 : Kp (fun q => q = cb) w6 ((w6.drewN N).setCell ⟨cb, 3, none⟩ u) := ((Kp.refl (fun q => q = cb) w6).drewN N).setCell (p := ⟨cb, 3, none⟩) (.inl rfl) u
  have hk47 : Kp (fun q => q = cb ∨ q = x.g ∨ q = mb) w4 ((w6.drewN N).setCell ⟨cb, 3, none⟩ u) := hk46.trans hk67 (fun q hq => .inl (.inl hq))
  have nmc : mb ≠ cb := fun e => blk_map_ne r.head hM e.symm
  have nxc : x.g ≠ cb := fun e => Blk.ne_ r.head hx4 (by decide) e.symm
  have hd := (hB6.drewN N).set_ 3 u
  rw [e] at hd
  refine ⟨⟨hd, own_kp r.own hk47 (fun q hq => ?_), fun i hi => (r.ents i hi).kp hk47 ?_, r.nd⟩, (hE6.drewN N).far nxc _, hk47, MapIs.tight (map_kp hM6 hk67 nmc)⟩
  · rintro (e | e | e)
    · exact (r.own_ne hq).1 e
    · subst e; exact own_blk_ne r.own hx4 (by decide) hq
    · exact own_map_ne r.own hM (by rw [hq, e])
  · rintro (e | e | e)
    · exact r.head_ne (List.getElem_mem hi) e.symm
    · exact hgL _ (List.getElem_mem hi) e
    · exact blk_map_ne (r.ents i hi) hM e

/-- The row with a new entry's block beside it. -/
theorem RowIs.cm_with (r : RowIs w7 cb h7 sv L') (hl : L'.length ≤ 100000) : CM (fun q => Fr cb sv L' q ∨ q = gx) w7 cb h7 w7 L' :=
  ⟨Kp.refl _ _, .inl (.inl rfl), fun m hm => .inl (.inr (.inr ⟨m, hm, rfl⟩)), hl, sv, r, fun _q hq => .inl (.inl (.inr (.inl hq)))⟩

theorem put9 (hX : CX (fun q => F q ∧ q < w.heap.size) w3 w4 cb h L') (r : RowIs w4 cb h sv L') (hsv : ∀ q, sv.ownBlock = some q → (F q ∧ q < w.heap.size) ∨ w3.heap.size ≤ q) (hM : MapIs w4 h.mb (Maps.size D) D) (hI : Idx D L') (hb3 : Below w.heap.size w w3)
    {T : List En} (hp : (L'.map Me.e).Perm T) (hok : Ok c) (hS : c.S.Perm (x.e :: T)) (hh7 : h7 = hdOf c h.mb)
    {cs : Array Value} (hx4 : Blk w4 x.g 74 cs) (hgx : w.heap.size ≤ x.g) (hkx : x.e.key ∉ T.map En.key) (hkk : x.e.key.size ≤ 200 ∧ x.e.val.length ≤ 1073741824 ∧ 0 ≤ x.e.cost ∧ x.e.cost ≤ 1000000) (hVx : Vl (fun q => w.heap.size ≤ q) w4 x.v x.e.val)
    (_r7 : RowIs w7 cb h7 sv L') (hk47 : Kp (fun q => q = cb ∨ q = x.g ∨ q = h.mb) w4 w7) (hM7 : MapIs w7 h.mb (Maps.size (D.put (kl x.e.key) (gD x.g))) (D.put (kl x.e.key) (gD x.g)))
    (hCM : CM (fun q => Fr cb sv L' q ∨ q = x.g) w7 cb h7 w8 L9) (hp9 : L9.Perm (L' ++ [x])) (hh9 : Heap ltM L9 L9.length) : Left F w cb c w8 := by
  obtain ⟨sv9, r9, hq9⟩ := hCM.body
  have hF : ∀ q, (F q ∧ q < w.heap.size) ∨ w3.heap.size ≤ q → F q ∨ w.heap.size ≤ q := fun q hq => hq.elim (fun h => .inl h.1) (fun h => .inr (Nat.le_trans hb3.size h))
  have hFr : ∀ q, Fr cb sv L' q → F q ∨ w.heap.size ≤ q := fun q hq => by
    rcases hq with e | e | ⟨m, hm, e⟩
    · exact .inl (e ▸ hX.fc.1)
    · exact hF q (hsv q e)
    · exact e ▸ hF _ (hX.fe m hm)
  have hk48 : Kp (fun q => Fr cb sv L' q ∨ q = x.g ∨ q = h.mb) w4 w8 :=
    (hk47.mono (S' := fun q => Fr cb sv L' q ∨ q = x.g ∨ q = h.mb) (fun q hq => hq.imp .inl id)).trans hCM.kp (fun q hq => .inl (hq.imp id .inl))
  have hval : ∀ q cs, Blk w4 q 5 cs → ¬ (Fr cb sv L' q ∨ q = x.g ∨ q = h.mb) := fun q cs hB => by
    rintro (e | e | e)
    · exact r.not_val hB e
    · subst e; exact Blk.ne_ hx4 hB (by decide) rfl
    · exact map_val_ne hB hM e
  have hmem : ∀ m ∈ L9, m ∈ L' ∨ m = x := fun m hm => by
    rcases List.mem_append.1 (hp9.mem_iff.1 hm) with h1 | h1
    · exact .inl h1
    · simp at h1; exact .inr h1
  have hkp : Kp F w w8 := by
    have k3 : Kp F w w3 := Kp.of_below hb3 F
    have k4 : Kp F w w4 := k3.trans hX.kp (fun q hq => .inl hq.1)
    refine k4.trans hk48 (fun q hq => ?_)
    rcases hq with e | e | e
    · exact hFr q e
    · exact .inr (e ▸ hgx)
    · exact .inl (e ▸ hX.fm.1)
  have hmb : ¬ (Fr cb sv L' h.mb ∨ h.mb = x.g) := fun hq => hq.elim (r.not_map hM) (fun e => blk_map_ne hx4 hM e.symm)
  have hkeyL : ∀ m ∈ L', m.e.key ≠ x.e.key := fun m hm e => hkx ((key_of hp).1 ⟨m, hm, e⟩)
  refine ⟨⟨hok, h.mb, L9, ⟨Kp.refl _ _, .inl hX.fc.1, .inl hX.fm.1, fun m hm => .inl ?_, hCM.len, hh9, ⟨sv9, _, hh7 ▸ r9, fun q hq => .inl ?_, map_kp hM7 hCM.kp hmb, ((hI.put (hM.tidy Try.law9) x hkeyL).perm hp9)⟩, fun m hm => ?_, ?_, fun m hm => ?_⟩, ?_⟩, hkp⟩
  · rcases hmem m hm with h1 | h1
    · exact hF _ (hX.fe m h1)
    · rw [h1]; exact .inr hgx
  · have hws : w.heap.size ≤ w7.heap.size := Nat.le_trans (Nat.le_trans hb3.size hX.kp.size) hk47.size
    rcases hq9 q hq with (e | e) | e
    · exact hFr q e
    · exact .inr (e ▸ hgx)
    · exact .inr (Nat.le_trans hws e)
  · rcases hmem m hm with h1 | h1
    · exact ((hX.vals m h1).kp hk48 (fun q cs _ hB => hval q cs hB)).mono (fun q hq _ => .inl (hF q hq))
    · rw [h1]; exact (hVx.kp hk48 (fun q cs _ hB => hval q cs hB)).mono (fun q hq _ => .inl (.inr hq))
  · have : (((L' ++ [x]).map fun m => m.e.key)).Nodup := by
      rw [List.map_append, List.nodup_append]
      refine ⟨hX.keys, by simp, fun a ha b hb e => ?_⟩
      obtain ⟨m, hm, rfl⟩ := List.mem_map.1 ha
      simp at hb
      exact hkeyL m hm (e.trans hb)
    exact (hp9.map fun m => m.e.key).nodup_iff.2 this
  · rcases hmem m hm with h1 | h1
    · exact hX.ok m h1
    · rw [h1]; exact hkk
  · refine (hp9.map Me.e).trans ?_
    rw [List.map_append]
    refine (List.perm_append_comm.trans ?_).trans hS.symm
    exact hp.cons x.e
end
end Go.Proofs.Ytogedbednfbkmaa
