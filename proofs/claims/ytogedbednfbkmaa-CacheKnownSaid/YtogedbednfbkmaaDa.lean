/- CacheDear, plainly: what costs more is not thrown out ahead of what costs less. No program is named here. -/
import Derived.Test.YtogedbednfbkmaaS
namespace Go.Proofs.Ytogedbednfbkmaa

/-- What throwing out leaves is the end of what there was. -/
theorem evict_suffix (room n : Int) : ∀ (lv th : Int) (S : List En), ∃ P, S = P ++ (evict room n lv th S).2.2
  | lv, th, [] => ⟨[], rfl⟩
  | lv, th, x :: S => by
    unfold evict
    split
    · obtain ⟨P, e⟩ := evict_suffix room n x.worth (th + 1) S
      exact ⟨x :: P, by rw [List.cons_append, ← e]⟩
    · exact ⟨[], rfl⟩
def kX : ByteArray := ⟨#[107, 120]⟩
def kY : ByteArray := ⟨#[107, 121]⟩
/-- X is ahead of Y: where X is, Y is. -/
def Bef (X Y : En) (S : List En) : Prop := ltE X Y = true → X ∈ S → Y ∈ S
theorem suffix_bef {X Y : En} {P S : List En} (hs : SrtE (P ++ S)) (h : Bef X Y (P ++ S)) : Bef X Y S := by
  intro hlt hX
  rcases List.mem_append.1 (h hlt (List.mem_append.2 (.inr hX))) with hY | hY
  · have := (List.pairwise_append.1 hs).2.2 Y hY X hX
    have := ordE.tr _ _ _ hlt this
    rw [ordE.irr] at this; cases this
  · exact hY
/-- What holds of the two entries all the while. -/
structure Dear (X Y : En) (S : List En) : Prop where
  isX : ∀ e ∈ S, e.key = X.key → e = X
  isY : ∀ e ∈ S, e.key = Y.key → e = Y
  xy : Bef X Y S
  yx : Bef Y X S
theorem Dear.step {X Y : En} {S P T : List En} {k : ByteArray} {e : En} (h : Dear X Y S) (hs : SrtE S) (hk : outE k S = P ++ T) (hX : k ≠ X.key) (hY : k ≠ Y.key) (he : e.key = k) : Dear X Y (insE e T) := by
  have hsT : SrtE (P ++ T) := hk ▸ outE_srt hs
  have hmem : ∀ y, y ∈ insE e T → y = e ∨ y ∈ S := fun y hy => by
    rcases List.mem_cons.1 ((insE_perm e T).mem_iff.1 hy) with h1 | h1
    · exact .inl h1
    · have : y ∈ outE k S := by rw [hk]; exact List.mem_append.2 (.inr h1)
      exact .inr (mem_outE.1 this).1
  have bef : ∀ {A B : En}, Bef A B S → A.key ≠ k → B.key ≠ k → Bef A B (insE e T) := by
    intro A B hb ha hbk
    have h1 : Bef A B (P ++ T) := by
      rw [← hk]
      intro hlt hA
      exact mem_outE.2 ⟨hb hlt (mem_outE.1 hA).1, hbk⟩
    have h2 := suffix_bef hsT h1
    intro hlt hA
    rcases List.mem_cons.1 ((insE_perm e T).mem_iff.1 hA) with h3 | h3
    · exact absurd (h3 ▸ he) ha
    · exact (insE_perm e T).mem_iff.2 (List.mem_cons.2 (.inr (h2 hlt h3)))
  refine ⟨fun y hy hyk => ?_, fun y hy hyk => ?_, bef h.xy (Ne.symm hX) (Ne.symm hY), bef h.yx (Ne.symm hY) (Ne.symm hX)⟩
  · rcases hmem y hy with h1 | h1
    · exact absurd (by rw [← hyk, h1, he]) hX
    · exact h.isX y h1 hyk
  · rcases hmem y hy with h1 | h1
    · exact absurd (by rw [← hyk, h1, he]) hY
    · exact h.isY y h1 hyk
theorem Dear.has {X Y : En} {S : List En} (h : Dear X Y S) (hlt : ltE X Y = true) (hx : hasE X.key S = true) : hasE Y.key S = true := by
  obtain ⟨e, he, hk⟩ := List.mem_map.1 (hasE_iff.1 hx)
  have := h.isX e he hk
  subst this
  exact hasE_iff.2 (List.mem_map.2 ⟨Y, h.xy hlt he, rfl⟩)
theorem Dear.swap {X Y : En} {S : List En} (h : Dear X Y S) : Dear Y X S := ⟨h.isY, h.isX, h.yx, h.xy⟩
/-- A put of another key, that is let in. -/
theorem Dear.put {X Y : En} {c : Cs} {k : ByteArray} {v : List Int} {cost : Int} (h : Dear X Y c.S) (ho : Ok c) (hX : k ≠ X.key) (hY : k ≠ Y.key) (hb : badE k cost = false) (hr : ¬ (k.size + v.length : Int) > c.room) :
    (putC c k v cost).1 = 0 ∧ Dear X Y (putC c k v cost).2.S ∧ (putC c k v cost).2.uses = c.uses + 1 ∧ (putC c k v cost).2.room = c.room ∧ (putC c k v cost).2.missed = c.missed := by
  unfold putC
  rw [if_neg (by rw [hb]; simp), if_neg hr]
  obtain ⟨P, e⟩ := evict_suffix c.room (k.size + v.length) c.level c.thrown (outE k c.S)
  exact ⟨rfl, h.step ho.gd.srt e hX hY rfl, rfl, rfl, rfl⟩
/-- The two, just put. -/
theorem dear_start (a b : Int) (vx vy : List Int) (hx : vx.length = 8) (hy : vy.length = 8) (ha : 0 ≤ a ∧ a < 1000) (hb : 0 ≤ b ∧ b < 1000) :
    (putC ⟨40, 0, 0, 0, 0, 0, []⟩ kX vx a) = (0, ⟨40, 0, 1, 0, 0, 0, [⟨kX, vx, a, 0 + a, 0 + 1⟩]⟩) ∧
    (putC ⟨40, 0, 1, 0, 0, 0, [⟨kX, vx, a, 0 + a, 0 + 1⟩]⟩ kY vy b) = (0, ⟨40, 0, 2, 0, 0, 0, insE ⟨kY, vy, b, 0 + b, 1 + 1⟩ [⟨kX, vx, a, 0 + a, 0 + 1⟩]⟩) ∧
    Dear ⟨kX, vx, a, 0 + a, 0 + 1⟩ ⟨kY, vy, b, 0 + b, 1 + 1⟩ (insE ⟨kY, vy, b, 0 + b, 1 + 1⟩ [⟨kX, vx, a, 0 + a, 0 + 1⟩]) := by
  have b1 : badE kX a = false := decide_eq_false (by show ¬ ((2 : Nat) = 0 ∨ 200 < 2 ∨ a < 0 ∨ 1000000 < a); omega)
  have b2 : badE kY b = false := decide_eq_false (by show ¬ ((2 : Nat) = 0 ∨ 200 < 2 ∨ b < 0 ∨ 1000000 < b); omega)
  refine ⟨?_, ?_, ?_⟩
  · unfold putC
    rw [if_neg (by rw [b1]; simp), if_neg (by show ¬ (((2 : Nat) : Int) + vx.length > 40); omega)]
    rfl
  · unfold putC
    rw [if_neg (by rw [b2]; simp), if_neg (by show ¬ (((2 : Nat) : Int) + vy.length > 40); omega)]
    have e1 : outE kY [(⟨kX, vx, a, 0 + a, 0 + 1⟩ : En)] = [⟨kX, vx, a, 0 + a, 0 + 1⟩] := rfl
    have e2 : ∀ lv th, evict 40 ((kY.size : Int) + vy.length) lv th [(⟨kX, vx, a, 0 + a, 0 + 1⟩ : En)] = (lv, th, [⟨kX, vx, a, 0 + a, 0 + 1⟩]) := fun lv th => by
      unfold evict
      rw [if_neg]
      show ¬ (((2 + vx.length + 0 : Nat) : Int) + (((2 : Nat) : Int) + vy.length) > 40)
      omega
    show (0, useE { (⟨40, 0, 1, 0, 0, 0, [⟨kX, vx, a, 0 + a, 0 + 1⟩]⟩ : Cs) with level := (evict 40 ((kY.size : Int) + vy.length) 0 0 (outE kY [(⟨kX, vx, a, 0 + a, 0 + 1⟩ : En)])).1, thrown := (evict 40 ((kY.size : Int) + vy.length) 0 0 (outE kY [(⟨kX, vx, a, 0 + a, 0 + 1⟩ : En)])).2.1 } ⟨kY, vy, b, 0, 0⟩ (evict 40 ((kY.size : Int) + vy.length) 0 0 (outE kY [(⟨kX, vx, a, 0 + a, 0 + 1⟩ : En)])).2.2) = _
    rw [e1, e2]
    rfl
  · have hm : ∀ e, e ∈ insE (⟨kY, vy, b, 0 + b, 1 + 1⟩ : En) [⟨kX, vx, a, 0 + a, 0 + 1⟩] ↔ e = ⟨kY, vy, b, 0 + b, 1 + 1⟩ ∨ e = ⟨kX, vx, a, 0 + a, 0 + 1⟩ := fun e => by
      rw [(insE_perm _ _).mem_iff]; simp
    have hne : kX ≠ kY := by decide
    refine ⟨fun e he hk => ?_, fun e he hk => ?_, fun _ _ => (hm _).2 (.inl rfl), fun _ _ => (hm _).2 (.inr rfl)⟩
    · rcases (hm e).1 he with rfl | rfl
      · exact absurd hk (Ne.symm hne)
      · rfl
    · rcases (hm e).1 he with rfl | rfl
      · rfl
      · exact absurd hk hne
end Go.Proofs.Ytogedbednfbkmaa
