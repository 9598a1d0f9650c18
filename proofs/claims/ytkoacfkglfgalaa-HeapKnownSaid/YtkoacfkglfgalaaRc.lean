/- The reference heap: its functions ahead and Put. Conditions: those that each theorem names. -/
import Derived.Test.YtkoacfkglfgalaaRb
import Derived.Deep.RegionHeld3
import Derived.BigQuiet
namespace Go.Proofs.Ytkoacfkglfgalaa
open Go.RowKit Go.Maps

set_option maxHeartbeats 1000000 in
theorem rahead_c (a1 a2 b1 b2 : Int) (w : World) :
    Calls Try.prog 42 #[.agg #[.int .i64 a1, .int .i64 a2], .agg #[.int .i64 b1, .int .i64 b2]] w fun e w' => e = .returned (.bool (ltI (a1, a2) (b1, b2))) ∧ Below w.heap.size w w' := by
  have hcase : a2 < b2 ∨ (¬ a2 < b2 ∧ (a2 == b2) = false ∧ a2 ≠ b2) ∨ (¬ a2 < b2 ∧ (a2 == b2) = true ∧ a2 = b2) := by
    by_cases h1 : a2 < b2
    · exact .inl h1
    · by_cases h2 : a2 = b2
      · exact .inr (.inr ⟨h1, by simp [h2], h2⟩)
      · exact .inr (.inl ⟨h1, by simp [h2], h2⟩)
  rcases hcase with h1 | ⟨h1, h2, h3⟩ | ⟨h1, h2, h3⟩
  · have e : ltI (a1, a2) (b1, b2) = true := by simp [ltI, h1]
    rw [e]
    go_enter Try.func42, Try.ntmps42
    go_wp2
    go_ret
    exact ⟨rfl, ((Below.refl _ _).alloc (Nat.le_refl _) _).alloc (by simp) _⟩
  · have e : ltI (a1, a2) (b1, b2) = false := by simp [ltI]; omega
    rw [e]
    go_enter Try.func42, Try.ntmps42
    go_wp2
    go_ret
    exact ⟨rfl, ((Below.refl _ _).alloc (Nat.le_refl _) _).alloc (by simp) _⟩
  · subst h3
    by_cases h4 : a1 < b1
    · have e : ltI (a1, a2) (b1, a2) = true := by simp [ltI, h4]
      rw [e]
      go_enter Try.func42, Try.ntmps42
      go_wp2
      go_ret
      exact ⟨rfl, ((Below.refl _ _).alloc (Nat.le_refl _) _).alloc (by simp) _⟩
    · have e : ltI (a1, a2) (b1, a2) = false := by simp [ltI]; omega
      rw [e]
      go_enter Try.func42, Try.ntmps42
      go_wp2
      go_ret
      exact ⟨rfl, ((Below.refl _ _).alloc (Nat.le_refl _) _).alloc (by simp) _⟩

theorem ins_at {x : Item} : ∀ {T : List Item} {i : Nat}, i ≤ T.length → (∀ j, j < i → ltI (T.getD j (0, 0)) x = true) → (i < T.length → ltI (T.getD i (0, 0)) x = false) → ins x T = T.take i ++ x :: T.drop i
  | [], i, h, _, _ => by
    have : i = 0 := by simpa using h
    subst this; rfl
  | y :: T, 0, _, _, h3 => by
    have := h3 (by simp)
    show (if ltI y x = true then y :: ins x T else x :: y :: T) = _
    have e : ltI y x = false := this
    rw [e]; rfl
  | y :: T, i + 1, h1, h2, h3 => by
    have e : ltI y x = true := h2 0 (by omega)
    show (if ltI y x = true then y :: ins x T else x :: y :: T) = _
    rw [if_pos e, ins_at (i := i) (by simpa using h1) (fun j hj => h2 (j + 1) (by omega)) (fun h => h3 (by simpa using h))]
    rfl
end Go.Proofs.Ytkoacfkglfgalaa
