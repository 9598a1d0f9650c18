/- The reference heap's Put, whatever is put; on a heap beside it. Conditions: those that each theorem names. -/
import Derived.Test.YtkoacfkglfgalaaRd
import Derived.Test.YtkoacfkglfgalaaRe
import Derived.Test.YtkoacfkglfgalaaRf
namespace Go.Proofs.Ytkoacfkglfgalaa
open Go.RowKit Go.Maps

section
variable {G : Nat → Prop} {w w' : World} {mb : Nat} {S : List Item}
theorem rput_bad (id r : Int) (hok : ¬ (0 ≤ id ∧ id ≤ 9999 ∧ 0 ≤ r ∧ r ≤ 9007199254740991)) :
    Calls Try.prog 22 #[.pointer (some ⟨mb, 0, none⟩), .int .i64 id, .int .i64 r] w fun e w' => e = .returned (.int .i64 9) ∧ w = w' := by
  have hc : id < 0 ∨ (¬ id < 0 ∧ 9999 < id) ∨ (¬ id < 0 ∧ ¬ 9999 < id ∧ r < 0) ∨ (¬ id < 0 ∧ ¬ 9999 < id ∧ ¬ r < 0 ∧ 9007199254740991 < r) := by omega
  rcases hc with h1 | ⟨h1, h2⟩ | ⟨h1, h2, h3⟩ | ⟨h1, h2, h3, h4⟩
  all_goals
    clear hok
    go_enter Try.func22, Try.ntmps22
    go_wp2
    go_ret
    exact ⟨rfl, rfl⟩
theorem rput_any (h : Rf G w mb S) (hs : Srt S) (hg : Good S) (id r : Int) (hS : S.length ≤ 900) :
    Calls Try.prog 22 #[.pointer (some ⟨mb, 0, none⟩), .int .i64 id, .int .i64 r] w fun e w' => e = .returned (.int .i64 (putE id r)) ∧ RfLeft G w mb (putR id r S) w' := by
  by_cases hok : 0 ≤ id ∧ id ≤ 9999 ∧ 0 ≤ r ∧ r ≤ 9007199254740991
  · have e : okP id r = true := decide_eq_true hok
    exact (rput_ok h hs hg id r hok hS).mono fun e' w' ⟨h1, h2⟩ => ⟨by rw [h1]; simp [putE, e], by simpa [putR, e] using h2⟩
  · have e : okP id r = false := decide_eq_false hok
    exact (rput_bad id r hok).mono fun e' w' ⟨h1, h2⟩ => ⟨by rw [h1]; simp [putE, e], by
      subst h2
      have : putR id r S = S := by simp [putR, e]
      rw [this]
      exact ⟨h.mono fun q hq => .inl hq, Kp.refl _ _⟩⟩
end
end Go.Proofs.Ytkoacfkglfgalaa
