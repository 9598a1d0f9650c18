/- The row's methods, called through an interface: which function is called, and with what. Conditions: those that each theorem names. -/
import Derived.Test.YtogedbednfbkmaaProg
import Derived.Test.YtogedbednfbkmaaA
namespace Go.Proofs.Ytogedbednfbkmaa
open Go.RowKit

theorem recv_row {w : World} {a : Addr} {sv : Value} (f : Nat) (name : String) (h : w.cell? a = some sv) : (do let x ← receiverAt 70 (.val (.pointer (some a))) false (some name); pure (f, x) : Sem (Nat × Value)).run Try.prog w = .ok (f, sv) w := by
  have e1 : (Sem.run Try.prog (Place.get 70 (Place.val (Value.pointer (some a)))) w) = .ok (.pointer (some a)) w := rfl
  have e2 : (Sem.run Try.prog (Builtin.ssaWrapNilChk_ #[70] 70 #[.pointer (some a), strVal "", strVal name]) w) = .ok (.pointer (some a)) w := rfl
  simp only [receiverAt]
  go_simp
theorem inv_len {w : World} {a : Addr} {sv : Value} (h : w.cell? a = some sv) : (method 238 70 (.pointer (some a)) "Len").run Try.prog w = .ok (90, sv) w := by
  have e : (method 238 70 (.pointer (some a)) "Len").run Try.prog w = (do let x ← receiverAt 70 (.val (.pointer (some a))) false (some "Len"); pure (90, x) : Sem (Nat × Value)).run Try.prog w := by kernel_rfl
  rw [e, recv_row 90 "Len" h]
theorem inv_less {w : World} {a : Addr} {sv : Value} (h : w.cell? a = some sv) : (method 238 70 (.pointer (some a)) "Less").run Try.prog w = .ok (91, sv) w := by
  have e : (method 238 70 (.pointer (some a)) "Less").run Try.prog w = (do let x ← receiverAt 70 (.val (.pointer (some a))) false (some "Less"); pure (91, x) : Sem (Nat × Value)).run Try.prog w := by kernel_rfl
  rw [e, recv_row 91 "Less" h]
theorem inv_swap {w : World} {a : Addr} {sv : Value} (h : w.cell? a = some sv) : (method 238 70 (.pointer (some a)) "Swap").run Try.prog w = .ok (92, sv) w := by
  have e : (method 238 70 (.pointer (some a)) "Swap").run Try.prog w = (do let x ← receiverAt 70 (.val (.pointer (some a))) false (some "Swap"); pure (92, x) : Sem (Nat × Value)).run Try.prog w := by kernel_rfl
  rw [e, recv_row 92 "Swap" h]
end Go.Proofs.Ytogedbednfbkmaa
