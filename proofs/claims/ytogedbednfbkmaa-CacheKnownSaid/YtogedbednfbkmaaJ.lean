/- container/heap over this seat's row: up, down. Conditions: what its methods do, as the premises say. -/
import Derived.Test.YtogedbednfbkmaaB
import Derived.Test.YtogedbednfbkmaaI
namespace Go.Proofs.Ytogedbednfbkmaa
open Go.RowKit

section
variable {α : Type} [Inhabited α] {lt : α → α → Bool} {M : World → List α → Prop} {a : Addr}
/-- Where the row stands over M. -/
def HeadM (M : World → List α → Prop) (a : Addr) : Prop := ∀ (w : World) (L : List α), M w L → ∃ A c, w.cell? a = some (.slice A L.length c)
/-- What Less does over M. -/
def LessM (lt : α → α → Bool) (M : World → List α → Prop) (a : Addr) : Prop := ∀ (w : World) (L : List α) (i k : Int) (sv : Value), M w L → w.cell? a = some sv → 0 ≤ i → i < L.length → 0 ≤ k → k < L.length →
  Calls Try.prog 91 #[sv, .int .i64 i, .int .i64 k] w fun e w' => e = .returned (.bool (lt (at_ L i.toNat) (at_ L k.toNat))) ∧ M w' L
/-- What Swap does over M. -/
def SwapM (M : World → List α → Prop) (a : Addr) : Prop := ∀ (w : World) (L : List α) (i k : Int) (sv : Value), M w L → w.cell? a = some sv → 0 ≤ i → i < L.length → 0 ≤ k → k < L.length → i ≠ k →
  Calls Try.prog 92 #[sv, .int .i64 i, .int .i64 k] w fun e w' => e = .returned (.tuple #[]) ∧ M w' (sw L i.toNat k.toNat)

set_option maxHeartbeats 1000000 in
set_option maxRecDepth 100000 in
theorem up_c (O : Ord lt) (hD : HeadM M a) (hL : LessM lt M a) (hS : SwapM M a) (w : World) (L : List α) (n j : Nat) (h : M w L) (hn : n ≤ L.length) (hb : L.length ≤ 100000) (hj : j < n) (hU : UpI lt L n j) :
    Calls Try.prog 50 #[.iface 70 (.pointer (some a)), .int .i64 j] w fun e w' => e = .returned (.tuple #[]) ∧ ∃ L', M w' L' ∧ L'.Perm L ∧ Heap lt L' n ∧ (∀ k, n ≤ k → at_ L' k = at_ L k) := by
  have HD := hid_ hD
  have HL := hid_ hL
  have HS := hid_ hS
  have HO := hid_ O
  clear hD hL hS O
  go_enter Try.func50, Try.ntmps50
  go_wp2
  go_loopw [1] (fun v wr => ∃ (L' : List α) (m : Nat), v = .int .i64 m ∧ M wr L' ∧ L'.Perm L ∧ UpI lt L' n m ∧ m < n ∧ (∀ k, n ≤ k → at_ L' k = at_ L k)) (fun v _ => (intOf v).toNat)
  case atStart => exact ⟨L, j, rfl, h, List.Perm.refl _, hU, hj, fun _ _ => rfl⟩
  case round =>
    obtain ⟨L', m, rfl, hM, hp, hUm, hm, hrest⟩ := hrel
    have hlen := hp.length_eq
    have HR := hid_ (And.intro hp (And.intro hUm hrest))
    have HLen := hid_ hlen
    clear hp hUm hrest hlen
    cases m with
    | zero =>
      go_wp2
      go_returns
      obtain ⟨hp, hUm, hr⟩ := HR.out
      exact ⟨rfl, L', hM, hp, upI_stop HO.out hUm (.inl rfl), hr⟩
    | succ m =>
      have e1 : ((m : Int) / 2 == (m : Int) + 1) = false := by rw [beq_eq_false_iff_ne]; omega
      have e2 : (((m / 2 : Nat) : Int) == (m : Int) + 1) = false := by rw [beq_eq_false_iff_ne]; omega
      have hl := HLen.out
      have t1 : ((m : Int) + 1).toNat = m + 1 := by omega
      have t2 : ((m : Int) / 2).toNat = m / 2 := by omega
      have T1 := hid_ t1
      have T2 := hid_ t2
      clear t1 t2
      cases hlt : lt (at_ L' (m + 1)) (at_ L' (m / 2)) with
      | false =>
        have HLt := hid_ hlt
        clear hlt hl
        obtain ⟨A0, c0, hc0⟩ := HD.out wr L' hM
        have im0 := inv_less hc0
        go_wp2_with fail
        refine (HL.out wr L' _ _ _ hM hc0 (by omega) (by have := HLen.out; omega) (by omega) (by have := HLen.out; omega)).mono ?_
        rintro e w1 ⟨rfl, hM1⟩
        rw [T1.out, T2.out, HLt.out]
        go_wp2
        go_returns
        obtain ⟨hp, hUm, hr⟩ := HR.out
        exact ⟨rfl, L', hM1, hp, upI_stop HO.out hUm (.inr (by rw [show (m + 1 - 1) / 2 = m / 2 by omega]; exact HLt.out)), hr⟩
      | true =>
        have HLt := hid_ hlt
        clear hlt hl
        obtain ⟨A0, c0, hc0⟩ := HD.out wr L' hM
        have im0 := inv_less hc0
        go_wp2_with fail
        refine (HL.out wr L' _ _ _ hM hc0 (by omega) (by have := HLen.out; omega) (by omega) (by have := HLen.out; omega)).mono ?_
        rintro e w1 ⟨rfl, hM1⟩
        rw [T1.out, T2.out, HLt.out]
        clear hc0 im0
        obtain ⟨A1, c1, hc1⟩ := HD.out w1 L' hM1
        have im1 := inv_swap hc1
        go_wp2_with fail
        refine (HS.out w1 L' _ _ _ hM1 hc1 (by omega) (by have := HLen.out; omega) (by omega) (by have := HLen.out; omega) (by omega)).mono ?_
        rintro e w2 ⟨rfl, hM2⟩
        rw [T1.out, T2.out] at hM2
        go_wp2
        go_roundw
        case rel =>
          obtain ⟨hp, hUm, hr⟩ := HR.out
          have hlen := HLen.out
          have e3 : (m + 1 - 1) / 2 = m / 2 := by omega
          have hst := upI_step HO.out hUm (by omega) hm (by omega) (by rw [e3]; exact HLt.out)
          rw [e3] at hst
          refine ⟨sw L' (m / 2) (m + 1), m / 2, by go_num, hM2, (sw_perm L' _ _ (by omega) (by omega)).trans hp, hst, by omega, fun k hk => ?_⟩
          rw [at_sw L' _ _ _ (by omega) (by omega), if_neg (by omega), if_neg (by omega)]
          exact hr k hk
        case measure => simp [intOf]; omega
end
end Go.Proofs.Ytogedbednfbkmaa
