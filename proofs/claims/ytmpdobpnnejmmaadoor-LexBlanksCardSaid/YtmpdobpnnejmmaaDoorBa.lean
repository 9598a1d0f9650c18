/- Bring, digits. Conditions: those that each theorem names. -/
import Derived.Test.YtmpdobpnnejmmaaDoorWa
import Derived.Test.YtmpdobpnnejmmaaDoorLg
namespace Go.Proofs.YtmpdobpnnejmmaaDoor
open Go.RowKit Go.Maps

set_option maxHeartbeats 1000000 in
set_option maxRecDepth 100000 in
theorem bring_c (w : World) (i n : Int) (h0 : 0 < n) (h1 : n ≤ 2147483648) : Calls Tryd.prog 24 #[.int .i64 i, .int .i64 n] w fun e w' => (∃ m : Nat, e = .returned (.int .i64 m) ∧ (m : Int) < n) ∧ w' = w := by
  go_enter Tryd.func24, Tryd.ntmps24
  have h2 := Int.tmod_lt_of_pos i h0
  have h3 := Int.lt_tmod_of_pos i h0
  go_wp2_with fail
  · go_ret
    exact ⟨⟨(i.tmod n + n).toNat, by rw [Int.toNat_of_nonneg (by omega)]; rfl, by omega⟩, rfl⟩
  · go_ret
    exact ⟨⟨(i.tmod n).toNat, by rw [Int.toNat_of_nonneg (by omega)]; rfl, by omega⟩, rfl⟩

/-- A number, brought into bounds. -/
def bring (i n : Int) : Nat := (if i.tmod n < 0 then i.tmod n + n else i.tmod n).toNat
theorem bring_lt (i n : Int) (h0 : 0 < n) : (bring i n : Int) < n := by
  have h2 := Int.tmod_lt_of_pos i h0
  have h3 := Int.lt_tmod_of_pos i h0
  unfold bring
  split <;> omega
set_option maxHeartbeats 1000000 in
set_option maxRecDepth 100000 in
theorem bring_v (w : World) (i n : Int) (h0 : 0 < n) (h1 : n ≤ 2147483648) : Calls Tryd.prog 24 #[.int .i64 i, .int .i64 n] w fun e w' => e = .returned (.int .i64 (bring i n)) ∧ w' = w := by
  have h2 := Int.tmod_lt_of_pos i h0
  have h3 := Int.lt_tmod_of_pos i h0
  by_cases hn : i.tmod n < 0
  · have e : ((bring i n : Nat) : Int) = i.tmod n + n := by unfold bring; rw [if_pos hn]; omega
    rw [e]
    clear e
    go_enter Tryd.func24, Tryd.ntmps24
    go_wp2_with fail
    go_ret
    exact ⟨rfl, rfl⟩
  · have e : ((bring i n : Nat) : Int) = i.tmod n := by unfold bring; rw [if_neg hn]; omega
    rw [e]
    clear e
    go_enter Tryd.func24, Tryd.ntmps24
    go_wp2_with fail
    go_ret
    exact ⟨rfl, rfl⟩
theorem st_append (a b : List UInt8) : st a ++ st b = st (a ++ b) := by
  apply bl_inj
  rw [bl_st]
  show (ByteArray.append _ _).data.toList = _
  simp [ByteArray.append, st]
theorem dig_cut : ∀ d, d < 10 → (⟨#[48, 49, 50, 51, 52, 53, 54, 55, 56, 57]⟩ : ByteArray).extract d (d + 1) = st [UInt8.ofNat (48 + d)] := by
  intro d hd
  have h : d = 0 ∨ d = 1 ∨ d = 2 ∨ d = 3 ∨ d = 4 ∨ d = 5 ∨ d = 6 ∨ d = 7 ∨ d = 8 ∨ d = 9 := by omega
  rcases h with rfl | rfl | rfl | rfl | rfl | rfl | rfl | rfl | rfl | rfl <;> rfl
theorem dec_small {n : Nat} (h : n < 10) : Lib.decDigits n = [UInt8.ofNat (48 + n)] := by unfold Lib.decDigits; rw [dif_pos h]
theorem dec_big {n : Nat} (h : ¬ n < 10) : Lib.decDigits n = Lib.decDigits (n / 10) ++ [UInt8.ofNat (48 + n % 10)] := by
  conv => lhs; unfold Lib.decDigits
  rw [dif_neg h]
theorem dec_len (n : Nat) : (Lib.decDigits n).length ≤ n + 1 := by
  induction n using Nat.strongRecOn with
  | _ n ih =>
    by_cases h : n < 10
    · rw [dec_small h]; simp
    · rw [dec_big h]
      have := ih (n / 10) (by omega)
      simp only [List.length_append, List.length_cons, List.length_nil]
      omega

set_option maxHeartbeats 1000000 in
set_option maxRecDepth 100000 in
theorem digits_c : ∀ (n : Nat) (w : World), n ≤ 2147483647 → Calls Tryd.prog 58 #[.int .i64 n] w fun e w' => e = .returned (.string (st (Lib.decDigits n))) ∧ ∃ m, w' = w.drewN m := by
  intro n
  induction n using Nat.strongRecOn with
  | _ n ih =>
    intro w hn
    by_cases hlt : n < 10
    · have b0 : (0 : Int) ≤ (n : Int) := by omega
      have b1 : (n : Int) < 10 := by omega
      go_enter Tryd.func58, Tryd.ntmps58
      go_wp2_with fail
      go_ret
      exact ⟨by rw [dec_small hlt, ← dig_cut n hlt]; rfl, 0, rfl⟩
    · have b1 : ¬ (n : Int) < 10 := by omega
      go_enter Tryd.func58, Tryd.ntmps58
      have HI := hid_ (fun W => ih (n / 10) (by omega) W (by omega))
      have t1 : (n : Int).tdiv 10 = ((n / 10 : Nat) : Int) := by rw [Int.tdiv_eq_ediv_of_nonneg (by omega)]; omega
      have t2 : (n : Int).tmod 10 = ((n % 10 : Nat) : Int) := by rw [Int.tmod_eq_emod_of_nonneg (by omega)]; omega
      have HE := hid_ (dec_big hlt)
      have HC := hid_ (dig_cut (n % 10) (by omega))
      have hl := dec_len (n / 10)
      generalize hD : st (Lib.decDigits (n / 10)) = D at *
      have hDs : D.size ≤ 300000000 := by rw [← hD, st_size]; omega
      have HD := hid_ hD
      clear hD ih hl
      obtain ⟨m, hm⟩ : ∃ m, m = n % 10 := ⟨_, rfl⟩
      rw [← hm] at t2 HC HE
      have hm10 : m < 10 := by omega
      have w1 : IntKind.i64.wrap ((m : Int) + 1) = (m : Int) + 1 := IntWalk.i64_in _ (by omega)
      have b2 : (0 : Int) ≤ (m : Int) := by omega
      have b3 : (m : Int) + 1 ≤ 10 := by omega
      have b4 : (m : Int) ≤ (m : Int) + 1 := by omega
      have t3 : ((m : Int) + 1).toNat = m + 1 := by omega
      clear hm
      go_wp2_with fail
      go_quiet (first | (go_at_call 58; go_loud (exact Calls.quiet_of (HI.out _))))
      go_wp2_with fail
      go_ret
      refine ⟨?_, _, rfl⟩
      rw [HE.out, ← st_append, HD.out, ← HC.out]
      rfl
end Go.Proofs.YtmpdobpnnejmmaaDoor
