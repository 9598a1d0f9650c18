/- The laws' own helpers: Bring, key, value. Conditions: those that each theorem names. -/
import Derived.Test.YtogedbednfbkmaaO
namespace Go.Proofs.Ytogedbednfbkmaa
open Go.RowKit Go.Maps

theorem tmod_neg (i n : Int) (h0 : 0 < n) (hi : i < 0) : -n < i.tmod n ∧ i.tmod n ≤ 0 ∧ (i.tmod n < 0 → i.tmod n + n = i % n) ∧ (i.tmod n = 0 → i % n = 0) := by
  have e1 : (-i).tmod n = -(i.tmod n) := Int.neg_tmod i n
  have e2 : (-i).tmod n = (-i) % n := Int.tmod_eq_emod_of_nonneg (by omega)
  have b1 : 0 ≤ (-i) % n := Int.emod_nonneg _ (by omega)
  have b2 : (-i) % n < n := Int.emod_lt_of_pos _ h0
  have hd := Int.tmod_add_mul_tdiv i n
  generalize hq : i.tmod n = q at *
  generalize i.tdiv n = k at *
  have hm : i % n = q % n := by rw [← hd]; exact Int.add_mul_emod_self_left q n k
  refine ⟨by omega, by omega, fun hlt => ?_, fun h => by rw [hm, h]; simp⟩
  rw [hm]
  have : q % n = (q + n) % n := (Int.add_emod_right q n).symm
  rw [this, Int.emod_eq_of_lt (by omega) (by omega)]

set_option maxRecDepth 100000 in
theorem bring_c (i n : Int) (w : World) (h0 : 0 < n) (h1 : n ≤ 1000000) : Calls Try.prog 11 #[.int .i64 i, .int .i64 n] w fun e w' => e = .returned (.int .i64 (i % n)) ∧ w = w' := by
  by_cases hi : 0 ≤ i
  · have b3 : i % n < n := Int.emod_lt_of_pos i h0
    have b4 : ¬ i % n < 0 := by have := Int.emod_nonneg i (show n ≠ 0 by omega); omega
    go_enter Try.func11, Try.ntmps11
    go_wp2
    go_ret
    exact ⟨rfl, rfl⟩
  · obtain ⟨c1, c2, c3, c4⟩ := tmod_neg i n h0 (by omega)
    by_cases hq : i.tmod n < 0
    · have HQ := hid_ (c3 hq)
      have c5 : -1000000 < i.tmod n := by omega
      have c6 : IntKind.i64.wrap (i.tmod n + n) = i.tmod n + n := IntWalk.i64_in _ (by omega)
      have c7 : IntKind.i64.wrap (i.tmod n) = i.tmod n := IntWalk.i64_in _ (by omega)
      clear c3 c4
      go_enter Try.func11, Try.ntmps11
      go_wp2
      go_ret
      exact ⟨by rw [← HQ.out]; rfl, rfl⟩
    · have HQ := hid_ (c4 (by omega))
      have HZ := hid_ (show i.tmod n = 0 by omega)
      have c7 : IntKind.i64.wrap (i.tmod n) = i.tmod n := IntWalk.i64_in _ (by omega)
      clear c3 c4
      go_enter Try.func11, Try.ntmps11
      go_wp2
      go_ret
      exact ⟨by rw [HQ.out, ← HZ.out]; rfl, rfl⟩

def digitAt : Nat → UInt8
  | 0 => 48 | 1 => 49 | 2 => 50 | 3 => 51 | 4 => 52 | 5 => 53 | 6 => 54 | 7 => 55 | 8 => 56 | 9 => 57 | 10 => 97 | _ => 98
/-- The key of a number. -/
def keyB (j : Nat) : ByteArray := ⟨#[107, digitAt j]⟩
theorem keyB_size (j : Nat) : (keyB j).size = 2 := rfl
set_option maxHeartbeats 4000000 in
set_option maxRecDepth 100000 in
theorem key_c (n : Int) (w : World) : Calls Try.prog 12 #[.int .i64 n] w fun e w' => e = .returned (.string (keyB (n % 12).toNat)) ∧ w = w' := by
  have h0 : 0 ≤ n % 12 := Int.emod_nonneg _ (by omega)
  have h1 : n % 12 < 12 := Int.emod_lt_of_pos _ (by omega)
  have HB := hid_ (bring_c n 12 w (by omega) (by omega))
  obtain ⟨j, hj⟩ := Int.eq_ofNat_of_zero_le h0
  rw [hj] at HB h1 ⊢
  have hj12 : j < 12 := by omega
  clear h0 h1 hj
  go_enter Try.func12, Try.ntmps12
  go_wp2_with fail
  refine HB.out.mono ?_
  rintro e w1 ⟨rfl, rfl⟩
  go_wp2_with fail
  refine HB.out.mono ?_
  rintro e w1 ⟨rfl, rfl⟩
  have hc : j = 0 ∨ j = 1 ∨ j = 2 ∨ j = 3 ∨ j = 4 ∨ j = 5 ∨ j = 6 ∨ j = 7 ∨ j = 8 ∨ j = 9 ∨ j = 10 ∨ j = 11 := by omega
  clear HB hj12
  rcases hc with rfl | rfl | rfl | rfl | rfl | rfl | rfl | rfl | rfl | rfl | rfl | rfl
  all_goals
    go_wp2
    go_ret
    exact ⟨rfl, rfl⟩

/-- The bytes that tell the n-th call. -/
def valB (size : Nat) (n : Int) : List Int := (List.range size).map fun (i : Nat) => IntKind.u8.wrap (n + i)
theorem valB_len (size : Nat) (n : Int) : (valB size n).length = size := by simp [valB]
set_option maxHeartbeats 4000000 in
set_option maxRecDepth 100000 in
theorem value_c (size n : Int) (w : World) (h0 : 0 ≤ size) (h1 : size ≤ 100000) (h2 : 0 ≤ n ∧ n ≤ 1000000) : Calls Try.prog 15 #[.int .i64 size, .int .i64 n] w fun e w' => ∃ A c, e = .returned (.slice A size.toNat c) ∧ w'.ownsRow w.heap.size 5 1 (.slice A size.toNat c) size.toNat ((valB size.toNat n).map (.int .u8)) ∧ Below w.heap.size w w' := by
  obtain ⟨s, rfl⟩ := Int.eq_ofNat_of_zero_le h0
  rw [Int.toNat_natCast]
  obtain ⟨i0, hi0, hz0, hz1, hz2⟩ := info_parts Try.info5
  have hs : (s : Int) ≤ 100000 := h1
  go_enter Try.func15, Try.ntmps15
  go_wp2
  go_loopw [5, 6] (fun v5 v6 wr => ∃ (i : Nat) (A : Option Addr) (c : Nat), v6 = .int .i64 i ∧ v5 = .slice A i c ∧ i ≤ s ∧ wr.ownsRow w.heap.size 5 1 (.slice A i c) i ((valB i n).map (.int .u8)) ∧ Below w.heap.size w wr) (fun _ v _ => s - (intOf v).toNat)
  case atStart => exact ⟨0, none, 0, rfl, rfl, by omega, World.ownsRow_nil _ _ _ _, Below.refl _ _⟩
  case round =>
    obtain ⟨i, A, c, rfl, rfl, hi, hown, hb⟩ := hrel
    have HO := hid_ (And.intro hown hb)
    clear hown hb
    by_cases hlt : i < s
    · have b1 : (i : Int) < (s : Int) := by omega
      have q1 : IntKind.i64.wrap (n + (i : Int)) = n + (i : Int) := IntWalk.i64_in _ (by omega)
      have HM := hid_ (show i + 1 ≤ maxLen by unfold maxLen; omega)
      have HN := hid_ (show ∀ ad, some (⟨wr.heap.size, 0, none⟩ : Addr) = some ad → ∀ j u, [Value.int .u8 (IntKind.u8.wrap (n + i))][j]? = some u → (wr.alloc (.cells #[.int .u8 (IntKind.u8.wrap (n + i))] 5)).cell? (ad.add j) = some u from fun ad had j u hu => by
        injection had with had
        subst had
        match j, hu with
        | 0, hu =>
          injection hu with hu
          subst hu
          rw [add_at, World.cell?_alloc_at _ _ _ _ rfl]
          rfl)
      have hva : valB (i + 1) n = valB i n ++ [IntKind.u8.wrap (n + i)] := by unfold valB; rw [List.range_succ, List.map_append]; rfl
      have HVa := hid_ hva
      clear hva
      go_wp2_with (first | (at_builtin; refine wpList_append_any rfl (.tmp 12) (.tmp 17) 32 rfl w.heap.size 5 i0 _ 1 1 Try.underlying32 hi0 hz0 hz1 hz2 rfl (by omega) (.slice A i c) i ((valB i n).map (.int .u8)) rfl (World.ownsRow.alloc HO.out.1 _) (some ⟨wr.heap.size, 0, none⟩) 1 1 [.int .u8 (IntKind.u8.wrap (n + i))] rfl rfl (fun h => by cases h) HN.out (by simp [Value.oneCell']) HM.out (by omega) (by have := HO.out.2.size; simp; omega) ?_; intro A1 c1 w1 hown1 hgrow1 hat))
      have hb1 : Below w.heap.size w w1 := ((HO.out.2.alloc HO.out.2.size _)).grown hgrow1 (by have := HO.out.2.size; simp; omega) (fun q hq => own_base HO.out.1 hq)
      have HB1 := hid_ (And.intro hown1 hb1)
      clear hown1 hgrow1 hat hb1
      go_roundw
      case rel => exact ⟨i + 1, A1, c1, by go_num, rfl, by omega, by rw [HVa.out, List.map_append]; exact HB1.out.1, HB1.out.2⟩
      case measure => simp [intOf]; omega
    · have b1 : ¬ (i : Int) < (s : Int) := by omega
      have e : i = s := by omega
      subst e
      go_wp2
      go_ret
      exact ⟨A, c, rfl, HO.out.1, HO.out.2⟩
end Go.Proofs.Ytogedbednfbkmaa
