/- container/heap over this seat's row: down. Conditions: what its methods do, as the premises say. -/
import Derived.Test.YtogedbednfbkmaaJ
namespace Go.Proofs.Ytogedbednfbkmaa
open Go.RowKit

section
variable {α : Type} [Inhabited α] {lt : α → α → Bool} {M : World → List α → Prop} {a : Addr}

/-- What down comes to. -/
def DownP (lt : α → α → Bool) (M : World → List α → Prop) (L : List α) (n i0 : Nat) (e : Ending) (w' : World) : Prop :=
  ∃ (b : Bool) (L' : List α), e = .returned (.bool b) ∧ M w' L' ∧ L'.Perm L ∧ (b = true → Heap lt L' n) ∧ (b = false → UpI lt L' n i0) ∧ (∀ k, n ≤ k → at_ L' k = at_ L k)
/-- What holds at the head of a round. -/
def DownR (lt : α → α → Bool) (M : World → List α → Prop) (L : List α) (n i0 : Nat) (v : Value) (w' : World) : Prop :=
  ∃ (L' : List α) (i : Nat), v = .int .i64 i ∧ M w' L' ∧ L'.Perm L ∧ DownI lt L' n i0 i ∧ i0 ≤ i ∧ i ≤ 100000 ∧ (∀ k, n ≤ k → at_ L' k = at_ L k)

theorem down_stops {L L' : List α} {n i0 i : Nat} {w : World} (hM : M w L') (hp : L'.Perm L) (hD : DownI lt L' n i0 i) (hi : i0 ≤ i) (hr : ∀ k, n ≤ k → at_ L' k = at_ L k)
    (hc : ∀ c, 0 < c → c < n → (c - 1) / 2 = i → Le lt (at_ L' i) (at_ L' c)) : DownP lt M L n i0 (.returned (.bool (decide (i0 < i)))) w := by
  obtain ⟨h1, h2⟩ := downI_stop hD hc
  refine ⟨_, L', rfl, hM, hp, fun h => h1 ?_, fun h => h2 ?_, hr⟩
  · have := of_decide_eq_true h; omega
  · have := of_decide_eq_false h; omega

theorem kids {n i : Nat} {P : Nat → Prop} (h1 : 2 * i + 1 < n → P (2 * i + 1)) (h2 : 2 * i + 2 < n → P (2 * i + 2)) : ∀ c, 0 < c → c < n → (c - 1) / 2 = i → P c := by
  intro c h0 hc hp
  have : c = 2 * i + 1 ∨ c = 2 * i + 2 := by omega
  rcases this with rfl | rfl
  · exact h1 hc
  · exact h2 hc

theorem down_steps (O : Ord lt) {L L' : List α} {n i0 i j : Nat} {w : World} (hM : M w (sw L' i j)) (hp : L'.Perm L) (hD : DownI lt L' n i0 i) (hi : i0 ≤ i) (hn : n ≤ L.length) (hb : L.length ≤ 100000) (hr : ∀ k, n ≤ k → at_ L' k = at_ L k)
    (hj : j < n) (hpj : (j - 1) / 2 = i) (h0 : 0 < j) (hl : lt (at_ L' j) (at_ L' i) = true) (hmin : ∀ c, 0 < c → c < n → (c - 1) / 2 = i → Le lt (at_ L' j) (at_ L' c)) {v : Value} (hv : v = .int .i64 j) : DownR lt M L n i0 v w := by
  have hlen := hp.length_eq
  have hs := downI_step O hD (by omega) hi hj hpj h0 hl hmin
  refine ⟨sw L' i j, j, hv, hM, (sw_perm L' _ _ (by omega) (by omega)).trans hp, hs, by omega, by omega, fun k hk => ?_⟩
  rw [at_sw L' _ _ _ (by omega) (by omega), if_neg (by omega), if_neg (by omega)]
  exact hr k hk

set_option maxHeartbeats 4000000 in
set_option maxRecDepth 100000 in
theorem down_c (O : Ord lt) (hHd : HeadM M a) (hL : LessM lt M a) (hS : SwapM M a) (w : World) (L : List α) (n i0 : Nat) (h : M w L) (hn : n ≤ L.length) (hb : L.length ≤ 100000) (hi0 : i0 ≤ 100000) (hB : Bad lt L n i0) :
    Calls Try.prog 49 #[.iface 70 (.pointer (some a)), .int .i64 i0, .int .i64 n] w (DownP lt M L n i0) := by
  have HHd := hid_ hHd
  have HL := hid_ hL
  have HS := hid_ hS
  have HO := hid_ O
  have HB := hid_ hB
  clear hHd hL hS O hB
  go_enter Try.func49, Try.ntmps49
  go_wp2
  go_loopw [7] (DownR lt M L n i0) (fun v _ => n - (intOf v).toNat)
  case atStart => exact ⟨L, i0, rfl, h, List.Perm.refl _, downI_start HB.out, Nat.le_refl _, hi0, fun _ _ => rfl⟩
  case round =>
    obtain ⟨L', i, rfl, hM, hp, hD, hi, hib, hr⟩ := hrel
    have hlen := hp.length_eq
    have HR := hid_ (And.intro hp (And.intro hD hr))
    have HLen := hid_ hlen
    clear hp hD hr hlen
    have k0 : ¬ (2 * (i : Int) + 1 < 0) := by omega
    have t1 := hid_ (show (2 * (i : Int) + 1).toNat = 2 * i + 1 by omega)
    have t2 := hid_ (show (2 * (i : Int) + 1 + 1).toNat = 2 * i + 2 by omega)
    have t3 := hid_ (show (i : Int).toNat = i by omega)
    by_cases hA : n ≤ 2 * i + 1
    · have hA' : (n : Int) ≤ 2 * (i : Int) + 1 := by omega
      go_wp2
      go_ret
      obtain ⟨hp, hD, hr⟩ := HR.out
      exact down_stops hM hp hD hi hr (kids (fun x => by omega) (fun x => by omega))
    · have hA' : ¬ ((n : Int) ≤ 2 * (i : Int) + 1) := by omega
      by_cases hC : 2 * i + 2 < n
      · have hC' : 2 * (i : Int) + 1 + 1 < (n : Int) := by omega
        cases hlt : lt (at_ L' (2 * i + 2)) (at_ L' (2 * i + 1)) with
        | false =>
          cases hlu : lt (at_ L' (2 * i + 1)) (at_ L' i) with
          | false =>
            have HLt := hid_ hlt
            have HLu := hid_ hlu
            clear hlt hlu
            obtain ⟨A1, c1, hc1⟩ := HHd.out wr L' hM
            have im1 := inv_less hc1
            go_wp2_with fail
            refine (HL.out wr L' _ _ _ hM hc1 (by omega) (by have := HLen.out; omega) (by omega) (by have := HLen.out; omega)).mono ?_
            rintro e w1 ⟨rfl, hM1⟩
            clear hc1 im1
            rw [t1.out, t2.out, HLt.out]
            obtain ⟨A2, c2, hc2⟩ := HHd.out w1 L' hM1
            have im2 := inv_less hc2
            go_wp2_with fail
            refine (HL.out w1 L' _ _ _ hM1 hc2 (by omega) (by have := HLen.out; omega) (by omega) (by have := HLen.out; omega)).mono ?_
            rintro e w2 ⟨rfl, hM2⟩
            clear hc2 im2
            rw [t1.out, t3.out, HLu.out]
            go_wp2
            go_ret
            obtain ⟨hp, hD, hr⟩ := HR.out
            exact down_stops hM2 hp hD hi hr (kids (fun _ => HLu.out) (fun _ => Le.trans HO.out HLu.out HLt.out))
          | true =>
            have HLt := hid_ hlt
            have HLu := hid_ hlu
            clear hlt hlu
            obtain ⟨A3, c3, hc3⟩ := HHd.out wr L' hM
            have im3 := inv_less hc3
            go_wp2_with fail
            refine (HL.out wr L' _ _ _ hM hc3 (by omega) (by have := HLen.out; omega) (by omega) (by have := HLen.out; omega)).mono ?_
            rintro e w1 ⟨rfl, hM1⟩
            clear hc3 im3
            rw [t1.out, t2.out, HLt.out]
            obtain ⟨A4, c4, hc4⟩ := HHd.out w1 L' hM1
            have im4 := inv_less hc4
            go_wp2_with fail
            refine (HL.out w1 L' _ _ _ hM1 hc4 (by omega) (by have := HLen.out; omega) (by omega) (by have := HLen.out; omega)).mono ?_
            rintro e w2 ⟨rfl, hM2⟩
            clear hc4 im4
            rw [t1.out, t3.out, HLu.out]
            obtain ⟨A5, c5, hc5⟩ := HHd.out w2 L' hM2
            have im5 := inv_swap hc5
            go_wp2_with fail
            refine (HS.out w2 L' _ _ _ hM2 hc5 (by omega) (by have := HLen.out; omega) (by omega) (by have := HLen.out; omega) (by omega)).mono ?_
            rintro e w3 ⟨rfl, hM3⟩
            clear hc5 im5
            rw [t1.out, t3.out] at hM3
            go_wp2
            go_roundw
            case rel =>
              obtain ⟨hp, hD, hr⟩ := HR.out
              exact down_steps HO.out (j := 2 * i + 1) hM3 hp hD hi hn hb hr (by omega) (by omega) (by omega) HLu.out (kids (fun _ => Le.refl HO.out _) (fun _ => HLt.out)) (by go_num)
            case measure => simp [intOf]; omega
        | true =>
          cases hlu : lt (at_ L' (2 * i + 2)) (at_ L' i) with
          | false =>
            have HLt := hid_ hlt
            have HLu := hid_ hlu
            clear hlt hlu
            obtain ⟨A6, c6, hc6⟩ := HHd.out wr L' hM
            have im6 := inv_less hc6
            go_wp2_with fail
            refine (HL.out wr L' _ _ _ hM hc6 (by omega) (by have := HLen.out; omega) (by omega) (by have := HLen.out; omega)).mono ?_
            rintro e w1 ⟨rfl, hM1⟩
            clear hc6 im6
            rw [t1.out, t2.out, HLt.out]
            obtain ⟨A7, c7, hc7⟩ := HHd.out w1 L' hM1
            have im7 := inv_less hc7
            go_wp2_with fail
            refine (HL.out w1 L' _ _ _ hM1 hc7 (by omega) (by have := HLen.out; omega) (by omega) (by have := HLen.out; omega)).mono ?_
            rintro e w2 ⟨rfl, hM2⟩
            clear hc7 im7
            rw [t2.out, t3.out, HLu.out]
            go_wp2
            go_ret
            obtain ⟨hp, hD, hr⟩ := HR.out
            exact down_stops hM2 hp hD hi hr (kids (fun _ => Le.trans HO.out HLu.out (Le.of_lt HO.out HLt.out)) (fun _ => HLu.out))
          | true =>
            have HLt := hid_ hlt
            have HLu := hid_ hlu
            clear hlt hlu
            obtain ⟨A8, c8, hc8⟩ := HHd.out wr L' hM
            have im8 := inv_less hc8
            go_wp2_with fail
            refine (HL.out wr L' _ _ _ hM hc8 (by omega) (by have := HLen.out; omega) (by omega) (by have := HLen.out; omega)).mono ?_
            rintro e w1 ⟨rfl, hM1⟩
            clear hc8 im8
            rw [t1.out, t2.out, HLt.out]
            obtain ⟨A9, c9, hc9⟩ := HHd.out w1 L' hM1
            have im9 := inv_less hc9
            go_wp2_with fail
            refine (HL.out w1 L' _ _ _ hM1 hc9 (by omega) (by have := HLen.out; omega) (by omega) (by have := HLen.out; omega)).mono ?_
            rintro e w2 ⟨rfl, hM2⟩
            clear hc9 im9
            rw [t2.out, t3.out, HLu.out]
            obtain ⟨A10, c10, hc10⟩ := HHd.out w2 L' hM2
            have im10 := inv_swap hc10
            go_wp2_with fail
            refine (HS.out w2 L' _ _ _ hM2 hc10 (by omega) (by have := HLen.out; omega) (by omega) (by have := HLen.out; omega) (by omega)).mono ?_
            rintro e w3 ⟨rfl, hM3⟩
            clear hc10 im10
            rw [t2.out, t3.out] at hM3
            go_wp2
            go_roundw
            case rel =>
              obtain ⟨hp, hD, hr⟩ := HR.out
              exact down_steps HO.out (j := 2 * i + 2) hM3 hp hD hi hn hb hr (by omega) (by omega) (by omega) HLu.out (kids (fun _ => Le.of_lt HO.out HLt.out) (fun _ => Le.refl HO.out _)) (by go_num)
            case measure => simp [intOf]; omega
      · have hC' : ¬ (2 * (i : Int) + 1 + 1 < (n : Int)) := by omega
        cases hlu : lt (at_ L' (2 * i + 1)) (at_ L' i) with
        | false =>
          have HLu := hid_ hlu
          clear hlu
          obtain ⟨A11, c11, hc11⟩ := HHd.out wr L' hM
          have im11 := inv_less hc11
          go_wp2_with fail
          refine (HL.out wr L' _ _ _ hM hc11 (by omega) (by have := HLen.out; omega) (by omega) (by have := HLen.out; omega)).mono ?_
          rintro e w2 ⟨rfl, hM2⟩
          clear hc11 im11
          rw [t1.out, t3.out, HLu.out]
          go_wp2
          go_ret
          obtain ⟨hp, hD, hr⟩ := HR.out
          exact down_stops hM2 hp hD hi hr (kids (fun _ => HLu.out) (fun x => absurd x hC))
        | true =>
          have HLu := hid_ hlu
          clear hlu
          obtain ⟨A12, c12, hc12⟩ := HHd.out wr L' hM
          have im12 := inv_less hc12
          go_wp2_with fail
          refine (HL.out wr L' _ _ _ hM hc12 (by omega) (by have := HLen.out; omega) (by omega) (by have := HLen.out; omega)).mono ?_
          rintro e w2 ⟨rfl, hM2⟩
          clear hc12 im12
          rw [t1.out, t3.out, HLu.out]
          obtain ⟨A13, c13, hc13⟩ := HHd.out w2 L' hM2
          have im13 := inv_swap hc13
          go_wp2_with fail
          refine (HS.out w2 L' _ _ _ hM2 hc13 (by omega) (by have := HLen.out; omega) (by omega) (by have := HLen.out; omega) (by omega)).mono ?_
          rintro e w3 ⟨rfl, hM3⟩
          clear hc13 im13
          rw [t1.out, t3.out] at hM3
          go_wp2
          go_roundw
          case rel =>
            obtain ⟨hp, hD, hr⟩ := HR.out
            exact down_steps HO.out (j := 2 * i + 1) hM3 hp hD hi hn hb hr (by omega) (by omega) (by omega) HLu.out (kids (fun _ => Le.refl HO.out _) (fun x => absurd x hC)) (by go_num)
          case measure => simp [intOf]; omega
end
end Go.Proofs.Ytogedbednfbkmaa
