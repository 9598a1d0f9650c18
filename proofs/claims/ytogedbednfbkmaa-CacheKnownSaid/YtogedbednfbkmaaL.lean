/- container/heap over this seat's row: Push, Pop, Remove, Fix. Conditions: what its methods do, as the premises say. -/
import Derived.Test.YtogedbednfbkmaaK
namespace Go.Proofs.Ytogedbednfbkmaa
open Go.RowKit

section
variable {α : Type} [Inhabited α] {lt : α → α → Bool} {M : World → List α → Prop} {a : Addr}
/-- What Len does over M. -/
def LenM (M : World → List α → Prop) (a : Addr) : Prop := ∀ (w : World) (L : List α) (sv : Value), M w L → w.cell? a = some sv → Calls Try.prog 90 #[sv] w fun e w' => e = .returned (.int .i64 L.length) ∧ M w' L
/-- What Push does, from one M to another. -/
def PushM (M M' : World → List α → Prop) (a : Addr) (x : α) (v : Value) : Prop := ∀ (w : World) (L : List α), M w L → Calls Try.prog 95 #[.pointer (some a), v] w fun e w' => e = .returned (.tuple #[]) ∧ M' w' (L ++ [x])
/-- What Pop does, from one M to another. -/
def PopM (M M' : World → List α → Prop) (a : Addr) (val : α → Value) (x : α) : Prop := ∀ (w : World) (L : List α), M w (L ++ [x]) → Calls Try.prog 94 #[.pointer (some a)] w fun e w' => e = .returned (val x) ∧ M' w' L

theorem heap_snoc {L : List α} {x : α} (h : Heap lt L L.length) : UpI lt (L ++ [x]) (L.length + 1) L.length := by
  have e : ∀ k, k < L.length → at_ (L ++ [x]) k = at_ L k := fun k hk => by simp [at_, List.getD_eq_getElem?_getD, List.getElem?_append_left hk]
  refine ⟨fun k k0 kn kp => ?_, fun c c0 cn cl cp => by omega⟩
  rw [e _ (by omega), e _ (by omega)]
  exact h k k0 (by omega) trivial
theorem heap_take {L : List α} {n : Nat} (h : Heap lt L n) (_hn : n ≤ L.length) : Heap lt (L.take n) n := by
  have e : ∀ k, k < n → at_ (L.take n) k = at_ L k := fun k hk => by simp [at_, List.getD_eq_getElem?_getD, hk]
  intro k k0 kn _
  rw [e _ (by omega), e _ (by omega)]
  exact h k k0 kn trivial
theorem heap_less {L : List α} {n m : Nat} (h : Heap lt L n) (hm : m ≤ n) : Heap lt L m := fun k k0 kn _ => h k k0 (by omega) trivial

set_option maxHeartbeats 1000000 in
theorem hpush_c (O : Ord lt) {M' : World → List α → Prop} {x : α} {v : Value} (hHd : HeadM M' a) (hL : LessM lt M' a) (hS : SwapM M' a) (hN : LenM M' a) (hP : PushM M M' a x v) (w : World) (L : List α) (h : M w L) (hb : L.length < 100000) (hH : Heap lt L L.length) :
    Calls Try.prog 36 #[.iface 70 (.pointer (some a)), v] w fun e w' => e = .returned (.tuple #[]) ∧ ∃ L', M' w' L' ∧ L'.Perm (L ++ [x]) ∧ Heap lt L' L'.length := by
  have HN := hid_ hN
  have HHd := hid_ hHd
  have HP := hid_ hP
  have HU := fun w1 hM1 => hid_ (up_c O hHd hL hS w1 (L ++ [x]) (L.length + 1) L.length hM1 (by simp) (by simp; omega) (by omega) (heap_snoc hH))
  have HU' := hid_ HU
  have q1 : IntKind.i64.wrap ((L.length : Int) + 1 - 1) = (L.length : Int) := by rw [show (L.length : Int) + 1 - 1 = L.length by omega]; exact IntWalk.i64_in _ (by omega)
  have q2 : IntKind.i64.wrap ((L.length : Int)) = (L.length : Int) := IntWalk.i64_in _ (by omega)
  have hb' : (L.length : Int) < 100000 := by omega
  clear hHd hL hS hN hP O hH HU
  go_enter Try.func36, Try.ntmps36
  go_wp2_with fail
  refine (HP.out w L h).mono ?_
  rintro e w1 ⟨rfl, hM1⟩
  obtain ⟨A1, c1, hc1⟩ := HHd.out w1 _ hM1
  rw [show (L ++ [x]).length = L.length + 1 by simp] at hc1
  have im1 := inv_len hc1
  go_wp2_with fail
  refine (HN.out w1 _ _ hM1 hc1).mono ?_
  rintro e w2 ⟨rfl, hM2⟩
  clear hc1 im1
  rw [show ((L ++ [x]).length : Int) = (L.length : Int) + 1 by simp]
  go_wp2_with fail
  refine (HU'.out w2 hM2).out.mono ?_
  rintro e w3 ⟨rfl, L', hM3, hp, hh, _⟩
  have HR := hid_ (And.intro hM3 (And.intro hp hh))
  clear hM3 hp hh
  go_wp2
  go_returns
  obtain ⟨hM3, hp, hh⟩ := HR.out
  exact ⟨rfl, L', hM3, hp, by rw [hp.length_eq, List.length_append]; exact hh⟩

/-- The last one, and those before it. -/
theorem last_form {L : List α} (h : 0 < L.length) : L = L.take (L.length - 1) ++ [at_ L (L.length - 1)] := by
  have e : L.drop (L.length - 1) = [at_ L (L.length - 1)] := by
    rw [List.drop_eq_getElem_cons (by omega), List.drop_of_length_le (by omega)]
    simp only [at_, List.getD_eq_getElem?_getD]
    rw [List.getElem?_eq_getElem (by omega), Option.getD_some]
  conv => lhs; rw [← List.take_append_drop (L.length - 1) L, e]

theorem bad_swap {L : List α} {n i : Nat} (O : Ord lt) (h : Heap lt L (n + 1)) (hl : L.length = n + 1) (hi : i < n) : Bad lt (sw L i n) n i := by
  have hs := fun x => at_sw L i n x (by omega) (by omega)
  refine ⟨fun k k0 kn kp => ?_, fun c i0 ic cn cp => ?_⟩
  · obtain ⟨k1, k2⟩ := kp
    rw [hs, hs, if_neg k2, if_neg (by omega), if_neg k1, if_neg (by omega)]
    exact h k k0 (by omega) trivial
  · rw [hs, hs, if_neg (by omega), if_neg (by omega), if_neg (by omega), if_neg (by omega)]
    have h1 := h c (by omega) (by omega) trivial
    have h2 := h i i0 (by omega) trivial
    rw [cp] at h1
    exact Le.trans O h2 h1

/-- Taking out number i. -/
def TakenP (lt : α → α → Bool) (M : World → List α → Prop) (L : List α) (x : α) (w' : World) : Prop := ∃ L', M w' L' ∧ (L' ++ [x]).Perm L ∧ Heap lt L' L'.length

theorem taken_of {L L' : List α} {n : Nat} {x : α} (hp : L'.Perm L) (hl : L.length = n + 1) (hh : Heap lt L' n) (hx : at_ L' n = x) : L' = L'.take n ++ [x] ∧ (L'.take n ++ [x]).Perm L ∧ Heap lt (L'.take n) (L'.take n).length := by
  have hlen := hp.length_eq
  have e := last_form (L := L') (by omega)
  rw [show L'.length - 1 = n by omega, hx] at e
  refine ⟨e, by rw [← e]; exact hp, ?_⟩
  have : (L'.take n).length = n := by simp; omega
  rw [this]
  exact heap_take hh (by omega)

theorem bad_fix {L L0 : List α} {i : Nat} (O : Ord lt) (h : Heap lt L0 L0.length) (hl : L.length = L0.length) (hs : ∀ k, k ≠ i → at_ L k = at_ L0 k) : Bad lt L L.length i := by
  refine ⟨fun k k0 kn kp => ?_, fun c i0 ic cn cp => ?_⟩
  · rw [hs _ kp.1, hs _ kp.2]
    exact h k k0 (by omega) trivial
  · rw [hs _ (by omega), hs _ (by omega)]
    have h1 := h c (by omega) (by omega) trivial
    have h2 := h i i0 (by omega) trivial
    rw [cp] at h1
    exact Le.trans O h2 h1

set_option maxHeartbeats 1000000 in
theorem hfix_c (O : Ord lt) (hHd : HeadM M a) (hL : LessM lt M a) (hS : SwapM M a) (hN : LenM M a) (w : World) (L : List α) (i : Nat) (h : M w L) (hi : i < L.length) (hb : L.length ≤ 100000) (hB : Bad lt L L.length i) :
    Calls Try.prog 32 #[.iface 70 (.pointer (some a)), .int .i64 i] w fun e w' => e = .returned (.tuple #[]) ∧ ∃ L', M w' L' ∧ L'.Perm L ∧ Heap lt L' L'.length := by
  have HD := hid_ (fun w1 hM1 => hid_ (down_c O hHd hL hS w1 L L.length i hM1 (by omega) (by omega) (by omega) hB))
  have HU := hid_ (fun w1 L1 hM1 h1 h2 h3 h4 => hid_ (up_c O hHd hL hS w1 L1 L.length i hM1 h1 h2 h3 h4))
  have HN := hid_ hN
  have HHd := hid_ hHd
  have Hi := hid_ hi
  have Hb := hid_ hb
  clear hHd hL hS hN O hB hi hb
  go_enter Try.func32, Try.ntmps32
  obtain ⟨A2, c2, hc2⟩ := HHd.out w _ h
  have im2 := inv_len hc2
  go_wp2_with fail
  refine (HN.out w _ _ h hc2).mono ?_
  rintro e w1 ⟨rfl, hM1⟩
  clear hc2 im2
  go_wp2_with fail
  refine (HD.out w1 hM1).out.mono ?_
  rintro e w2 ⟨b, L', rfl, hM2, hp, hb1, hb2, _⟩
  cases b with
  | true =>
    have HR := hid_ (And.intro hp (hb1 rfl))
    clear hb1 hb2 hp
    go_wp2
    go_returns
    exact ⟨rfl, L', hM2, HR.out.1, by rw [HR.out.1.length_eq]; exact HR.out.2⟩
  | false =>
    have HR := hid_ (And.intro hp (hb2 rfl))
    clear hb1 hb2 hp
    go_wp2_with fail
    refine (HU.out w2 L' hM2 (by rw [HR.out.1.length_eq]; exact Nat.le_refl _) (by rw [HR.out.1.length_eq]; exact Hb.out) Hi.out HR.out.2).out.mono ?_
    rintro e w3 ⟨rfl, L2, hM3, hp2, hh2, _⟩
    have HR2 := hid_ (And.intro hp2 hh2)
    clear hp2 hh2
    go_wp2
    go_returns
    exact ⟨rfl, L2, hM3, HR2.out.1.trans HR.out.1, by rw [(HR2.out.1.trans HR.out.1).length_eq]; exact HR2.out.2⟩

set_option maxHeartbeats 2000000 in
theorem hremove_c (O : Ord lt) {M' : World → List α → Prop} {val : α → Value} (hHd : HeadM M a) (hL : LessM lt M a) (hS : SwapM M a) (hN : LenM M a) (w : World) (L : List α) (i : Nat) (hP : PopM M M' a val (at_ L i)) (h : M w L) (hi : i < L.length) (hb : L.length ≤ 100000) (hH : Heap lt L L.length) :
    Calls Try.prog 51 #[.iface 70 (.pointer (some a)), .int .i64 i] w fun e w' => e = .returned (val (at_ L i)) ∧ TakenP lt M' L (at_ L i) w' := by
  obtain ⟨n, hn⟩ : ∃ n, L.length = n + 1 := ⟨L.length - 1, by omega⟩
  have q1 : IntKind.i64.wrap ((n : Int) + 1 - 1) = (n : Int) := by rw [show (n : Int) + 1 - 1 = n by omega]; exact IntWalk.i64_in _ (by omega)
  have q2 : IntKind.i64.wrap ((n : Int)) = (n : Int) := IntWalk.i64_in _ (by omega)
  have hb' : (n : Int) < 100000 := by omega
  have HN := hid_ hN
  have HHd := hid_ hHd
  have HP := hid_ hP
  have Hn := hid_ hn
  by_cases hin : i = n
  · obtain ⟨e1, e2, e3⟩ := taken_of (List.Perm.refl L) hn (heap_less hH (by omega)) (x := at_ L i) (by rw [hin])
    have hne : ((n : Int) != (i : Int)) = false := by subst hin; simp
    have HR := hid_ (And.intro e2 e3)
    have h' := h
    rw [e1] at h'
    have H0 := hid_ h
    have H1 := hid_ h'
    have He := hid_ e1
    clear e1 e2 e3 hHd hL hS hN hP O hH hn hin h h' hi hb
    go_enter Try.func51, Try.ntmps51
    obtain ⟨A3, c3, hc3⟩ := HHd.out w _ H0.out
    have im3 := inv_len hc3
    go_wp2_with fail
    refine (HN.out w _ _ H0.out hc3).mono ?_
    rintro e w1 ⟨rfl, hM1⟩
    clear hc3 im3
    rw [show (L.length : Int) = (n : Int) + 1 by rw [Hn.out]; rfl]
    rw [He.out] at hM1
    go_wp2_with fail
    refine (HP.out w1 _ hM1).mono ?_
    rintro e w4 ⟨rfl, hM4⟩
    go_wp2
    go_ret
    exact ⟨rfl, _, hM4, HR.out.1, HR.out.2⟩
  · have hlen : (sw L i n).length = n + 1 := by rw [sw_length, hn]
    have hat : at_ (sw L i n) n = at_ L i := by rw [at_sw L i n n (by omega) (by omega), if_neg (by omega), if_pos rfl]
    have hbad := bad_swap O (hn ▸ hH) hn (show i < n by omega)
    have HD := hid_ (fun w1 hM1 => hid_ (down_c O hHd hL hS w1 (sw L i n) n i hM1 (by omega) (by omega) (by omega) hbad))
    have HU := hid_ (fun w1 L1 hM1 h1 h2 h4 => hid_ (up_c O hHd hL hS w1 L1 n i hM1 h1 h2 (by omega) h4))
    have HS := hid_ hS
    have HA := hid_ hat
    have hlp := hid_ (sw_perm L i n (by omega) (by omega))
    have hne : ((n : Int) != (i : Int)) = true := by rw [bne_iff_ne]; omega
    have Hi := hid_ hi
    have Hb := hid_ hb
    have Hl := hid_ hlen
    have Hin := hid_ hin
    clear hHd hL hS hN hP O hH hat hbad hlen hn hin hi hb
    go_enter Try.func51, Try.ntmps51
    obtain ⟨A4, c4, hc4⟩ := HHd.out w _ h
    have im4 := inv_len hc4
    go_wp2_with fail
    refine (HN.out w _ _ h hc4).mono ?_
    rintro e w1 ⟨rfl, hM1⟩
    clear hc4 im4
    rw [show (L.length : Int) = (n : Int) + 1 by rw [Hn.out]; rfl]
    obtain ⟨A5, c5, hc5⟩ := HHd.out w1 L hM1
    have im5 := inv_swap hc5
    go_wp2_with fail
    refine (HS.out w1 L _ _ _ hM1 hc5 (by omega) (by have := Hi.out; omega) (by omega) (by have := Hn.out; omega) (by have := Hin.out; omega)).mono ?_
    rintro e w2 ⟨rfl, hM2⟩
    clear hc5 im5
    rw [Int.toNat_natCast, Int.toNat_natCast] at hM2
    go_wp2_with fail
    refine (HD.out w2 hM2).out.mono ?_
    rintro e w3 ⟨b, L', rfl, hM3, hp, hb1, hb2, hr⟩
    have hx := (hr n (Nat.le_refl _)).trans HA.out
    cases b with
    | true =>
      obtain ⟨e1, e2, e3⟩ := taken_of (hp.trans hlp.out) Hn.out (hb1 rfl) hx
      have HR := hid_ (And.intro e2 e3)
      rw [e1] at hM3
      clear hb1 hb2 hr hp hx e1 e2 e3
      go_wp2_with fail
      refine (HP.out w3 _ hM3).mono ?_
      rintro e w4 ⟨rfl, hM4⟩
      go_wp2
      go_ret
      exact ⟨rfl, _, hM4, HR.out.1, HR.out.2⟩
    | false =>
      have HQ := hid_ (And.intro hp (And.intro (hb2 rfl) hx))
      clear hb1 hb2 hr hp hx
      go_wp2_with fail
      refine (HU.out w3 L' hM3 (by rw [HQ.out.1.length_eq, Hl.out]; omega) (by rw [HQ.out.1.length_eq, Hl.out]; have := Hb.out; have := Hn.out; omega) HQ.out.2.1).out.mono ?_
      rintro e w4 ⟨rfl, L2, hM4, hp2, hh2, hr2⟩
      obtain ⟨e1, e2, e3⟩ := taken_of ((hp2.trans HQ.out.1).trans hlp.out) Hn.out hh2 ((hr2 n (Nat.le_refl _)).trans HQ.out.2.2)
      have HR := hid_ (And.intro e2 e3)
      rw [e1] at hM4
      clear hp2 hh2 hr2 e1 e2 e3
      go_wp2_with fail
      refine (HP.out w4 _ hM4).mono ?_
      rintro e w5 ⟨rfl, hM5⟩
      go_wp2
      go_ret
      exact ⟨rfl, _, hM5, HR.out.1, HR.out.2⟩
end
end Go.Proofs.Ytogedbednfbkmaa
