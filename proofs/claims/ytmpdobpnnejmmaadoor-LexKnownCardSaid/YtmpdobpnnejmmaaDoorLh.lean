/- Lex: number, tag. Conditions: those that each theorem names. -/
import Derived.Test.YtmpdobpnnejmmaaDoorLf
import Derived.Test.YtmpdobpnnejmmaaDoorLg
import Derived.Lib.SmallJoins
namespace Go.Proofs.YtmpdobpnnejmmaaDoor
open Go.RowKit Go.Maps

theorem below_grow (w : World) (k : Nat) (os : Array Obj) : Below w.heap.size w (Sort.grow (w.drewN k) os) :=
  ⟨rfl, rfl, rfl, by simp [Sort.grow, World.drewN], fun b hb => by
    show (w.heap ++ os)[b]? = w.heap[b]?
    exact Array.getElem?_append_left hb⟩
theorem lex_atoi {w : World} (h : Env w) (s : ByteArray) (hs : s.size ≤ 1000000000) : Calls Tryd.prog 61 #[.string s] w fun e w' => ∃ (n : Int) (er : Value), e = .returned (.tuple #[.int .i64 n, er]) ∧ ((Lib.atoiAll (bl s) = .ok n ∧ er = .nilIface) ∨ ((∀ v, Lib.atoiAll (bl s) ≠ .ok v) ∧ ∃ t p, er = .iface t p)) ∧ Below w.heap.size w w' := by
  cases ha : Lib.atoiAll (bl s) with
  | ok v =>
    refine (Tryd.strconv_Atoi_ok s (by omega) v ha w).mono fun e w' ⟨he, hw⟩ => ⟨v, .nilIface, he, .inl ⟨rfl, rfl⟩, ?_⟩
    rcases hw with rfl | ⟨t, rfl⟩
    · exact Below.refl _ _
    · exact Joins.below_bytesWorld _ _ _ _ (Nat.le_refl _)
  | range =>
    obtain ⟨tp, p, hv⟩ := h.rng
    refine (Tryd.strconv_Atoi_range_var s (by omega) ha tp p w hv).mono fun e w' ⟨N, he, _, _, hb⟩ => ⟨_, _, he, .inr ⟨fun v hv => (by cases hv), _, _, rfl⟩, hb⟩
  | _ =>
    obtain ⟨tp, p, hv⟩ := h.syn
    refine (Tryd.strconv_Atoi_syntax_var s (by omega) ha tp p w hv).mono fun e w' ⟨N, he, _, _, hb⟩ => ⟨_, _, he, .inr ⟨fun v hv => (by cases hv), _, _, rfl⟩, hb⟩
theorem lex_itoa {w : World} (h : Env w) (n : Int) (h0 : 0 ≤ n) (h1 : n ≤ 2147483647) : Calls Tryd.prog 62 #[.int .i64 n] w fun e w' => e = .returned (.string (st (Lib.itoa n))) ∧ Below w.heap.size w w' :=
  (Tryd.strconv_Itoa n (by omega) (by omega) w h.pow).mono fun e w' ⟨he, k, os, hw⟩ => ⟨he, by subst hw; exact below_grow _ _ _⟩

def NumP (s : ByteArray) (w : World) (e : Ending) (w' : World) : Prop := ∃ (n : Int) (b : Bool), e = .returned (.tuple #[.int .i64 n, .bool b]) ∧ b = decide (0 ≤ Lx.number (bl s)) ∧ (b = true → n = Lx.number (bl s)) ∧ Below w.heap.size w w'
set_option maxHeartbeats 2000000 in
set_option maxRecDepth 100000 in
theorem lex_number {w : World} (h : Env w) (s : ByteArray) (hs : s.size ≤ 1000000000) :
    Calls Tryd.prog 47 #[.string s] w (NumP s w) := by
  have HA := hid_ (lex_atoi h s hs)
  have HI := hid_ (fun W (hb : Below w.heap.size w W) => lex_itoa (h.below hb))
  clear h
  go_enter Tryd.func47, Tryd.ntmps47
  go_wp2_with fail
  refine HA.out.mono ?_
  rintro e w1 ⟨n, er, rfl, hc, hb⟩
  have HB := hid_ hb
  clear hb HA
  rcases hc with ⟨hok, rfl⟩ | ⟨hno, t, p, rfl⟩
  · by_cases h0 : 0 ≤ n
    · by_cases h1 : n ≤ 2147483647
      · have HI2 := hid_ (HI.out _ HB.out n h0 h1)
        by_cases he : st (Lib.itoa n) = s
        · have q := str_eq he
          have HN := hid_ (show Lx.number (bl s) = n from Lx.number_of h0 h1 (by rw [← he, bl_st]))
          have H0 := hid_ h0
          clear he hok
          go_wp2_with fail
          refine HI2.out.mono ?_
          rintro e w2 ⟨rfl, hb2⟩
          have HB2 := hid_ (HB.out.trans (hb2.mono HB.out.size))
          clear hb2 HI2
          go_wp2
          go_ret2
          exact ⟨n, true, rfl, by rw [HN.out]; exact (decide_eq_true H0.out).symm, fun _ => HN.out.symm, HB2.out⟩
        · have q := str_ne he
          have HN := hid_ (show decide (0 ≤ Lx.number (bl s)) = false from decide_eq_false (fun hp => by
            obtain ⟨a1, a2, a3⟩ := Lx.number_yes hp
            rw [hok] at a1
            injection a1 with a1
            rw [← a1] at a3
            exact he (by rw [a3, st_bl])))
          clear he hok
          go_wp2_with fail
          refine HI2.out.mono ?_
          rintro e w2 ⟨rfl, hb2⟩
          have HB2 := hid_ (HB.out.trans (hb2.mono HB.out.size))
          clear hb2 HI2
          go_wp2
          go_ret2
          exact ⟨n, false, rfl, by rw [HN.out], fun h => (by cases h), HB2.out⟩
      · have HN := hid_ (show decide (0 ≤ Lx.number (bl s)) = false from decide_eq_false (fun hp => by
          obtain ⟨a1, a2, a3⟩ := Lx.number_yes hp
          rw [hok] at a1
          injection a1 with a1
          omega))
        clear hok
        go_wp2
        go_ret2
        exact ⟨n, false, rfl, by rw [HN.out], fun h => (by cases h), HB.out⟩
    · have HN := hid_ (show decide (0 ≤ Lx.number (bl s)) = false from decide_eq_false (fun hp => by
        obtain ⟨a1, a2, a3⟩ := Lx.number_yes hp
        rw [hok] at a1
        injection a1 with a1
        omega))
      clear hok
      go_wp2
      go_ret2
      exact ⟨n, false, rfl, by rw [HN.out], fun h => (by cases h), HB.out⟩
  · have HN := hid_ (show decide (0 ≤ Lx.number (bl s)) = false from decide_eq_false (fun hp => hno _ (Lx.number_yes hp).1))
    clear hno
    go_wp2
    go_ret2
    exact ⟨n, false, rfl, by rw [HN.out], fun h => (by cases h), HB.out⟩
end Go.Proofs.YtmpdobpnnejmmaaDoor
