/- CacheOrder: the walk. Conditions: what its argument reads as. -/
import Derived.Test.YtogedbednfbkmaaFa
import Derived.Deep.DeepCutAuto
import Derived.Deep.CutBlock
namespace Go.Proofs.Ytogedbednfbkmaa
open Go.RowKit Go.Maps

def kNew : ByteArray := ⟨#[110, 101, 119]⟩
/-- What is thrown out of S is what is thrown out of its end, a of them gone. -/
def Gone (R m : Int) (S E : List En) (a : Nat) (free : Int) : Prop := a ≤ S.length ∧ free = R - szS (S.drop a) ∧ ∃ lv th, (evict R m lv th (S.drop a)).2.2 = E
theorem gone_start (R m lv th : Int) (S : List En) : Gone R m S (evict R m lv th S).2.2 0 (R - szS S) := ⟨Nat.zero_le _, rfl, lv, th, rfl⟩
theorem gone_step {R m free : Int} {S E : List En} {a : Nat} (h : Gone R m S E a free) (ha : a < S.length) (hf : free < m) : Gone R m S E (a + 1) (free + szE (S[a]'ha)) := by
  obtain ⟨h1, h2, lv, th, h3⟩ := h
  have e : S.drop a = S[a] :: S.drop (a + 1) := List.drop_eq_getElem_cons ha
  rw [e] at h2 h3
  rw [szS_cons] at h2
  unfold evict at h3
  rw [if_pos (by rw [szS_cons]; omega)] at h3
  exact ⟨ha, by omega, _, _, h3⟩
theorem gone_stop {R m free : Int} {S E : List En} {a : Nat} (h : Gone R m S E a free) (hs : a = S.length ∨ m ≤ free) : E = S.drop a := by
  obtain ⟨h1, h2, lv, th, h3⟩ := h
  rw [← h3]
  cases e : S.drop a with
  | nil => rfl
  | cons x T =>
    have : ¬ a = S.length := fun e2 => by rw [e2, List.drop_length] at e; cases e
    have hm := hs.resolve_left this
    rw [e] at h2
    unfold evict
    rw [if_neg (by omega)]
theorem has_drop {S : List En} {x : En} {a i : Nat} (hn : (S.map En.key).Nodup) (hi : i < S.length) (hx : (S[i]'hi).key ≠ x.key) : hasE (S[i]'hi).key (insE x (S.drop a)) = decide (a ≤ i) := by
  have hm : hasE (S[i]'hi).key (insE x (S.drop a)) = true ↔ a ≤ i := by
    rw [hasE_iff]
    constructor
    · intro h
      obtain ⟨y, hy, e⟩ := List.mem_map.1 h
      rcases List.mem_cons.1 ((insE_perm _ _).mem_iff.1 hy) with h1 | h1
      · exact absurd (by rw [← e, h1]) hx
      · obtain ⟨j, hj, e2⟩ := List.mem_iff_getElem.1 h1
        rw [List.length_drop] at hj
        rw [List.getElem_drop] at e2
        have e3 : a + j = i := by
          have hp := List.pairwise_iff_getElem.1 hn
          rcases Nat.lt_trichotomy (a + j) i with h2 | h2 | h2
          · exact absurd (by rw [List.getElem_map, List.getElem_map, e2]; exact e) (hp (a + j) i (by simp; omega) (by simpa using hi) h2)
          · exact h2
          · exact absurd (by rw [List.getElem_map, List.getElem_map, e2]; exact e.symm) (hp i (a + j) (by simpa using hi) (by simp; omega) h2)
        omega
    · intro h
      refine List.mem_map.2 ⟨S[i], (insE_perm _ _).mem_iff.2 (List.mem_cons.2 (.inr ?_)), rfl⟩
      exact List.mem_iff_getElem.2 ⟨i - a, by rw [List.length_drop]; omega, by rw [List.getElem_drop]; congr 1; omega⟩
  cases e : hasE (S[i]'hi).key (insE x (S.drop a)) with
  | true => exact (decide_eq_true (hm.1 e)).symm
  | false => exact (decide_eq_false (fun h => by rw [hm.2 h] at e; cases e)).symm
/-- The last put. -/
theorem put_new {c : Cs} {v : List Int} (hr : ¬ (3 + v.length : Int) > c.room) : (putC c kNew v 3).1 = 0 ∧ ∃ x : En, x.key = kNew ∧ (putC c kNew v 3).2.S = insE x (evict c.room (3 + v.length) c.level c.thrown (outE kNew c.S)).2.2 := by
  have hb : badE kNew 3 = false := rfl
  unfold putC
  rw [if_neg (by rw [hb]; simp), if_neg (by show ¬ (((3 : Nat) : Int) + v.length > c.room); exact hr)]
  exact ⟨rfl, _, rfl, rfl⟩
theorem new_ne (j : Nat) : keyB j ≠ kNew := by
  intro e
  have h2 := congrArg ByteArray.size e
  simp [keyB, kNew, ByteArray.size] at h2
theorem toList_ne {a b : ByteArray} (h : a ≠ b) : (a.toList == b.toList) = false := by
  rw [beq_eq_false_iff_ne, ByteArray.toList_eq, ByteArray.toList_eq]
  exact fun e => h (ByteArray.ext (Array.toList_inj.1 e))
theorem sized_new {sz : Nat → Int} {S : List En} (h : Sized sz S) : outE kNew S = S := outE_none (fun hm => by
  obtain ⟨y, hy, e⟩ := List.mem_map.1 hm
  obtain ⟨j, _, h2, _⟩ := h y hy
  exact new_ne j (by rw [← h2, e]))

set_option maxHeartbeats 8000000 in
set_option maxRecDepth 100000 in
theorem order_try {w : World} {A : Option Addr} {n cc : Nat} {f : Nat → Nat → Int} (room0 size0 : Int) (h : RdS w A n 4 f) :
    Calls Try.prog 5 #[.int .i64 room0, .slice A n cc, .int .i64 size0] w fun e w' => e = .returned (.bool true) ∧ Below w.heap.size w w' := by
  have HX := hid_ h
  have hlow := h.low
  have r1 : 0 ≤ room0 % 101 ∧ room0 % 101 < 101 := ⟨Int.emod_nonneg _ (by omega), Int.emod_lt_of_pos _ (by omega)⟩
  clear h
  go_enter Try.func5, Try.ntmps5
  go_wp2_with fail
  refine (bring_c room0 101 _ (by omega) (by omega)).mono ?_
  rintro e w1 ⟨rfl, rfl⟩
  generalize room0 % 101 = rm at *
  have q0 : IntKind.i64.wrap (20 + rm) = 20 + rm := IntWalk.i64_in _ (by omega)
  go_wp2_with fail
  refine (new_ok (20 + rm) w (by omega)).mono ?_
  rintro e w1 ⟨cb, rfl, hN, hb1⟩
  have O0 := hid_ ((Hc.start hN hb1).fence (Y := fun q => q = w1.heap.size) ((Below.refl _ w1).alloc (Nat.le_refl _) (.cells (Array.replicate 12 (.int .i64 0)) 42)) (fun q hq => .inr (by omega)))
  have T0 := hid_ (Fn.zero w1 42 12 (.int .i64 0))
  have htb : w.heap.size ≤ w1.heap.size := hb1.size
  clear hN hb1
  go_wp2_with fail
  generalize w1.heap.size = tb at *
  go_loopw [10] (fun v10 wr => ∃ (i : Nat) (c : Cs) (sz : Nat → Int), v10 = .int .i64 i ∧ i ≤ n ∧ i ≤ 60 ∧ Hc (fun q => q = tb) w.heap.size w wr cb c ∧ Fn wr tb 42 12 (fun j => .int .i64 (sz j)) ∧ Sized sz c.S ∧ c.room = 20 + rm ∧ c.uses ≤ i ∧ c.missed ≤ i ∧ ∀ j, 0 ≤ sz j ∧ sz j ≤ 100) (fun v _ => n - (intOf v).toNat)
  case atStart => exact ⟨0, _, fun _ => 0, rfl, by omega, by omega, O0.out, T0.out, fun e he => by simp at he, rfl, Int.le_refl _, Int.le_refl _, fun j => ⟨Int.le_refl _, by show (0 : Int) ≤ 100; omega⟩⟩
  case round =>
    obtain ⟨i, c, sz, rfl, hin, hi60, hO, hT, hSz, hroom, huses, hmis, hszb⟩ := hrel
    have HO := hid_ hO
    have HT := hid_ hT
    have HSz := hid_ (And.intro hSz hszb)
    clear hO hT hSz hszb O0 T0
    by_cases hlt : i < n ∧ i < 60
    · obtain ⟨hlt1, hlt2⟩ := hlt
      obtain ⟨b, off, hA, hcx⟩ := (HX.out.below HO.out.below).cells (by omega)
      have x0 : wr.cell? ⟨b, off + i * 4, none⟩ = some (.int .i64 (f i 0)) := by simpa using hcx i hlt1 0 (by omega)
      have x1 := hcx i hlt1 1 (by omega)
      have x2 := hcx i hlt1 2 (by omega)
      have x3 := hcx i hlt1 3 (by omega)
      subst hA
      have hcells : ∀ W, Below w.heap.size w W → W.cell? ⟨b, off + i * 4 + 3, none⟩ = some (.int .i64 (f i 3)) := fun W hb => by
        obtain ⟨b2, off2, hA2, hc2⟩ := (HX.out.below hb).cells (by omega)
        injection hA2 with hA2
        injection hA2 with e1 e2
        subst e1 e2
        exact hc2 i hlt1 3 (by omega)
      have HCe := hid_ hcells
      clear hcx hcells
      generalize f i 0 = kd at *
      generalize f i 1 = ky at *
      generalize f i 2 = s0 at *
      generalize f i 3 = co at *
      have b0 : (0 : Int) ≤ (i : Int) := by omega
      have b1 : (i : Int) < (n : Int) := by omega
      have b2 : (i : Int) < 60 := by omega
      go_wp2_with fail
      go_region_held3 (fun W => W.cell? ⟨b, off + i * 4 + 1, none⟩ = some (.int .i64 ky) ∧ W.cell? ⟨b, off + i * 4 + 2, none⟩ = some (.int .i64 s0))
        (first | exact ⟨x1, x2⟩ | (refine And.intro ?_ ?_ <;> assumption))
        (first | (go_at_call 11; refine (bring_c _ _ _ (by omega) (by omega)).mono ?_; rintro e w3 ⟨rfl, rfl⟩))
      have hj0 : 0 ≤ ky % 12 ∧ ky % 12 < 12 := ⟨Int.emod_nonneg _ (by omega), Int.emod_lt_of_pos _ (by omega)⟩
      have hs0 : 0 ≤ s0 % 18 ∧ s0 % 18 < 18 := ⟨Int.emod_nonneg _ (by omega), Int.emod_lt_of_pos _ (by omega)⟩
      obtain ⟨j, hj⟩ := Int.eq_ofNat_of_zero_le hj0.1
      obtain ⟨s, hs⟩ := Int.eq_ofNat_of_zero_le hs0.1
      rw [hj, hs]
      have hj12 : j < 12 := by omega
      have hs18 : s < 18 := by omega
      have hjj : ((j : Int) % 12).toNat = j := by omega
      have HJ := hid_ hjj
      clear hj hs hj0 hs0 x1 x2 hjj
      have hO2 := HO.out.after (Below.refl _ wr).drew
      have hT2 := HT.out.below (Below.refl _ wr).drew
      have y0 : wr.drew.cell? ⟨b, off + i * 4, none⟩ = some (.int .i64 kd) := x0
      have y3 : wr.drew.cell? ⟨b, off + i * 4 + 3, none⟩ = some (.int .i64 co) := x3
      clear x0 x3
      have HO2 := hid_ hO2
      have HT2 := hid_ hT2
      clear hO2 hT2 HO HT
      generalize wr.drew = wa at *
      go_wp2_with fail
      refine (bring_c kd 4 wa (by omega) (by omega)).mono ?_
      rintro e w3 ⟨rfl, rfl⟩
      have hsm : Small c := ⟨by omega, by omega⟩
      have HSm := hid_ hsm
      clear hsm
      have hXl : ∀ q, q = tb → q < wa.heap.size := fun q hq => hq ▸ HT2.out.lt
      have HXl := hid_ hXl
      clear hXl
      by_cases hz : kd % 4 = 2
      · have g1 : ((2 : Int) == 2) = true := rfl
        rw [hz]
        clear hz y0 y3
        go_wp2_with fail
        refine (key_c j wa).mono ?_
        rintro e w3 ⟨rfl, rfl⟩
        rw [HJ.out]
        go_wp2_with fail
        refine (HO2.out.get HXl.out (k := keyB j) (by show 2 ≤ maxLen; unfold maxLen; omega) HSm.out).mono ?_
        rintro e w3 ⟨A3, m3, c3, b3, rfl, hO3, hk3⟩
        have hgu : (getC c (keyB j)).2.room = c.room ∧ (getC c (keyB j)).2.uses ≤ c.uses + 1 ∧ (getC c (keyB j)).2.missed ≤ c.missed + 1 := by
          unfold getC
          cases getE (keyB j) c.S with
          | none => exact ⟨rfl, by show c.uses ≤ c.uses + 1; omega, Int.le_refl _⟩
          | some x => exact ⟨rfl, Int.le_refl _, by show c.missed ≤ c.missed + 1; omega⟩
        have HD := hid_ (And.intro hO3 (And.intro (HT2.out.kp hk3 (fun h => h rfl)) (And.intro (sized_get (k := keyB j) HSz.out.1) hgu)))
        clear hO3 hk3 hgu
        generalize (getC c (keyB j)).2 = c' at *
        go_wp2
        go_roundw
        case rel => exact ⟨i + 1, c', sz, by go_num, by omega, by omega, HD.out.1, HD.out.2.1, HD.out.2.2.1, HD.out.2.2.2.1.trans hroom, by have := HD.out.2.2.2.2.1; push_cast; omega, by have := HD.out.2.2.2.2.2; push_cast; omega, HSz.out.2⟩
        case measure => simp [intOf]; omega
      · have g1 : (kd % 4 == 2) = false := by rw [beq_eq_false_iff_ne]; exact hz
        generalize kd % 4 = z at *
        have hb4 : badE (keyB j) (co % 20) = false := decide_eq_false (by
          have : 0 ≤ co % 20 ∧ co % 20 < 20 := ⟨Int.emod_nonneg _ (by omega), Int.emod_lt_of_pos _ (by omega)⟩
          show ¬ ((2 : Nat) = 0 ∨ 200 < 2 ∨ co % 20 < 0 ∨ 1000000 < co % 20); omega)
        have hr4 : ¬ ((keyB j).size + (valB s i).length : Int) > c.room := by rw [valB_len, hroom]; show ¬ (((2 : Nat) : Int) + (s : Int) > 20 + rm); omega
        have HPc := hid_ (put_counts (v := valB s i) HO2.out.ok hb4 hr4)
        have HSp := hid_ (sized_put (v := valB s i) HSz.out.1 hj12 hb4 hr4)
        clear hb4 hr4 hz
        go_wp2_with fail
        go_region_held3 (fun W => W.cell? ⟨b, off + i * 4 + 3, none⟩ = some (.int .i64 co))
          (first | exact HCe.out _ HO7.out.1.below | exact below_cell HV.out.2.2 y3 | exact y3 | assumption)
          (first
            | (go_at_call 11; refine (bring_c _ _ _ (by omega) (by omega)).mono ?_; rintro e w3 ⟨rfl, rfl⟩)
            | (go_at_call 12; refine (key_c _ _).mono ?_; rintro e w3 ⟨rfl, rfl⟩; rw [HJ.out])
            | (go_at_call 15; refine (value_c _ _ _ (by omega) (by omega) (by omega)).mono ?_; rintro e w3 ⟨A3, c3, rfl, hown, hb3⟩; rw [Int.toNat_natCast] at hown ⊢; have HV := hid_ (And.intro (rd_own hown (by rw [valB_len])).1 (And.intro (rd_own hown (by rw [valB_len])).2 hb3)))
            | (go_at_call 14; refine (((HO2.out.after (Below.refl _ wa).drew).after HV.out.2.2).put (fun q hq => Nat.lt_of_lt_of_le (HXl.out q hq) HV.out.2.2.size) (k := keyB j) (by show 2 ≤ 1000000; omega) HSm.out HV.out.2.1 HV.out.1 (by omega) _).mono ?_; rintro e w3 ⟨rfl, hO7⟩; rw [HPc.out.1]; have HO7 := hid_ hO7))
        all_goals
          obtain ⟨hO3, hk3⟩ := HO7.out
          have hT3 := (((HT2.out.below (Below.refl _ wa).drew).below HV.out.2.2)).kp hk3 (fun h => h rfl)
          have t1 := hT3.cell j hj12
          have t2 := hT3.frozen j
          have j1 : (0 : Int) ≤ (j : Int) := by omega
          have j2 : (j : Int) < 12 := by omega
          have hst := hid_ (And.intro (hO3.set_ (p := ⟨tb, j, none⟩) rfl htb (.int .i64 ((s : Int) + 2))) (hT3.set_ j (.int .i64 ((s : Int) + 2))))
          have HPd := hid_ HPc.out.2
          clear hO3 hk3 hT3 HPc HV HO7 y0 y3
          generalize (putC c (keyB j) (valB s i) (co % 20)).2 = c' at *
          go_wp2
          go_roundw
          case rel =>
            refine ⟨i + 1, c', fun k => if k = j then ((valB s i).length + 2 : Nat) else sz k, by go_num, by omega, by omega, hst.out.1, hst.out.2.congr (fun k hk => ?_), HSp.out, HPd.out.2.2.2.1.trans hroom, by have := HPd.out.2.2.1; push_cast; omega, by have := HPd.out.2.1; push_cast; omega, fun k => ?_⟩
            · rw [valB_len]
              show (if k = j then Value.int .i64 ((s : Int) + 2) else .int .i64 (sz k)) = .int .i64 (if k = j then ((s + 2 : Nat) : Int) else sz k)
              split <;> simp
            · rw [valB_len]
              show 0 ≤ (if k = j then ((s + 2 : Nat) : Int) else sz k) ∧ (if k = j then ((s + 2 : Nat) : Int) else sz k) ≤ 100
              have := HSz.out.2 k
              split <;> omega
          case measure => simp [intOf]; omega
    · have hcond : (¬ (i : Int) < (n : Int)) ∨ ((i : Int) < (n : Int) ∧ ¬ (i : Int) < 60) := by omega
      have m1 : 0 ≤ size0 % 16 ∧ size0 % 16 < 16 := ⟨Int.emod_nonneg _ (by omega), Int.emod_lt_of_pos _ (by omega)⟩
      obtain ⟨m, hm⟩ := Int.eq_ofNat_of_zero_le m1.1
      have hm16 : m < 16 := by omega
      have hbr := fun W => hid_ (bring_c size0 16 W (by omega) (by omega))
      rw [hm] at hbr
      have HBr := hid_ hbr
      have HK := hid_ HO.out.keys
      have hsm : Small c := ⟨by omega, by omega⟩
      have hsz := HO.out.ok.sz
      have hrm := HO.out.ok.room
      have hth := HO.out.ok.thr
      have q1 : IntKind.i64.wrap (20 + rm - (szS c.S : Int)) = 20 + rm - (szS c.S : Int) := IntWalk.i64_in _ (by omega)
      clear hlt hbr hm m1
      have hlen : c.S.length ≤ 99000 := by omega
      clear hth
      rcases hcond with b1 | ⟨b1, b2⟩
      all_goals
        go_wp2_with fail
        refine HK.out.mono ?_
        rintro e w2 ⟨A2, c2, rfl, hown, hb2⟩
        have HO2 := hid_ (HO.out.after hb2)
        have HOw := hid_ (And.intro hown hb2)
        have HSi := hid_ HO2.out.size
        clear hown hb2
        go_wp2_with fail
        refine HSi.out.mono ?_
        rintro e w3 ⟨rfl, rfl⟩
        go_wp2_with fail
        refine (HBr.out w2).out.mono ?_
        rintro e w3 ⟨rfl, rfl⟩
        go_wp2_with fail
        refine (value_c m 0 w2 (by omega) (by omega) (by omega)).mono ?_
        rintro e w3 ⟨A3, c3, rfl, hown3, hb3⟩
        rw [Int.toNat_natCast] at hown3 ⊢
        obtain ⟨hc3, hrd3⟩ := rd_own hown3 (by rw [valB_len])
        have hF := HO.out.fence (Y := fun q => q = tb ∨ (Value.slice A2 c.S.length c2).ownBlock = some q) (HOw.out.2.trans (hb3.mono HOw.out.2.size)) (fun q hq => hq.imp id (fun x => own_base HOw.out.1 x))
        have hlt3 : ∀ q, (q = tb ∨ (Value.slice A2 c.S.length c2).ownBlock = some q) → q < w3.heap.size := fun q hq => by
          rcases hq with e | e
          · rw [e]; exact (HT.out.below (HOw.out.2.trans (hb3.mono HOw.out.2.size))).lt
          · exact Nat.lt_of_lt_of_le (own_lt HOw.out.1 e) hb3.size
        have C1 := hid_ (hF.put hlt3 (k := kNew) (by show 3 ≤ 1000000; omega) hsm hrd3 hc3 (by omega) 3)
        obtain ⟨p1, x, p2, p3⟩ := put_new (c := c) (v := valB m 0) (by rw [valB_len, hroom]; omega)
        rw [p1] at C1
        rw [valB_len, sized_new HSz.out.1] at p3
        generalize (putC c kNew (valB m 0) 3).2 = c' at *
        have HPn := hid_ (And.intro p2 p3)
        have HW3 := hid_ hb3
        clear p1 p2 p3 hF hlt3 hrd3 hown3 hb3
        go_wp2_with fail
        refine C1.out.mono ?_
        rintro e w4 ⟨rfl, hO4, hk4⟩
        have HO4 := hid_ hO4
        have HT4 := hid_ ((HT.out.below (HOw.out.2.trans (HW3.out.mono HOw.out.2.size))).kp hk4 (fun h => h (.inl rfl)))
        have HK4 := hid_ (RdT.of_own (own_kp (own_kp HOw.out.1 (Kp.of_below HW3.out fun _ => False) (fun _ _ => id)) hk4 (fun q hq h => h (.inr hq))) (by omega))
        clear hO4 hk4 C1
        have hG := gone_start (20 + rm) ((m : Int) + 3) c.level c.thrown c.S
        rw [show (3 : Int) + (m : Int) = (m : Int) + 3 by omega, hroom] at HPn
        generalize (evict (20 + rm) ((m : Int) + 3) c.level c.thrown c.S).2.2 = E at *
        have HG0 := hid_ hG
        clear hG
        generalize hNN : c.S.length = N at *
        have HN := hid_ hNN
        have hms : ∀ a free, Gone (20 + rm) ((m : Int) + 3) c.S E a free → 0 ≤ free ∧ free ≤ 20 + rm ∧ a ≤ N := fun a free hg => by
          obtain ⟨g1, g2, _⟩ := hg
          have : szS (c.S.drop a) ≤ szS c.S := by
            conv => rhs; rw [← List.take_append_drop a c.S]
            rw [szS_append]; omega
          omega
        have HMs := hid_ hms
        clear hms hNN
        go_wp2_with fail
        go_loopw [14, 16] (fun v14 v16 wx => ∃ (a : Nat) (free : Int), v16 = .int .i64 a ∧ v14 = .int .i64 free ∧ Gone (20 + rm) ((m : Int) + 3) c.S E a free ∧ Below w4.heap.size w4 wx) (fun _ v _ => N - (intOf v).toNat)
        case atStart => exact ⟨0, _, rfl, rfl, HG0.out, Below.refl _ _⟩
        case round =>
          obtain ⟨a, free, rfl, rfl, hg, hbx⟩ := hrel
          have HGn := hid_ (And.intro hg hbx)
          obtain ⟨fb1, fb2, fb3⟩ := HMs.out a free hg
          clear hg hbx
          have q2 : IntKind.i64.wrap ((m : Int) + 3) = (m : Int) + 3 := IntWalk.i64_in _ (by omega)
          by_cases hmore : a < N ∧ free < (m : Int) + 3
          · obtain ⟨ha, hfr⟩ := hmore
            have haS : a < c.S.length := by rw [HN.out]; exact ha
            have hstep := gone_step HGn.out.1 haS hfr
            obtain ⟨fb4, fb5, _⟩ := HMs.out _ _ hstep
            obtain ⟨j, hj12, hkj, hszj⟩ := HSz.out.1 _ (List.getElem_mem haS)
            obtain ⟨g, off, hA2, hcl⟩ := HK4.out.cells (by omega)
            have d0 := hcl a ha
            have hd0 : (keysC c).getD a .empty = keyB j := by
              unfold keysC
              rw [List.getD_eq_getElem?_getD, List.getElem?_map, List.getElem?_eq_getElem haS]
              exact hkj
            rw [hd0] at d0
            have d1 := below_cell HGn.out.2 d0
            subst hA2
            generalize (szE (c.S[a]'haS) : Int) = se at *
            have HSt := hid_ hstep
            have HSj := hid_ hszj
            have a1 : (a : Int) < (N : Int) := by omega
            have a0 : (0 : Int) ≤ (a : Int) := by omega
            clear hcl d0 hd0 hstep hszj hkj
            go_wp2
            generalize wr = wb at *
            go_loopw [14, 17] (fun v14 v17 wx => ∃ k : Nat, v17 = .int .i64 k ∧ v14 = .int .i64 (free + (if j < k then se else 0)) ∧ k ≤ 12 ∧ Below wb.heap.size wb wx) (fun _ v _ => 12 - (intOf v).toNat)
            case atStart => exact ⟨0, rfl, by simp, by omega, Below.refl _ _⟩
            case round =>
              obtain ⟨k, rfl, rfl, hk12, hby⟩ := hrel
              have HBy := hid_ hby
              have d2 := below_cell hby d1
              clear hby
              by_cases hk : k < 12
              · have t4 := below_cell HBy.out (below_cell HGn.out.2 (HT4.out.cell k hk))
                have k1 : (k : Int) < 12 := by omega
                have k0 : (0 : Int) ≤ (k : Int) := by omega
                have hkk : ((k : Int) % 12).toNat = k := by omega
                have HKk := hid_ hkk
                clear hkk
                by_cases hjk : j = k
                · subst hjk
                  have e1 : (if j < j then se else 0) = 0 := if_neg (by omega)
                  have HSe := hid_ (show sz j = se from HSj.out)
                  rw [HSe.out] at t4
                  rw [e1]
                  have q5 : IntKind.i64.wrap (free + 0 + se) = free + 0 + se := IntWalk.i64_in _ (by omega)
                  have q6 : IntKind.i64.wrap (free + se) = free + se := IntWalk.i64_in _ (by omega)
                  go_wp2_with fail
                  go_region_held3 (fun W => W.cell? ⟨g, off + a, none⟩ = some (.string (keyB j)))
                    (first | exact d2 | assumption)
                    (first | (go_at_call 12; refine (key_c _ _).mono ?_; rintro e w7 ⟨rfl, rfl⟩; rw [HKk.out]))
                  all_goals
                    go_wp2
                    go_roundw
                    case rel => exact ⟨j + 1, by go_num, by rw [if_pos (by omega)], by omega, HBy.out.trans ((Below.refl _ _).drew.mono HBy.out.size)⟩
                    case measure => simp [intOf]; omega
                · have hne := toList_ne (fun e => hjk (keyB_inj hj12 hk e))
                  have e1 : (if j < k then se else 0) = (if j < k + 1 then se else 0) := by
                    by_cases h : j < k
                    · rw [if_pos h, if_pos (by omega)]
                    · rw [if_neg h, if_neg (by omega)]
                  have HE1 := hid_ e1
                  clear e1
                  generalize (if j < k then se else 0) = cur at *
                  go_wp2_with fail
                  go_region_held3 (fun W => W.cell? ⟨g, off + a, none⟩ = some (.string (keyB j)))
                    (first | exact d2 | assumption)
                    (first | (go_at_call 12; refine (key_c _ _).mono ?_; rintro e w7 ⟨rfl, rfl⟩; rw [HKk.out]))
                  all_goals
                    go_wp2
                    go_roundw
                    case rel => exact ⟨k + 1, by go_num, by rw [HE1.out], by omega, HBy.out.trans ((Below.refl _ _).drew.mono HBy.out.size)⟩
                    case measure => simp [intOf]; omega
              · have k1 : ¬ (k : Int) < 12 := by omega
                rw [if_pos (by omega : j < k)]
                go_wp2
                go_roundw
                case rel => exact ⟨a + 1, free + se, by go_num, rfl, HSt.out, HGn.out.2.trans (HBy.out.mono HGn.out.2.size)⟩
                case measure => simp [intOf]; omega
          · have hE := gone_stop HGn.out.1 (by rw [HN.out]; omega)
            subst hE
            have hnd := HO.out.ok.gd.once
            have hL4 : (c'.S.length : Int) = N - a + 1 := by
              rw [HPn.out.2, (insE_perm _ _).length_eq, List.length_cons, List.length_drop, HN.out]; push_cast; omega
            have HL4 := hid_ hL4
            have HHas := hid_ (fun (i : Nat) (hi : i < N) => (show hasE ((keysC c).getD i .empty) c'.S = decide (a ≤ i) ∧ ((keysC c).getD i .empty).size ≤ maxLen from by
              have hiS : i < c.S.length := by rw [HN.out]; exact hi
              obtain ⟨j, hj12, hkj, _⟩ := HSz.out.1 _ (List.getElem_mem hiS)
              have e0 : (keysC c).getD i .empty = (c.S[i]'hiS).key := by
                unfold keysC
                rw [List.getD_eq_getElem?_getD, List.getElem?_map, List.getElem?_eq_getElem hiS]; rfl
              rw [e0, HPn.out.2]
              exact ⟨has_drop hnd hiS (by rw [hkj, HPn.out.1]; exact new_ne j), by rw [hkj]; show 2 ≤ maxLen; unfold maxLen; omega⟩))
            clear hnd hL4
            have hc2 : (¬ (a : Int) < (N : Int)) ∨ ((a : Int) < (N : Int) ∧ ¬ free < (m : Int) + 3) := by omega
            rcases hc2 with d1 | ⟨d1, d2⟩
            all_goals
              go_wp2_with fail
              go_loopw [18] (fun v18 wx => ∃ i2 : Nat, v18 = .int .i64 i2 ∧ i2 ≤ N ∧ Below w4.heap.size w4 wx) (fun v _ => N - (intOf v).toNat)
              case atStart => exact ⟨0, rfl, by omega, HGn.out.2⟩
              case round =>
                obtain ⟨i2, rfl, hi2, hby⟩ := hrel
                have HBy := hid_ hby
                by_cases hlt2 : i2 < N
                · obtain ⟨g, off, hA2, hcl⟩ := HK4.out.cells (by omega)
                  have t1 := below_cell HBy.out (hcl i2 hlt2)
                  obtain ⟨s1, s2⟩ := HHas.out i2 hlt2
                  subst hA2
                  have i1 : (i2 : Int) < (N : Int) := by omega
                  have i0 : (0 : Int) ≤ (i2 : Int) := by omega
                  have C5 := hid_ ((HO4.out.after HBy.out).has _ s2)
                  rw [s1] at C5
                  have s5 : decide ((a : Int) ≤ (i2 : Int)) = decide (a ≤ i2) := by simp
                  clear hcl s1 s2 hby
                  go_wp2_with fail
                  refine C5.out.mono ?_
                  rintro e w7 ⟨rfl, rfl⟩
                  all_goals
                    go_wp2
                    go_roundw
                    case rel => exact ⟨i2 + 1, by go_num, by omega, HBy.out⟩
                    case measure => simp [intOf]; omega
                · have i1 : ¬ (i2 : Int) < (N : Int) := by omega
                  have HLn := hid_ (HO4.out.after HBy.out).len
                  rw [HL4.out] at HLn
                  have q7 : IntKind.i64.wrap ((N : Int) - (a : Int)) = (N : Int) - a := IntWalk.i64_in _ (by omega)
                  have q8 : IntKind.i64.wrap ((N : Int) - (a : Int) + 1) = (N : Int) - a + 1 := IntWalk.i64_in _ (by omega)
                  have HEnd := hid_ ((HO4.out.after HBy.out).below)
                  clear hby
                  go_wp2_with fail
                  refine HLn.out.mono ?_
                  rintro e w7 ⟨rfl, rfl⟩
                  go_wp2_with fail
                  refine (works_c _).mono ?_
                  rintro e w8 ⟨rfl, hb8⟩
                  go_wp2
                  go_ret
                  exact ⟨rfl, HEnd.out.trans (hb8.mono (HO4.out.after HBy.out).le)⟩
end Go.Proofs.Ytogedbednfbkmaa
