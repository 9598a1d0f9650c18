/- Lex: what a text is formed of. Conditions: those that each theorem names. -/
import Derived.Test.YtmpdobpnnejmmaaDoorLe
namespace Go.Proofs.YtmpdobpnnejmmaaDoor
open Go.RowKit Go.Maps

abbrev FnV (n : Nat) : Value := .func (.func n) #[] #[]
/-- Function n tells p of a byte. -/
structure IsP (n : Nat) (p : UInt8 → Bool) : Prop where
  call : ∀ (c : UInt8) (W : World), Calls Tryd.prog n #[.int .u8 (c.toNat : Int)] W fun e w' => e = .returned (.bool (p c)) ∧ W = w'
  enter : ∀ (args : Array Value) (W : World), (callFunc n args).run Tryd.prog W = .ok (.enter n args) W
abbrev CloV (sb ib : Nat) : Value := .func (.func 54) #[] #[.pointer (some ⟨sb, 0, none⟩), .pointer (some ⟨ib, 0, none⟩)]
section
variable {w : World} {n sb ib ob i : Nat} {p p0 p1 p2 : UInt8 → Bool} {n0 n1 n2 : Nat} {s : ByteArray}
set_option maxRecDepth 100000 in
theorem clo_c (hp : IsP n p) (hs : w.cell? ⟨sb, 0, none⟩ = some (.string s)) (hi : w.cell? ⟨ib, 0, none⟩ = some (.int .i64 i)) (h : i < s.size) :
    Calls Tryd.prog 54 #[FnV n, .pointer (some ⟨sb, 0, none⟩), .pointer (some ⟨ib, 0, none⟩)] w fun e w' => e = .returned (.bool (p s[i])) ∧ w = w' := by
  have HP := hid_ (hp.call s[i] w)
  have hen := hp.enter #[.int .u8 ((s[i].toNat : Nat) : Int)] w
  have b0 : (0 : Int) ≤ (i : Int) := by omega
  have b1 : (i : Int) < (s.size : Int) := by omega
  clear hp
  generalize p s[i] = b at *
  go_enter Tryd.func54, Tryd.ntmps54
  go_wp2_with fail
  refine HP.out.mono ?_
  rintro e w' ⟨rfl, rfl⟩
  go_wp2
  go_ret
  exact ⟨rfl, rfl⟩

set_option maxHeartbeats 1000000 in
set_option maxRecDepth 100000 in
theorem contains_c (h0 : IsP n0 p0) (h1 : IsP n1 p1) (h2 : IsP n2 p2) (c0 : w.cell? ⟨ob, 0, none⟩ = some (FnV n0)) (c1 : w.cell? ⟨ob, 1, none⟩ = some (FnV n1)) (c2 : w.cell? ⟨ob, 2, none⟩ = some (FnV n2))
    (hs : w.cell? ⟨sb, 0, none⟩ = some (.string s)) (hi : w.cell? ⟨ib, 0, none⟩ = some (.int .i64 i)) (h : i < s.size) :
    Calls Tryd.prog 53 #[.slice (some ⟨ob, 0, none⟩) 3 3, CloV sb ib] w fun e w' => e = .returned (.bool (p0 s[i] || p1 s[i] || p2 s[i])) ∧ w = w' := by
  have H0 := hid_ (clo_c h0 hs hi h)
  have H1 := hid_ (clo_c h1 hs hi h)
  have H2 := hid_ (clo_c h2 hs hi h)
  clear h0 h1 h2 hs hi
  generalize p0 s[i] = a0 at *
  generalize p1 s[i] = a1 at *
  generalize p2 s[i] = a2 at *
  have HI : Calls Tryd.prog 64 #[.slice (some ⟨ob, 0, none⟩) 3 3, CloV sb ib] w fun e w' => (∃ z : Int, e = .returned (.int .i64 z) ∧ decide (0 ≤ z) = (a0 || a1 || a2)) ∧ w = w' := by
    go_enter Tryd.func64, Tryd.ntmps64
    go_wp2_with fail
    go_loop [8] (fun v => ∃ k : Nat, v = .int .i64 k ∧ k ≤ 3 ∧ (0 < k → a0 = false) ∧ (1 < k → a1 = false) ∧ (2 < k → a2 = false)) (fun v => 3 - (intOf v).toNat)
    case atStart => exact ⟨0, rfl, by omega, fun h => by omega, fun h => by omega, fun h => by omega⟩
    case round =>
      obtain ⟨k, rfl, hk, e0, e1, e2⟩ := hrel
      have HE := hid_ (And.intro e0 (And.intro e1 e2))
      clear e0 e1 e2
      have hcs : k = 0 ∨ k = 1 ∨ k = 2 ∨ k = 3 := by omega
      rcases hcs with rfl | rfl | rfl | rfl
      · cases a0 with
        | true =>
          go_wp2_with fail
          refine H0.out.mono ?_
          rintro e w' ⟨rfl, rfl⟩
          go_wp2
          go_ret
          exact ⟨⟨0, rfl, rfl⟩, rfl⟩
        | false =>
          go_wp2_with fail
          refine H0.out.mono ?_
          rintro e w' ⟨rfl, rfl⟩
          go_wp2
          go_round
          case rel => exact ⟨1, by go_num, by omega, fun _ => by trivial, fun h => by omega, fun h => by omega⟩
          case measure => simp [intOf]
      · cases a1 with
        | true =>
          go_wp2_with fail
          refine H1.out.mono ?_
          rintro e w' ⟨rfl, rfl⟩
          go_wp2
          go_ret
          exact ⟨⟨1, rfl, by cases a0 <;> rfl⟩, rfl⟩
        | false =>
          go_wp2_with fail
          refine H1.out.mono ?_
          rintro e w' ⟨rfl, rfl⟩
          go_wp2
          go_round
          case rel => exact ⟨2, by go_num, by omega, fun _ => HE.out.1 (by omega), fun _ => by trivial, fun h => by omega⟩
          case measure => simp [intOf]
      · cases a2 with
        | true =>
          go_wp2_with fail
          refine H2.out.mono ?_
          rintro e w' ⟨rfl, rfl⟩
          go_wp2
          go_ret
          exact ⟨⟨2, rfl, by cases a0 <;> cases a1 <;> rfl⟩, rfl⟩
        | false =>
          go_wp2_with fail
          refine H2.out.mono ?_
          rintro e w' ⟨rfl, rfl⟩
          go_wp2
          go_round
          case rel => exact ⟨3, by go_num, by omega, fun _ => HE.out.1 (by omega), fun _ => HE.out.2.1 (by omega), fun _ => by trivial⟩
          case measure => simp [intOf]
      · have z0 := HE.out.1 (by omega)
        have z1 := HE.out.2.1 (by omega)
        have z2 := HE.out.2.2 (by omega)
        subst z0 z1 z2
        go_wp2
        go_ret
        exact ⟨⟨-1, rfl, by trivial⟩, rfl⟩
  have HX := hid_ HI
  clear HI H0 H1 H2
  generalize (a0 || a1 || a2) = b at *
  go_enter Tryd.func53, Tryd.ntmps53
  go_wp2_with fail
  refine HX.out.mono ?_
  rintro e w' ⟨⟨z, rfl, hz⟩, rfl⟩
  have HZ := hid_ hz
  clear hz
  go_wp2
  go_ret
  exact ⟨by rw [← HZ.out]; rfl, rfl⟩

set_option maxHeartbeats 2000000 in
set_option maxRecDepth 100000 in
theorem formed_c {nf : Nat} {pf : UInt8 → Bool} (hf : IsP nf pf) (h0 : IsP n0 p0) (h1 : IsP n1 p1) (h2 : IsP n2 p2) (c0 : w.cell? ⟨ob, 0, none⟩ = some (FnV n0)) (c1 : w.cell? ⟨ob, 1, none⟩ = some (FnV n1)) (c2 : w.cell? ⟨ob, 2, none⟩ = some (FnV n2)) (hsz : s.size ≤ 1000000000) :
    Calls Tryd.prog 34 #[.string s, FnV nf, .slice (some ⟨ob, 0, none⟩) 3 3] w fun e w' => e = .returned (.bool (Lx.formed (bl s) pf fun c => p0 c || p1 c || p2 c)) ∧ Below w.heap.size w w' := by
  have HF := hid_ hf
  have H012 := hid_ (And.intro h0 (And.intro h1 h2))
  have HC := hid_ (And.intro c0 (And.intro c1 c2))
  clear hf h0 h1 h2 c0 c1 c2
  by_cases hz : s.size = 0
  · have he : s.toList.isEmpty = true := by
      rw [ByteArray.toList_eq]
      have : s.data.toList = [] := List.eq_nil_of_length_eq_zero ((bl_len s).trans hz)
      rw [this]; rfl
    have hR := hid_ (show (Lx.formed (bl s) pf fun c => p0 c || p1 c || p2 c) = false from by
      have : bl s = [] := List.eq_nil_of_length_eq_zero (by have := bl_len s; omega)
      rw [this]; rfl)
    go_enter Tryd.func34, Tryd.ntmps34
    go_wp2
    go_ret
    exact ⟨by rw [hR.out]; rfl, (Below.refl _ _).alloc (Nat.le_refl _) _⟩
  · have h0' : 0 < s.size := by omega
    have he : s.toList.isEmpty = false := by
      rw [ByteArray.toList_eq]
      have := bl_drop s h0'
      rw [List.drop_zero] at this
      show (bl s).isEmpty = false
      rw [this]; rfl
    have HD := hid_ (show (Lx.formed (bl s) pf fun c => p0 c || p1 c || p2 c) = (decide (s.size ≤ 16) && pf s[0] && (bl s).all fun c => p0 c || p1 c || p2 c) from by
      have h3 := bl_drop s h0'
      rw [List.drop_zero] at h3
      unfold Lx.formed
      rw [h3]
      simp only
      rw [← h3, bl_len])
    by_cases hlong : 16 < (s.size : Int)
    · have hR := hid_ (show (Lx.formed (bl s) pf fun c => p0 c || p1 c || p2 c) = false from by
        rw [HD.out, decide_eq_false (by omega)]; rfl)
      go_enter Tryd.func34, Tryd.ntmps34
      go_wp2
      go_ret
      exact ⟨by rw [hR.out]; rfl, (Below.refl _ _).alloc (Nat.le_refl _) _⟩
    · have hb0 : (0 : Int) < (s.size : Int) := by omega
      have HP0 := hid_ (fun W => HF.out.call s[0] W)
      have hen := HF.out.enter #[.int .u8 ((s[0].toNat : Nat) : Int)] (w.alloc (.cells #[.string s] 9))
      have HD2 := hid_ (show (Lx.formed (bl s) pf fun c => p0 c || p1 c || p2 c) = (pf s[0] && (bl s).all fun c => p0 c || p1 c || p2 c) from by
        rw [HD.out, decide_eq_true (by omega)]; rfl)
      generalize hpf : pf s[0] = b0 at *
      cases b0 with
      | false =>
        go_enter Tryd.func34, Tryd.ntmps34
        go_wp2_with fail
        refine (HP0.out _).mono ?_
        rintro e w' ⟨rfl, rfl⟩
        go_wp2
        go_ret
        exact ⟨by rw [HD2.out]; rfl, (Below.refl _ _).alloc (Nat.le_refl _) _⟩
      | true =>
        clear hpf
        go_enter Tryd.func34, Tryd.ntmps34
        go_wp2_with fail
        refine (HP0.out _).mono ?_
        rintro e w' ⟨rfl, rfl⟩
        have HB1 := hid_ ((Below.refl w.heap.size w).alloc (Nat.le_refl _) (.cells #[.string s] 9))
        have HSb := hid_ (show (w.alloc (.cells #[.string s] 9)).cell? ⟨w.heap.size, 0, none⟩ = some (.string s) from by rw [World.cell?_alloc_at _ _ _ _ rfl]; rfl)
        have hlt1 : w.heap.size < (w.alloc (.cells #[.string s] 9)).heap.size := by simp
        have HL1 := hid_ hlt1
        clear hlt1
        generalize w.alloc (.cells #[.string s] 9) = w1 at *
        generalize hsb : w.heap.size = sb at *
        have xs0 := HSb.out
        have Hsb := hid_ hsb
        clear hsb
        go_wp2_with fail
        go_loopw [24] (fun v wr => ∃ k : Nat, v = .int .i64 k ∧ k ≤ s.size ∧ Below w1.heap.size w1 wr ∧ ∀ j (hj : j < s.size), j < k → (p0 s[j] || p1 s[j] || p2 s[j]) = true) (fun v _ => s.size - (intOf v).toNat)
        case atStart => exact ⟨0, rfl, by omega, Below.refl _ _, fun _ _ h => by omega⟩
        case round =>
          obtain ⟨k, rfl, hk, hb, hall⟩ := hrel
          have HB := hid_ hb
          have HA := hid_ hall
          have xs1 := below_cell hb HSb.out
          clear hb hall
          by_cases hlt : k < s.size
          · have b1 : (k : Int) < (s.size : Int) := by omega
            have b2 : (0 : Int) ≤ (k : Int) := by omega
            have HW := hid_ ((HB1.out.trans (HB.out.mono (by have := HL1.out; omega))))
            have hw2 : Below wr.heap.size wr (wr.alloc (.cells #[.int .i64 k] 3)) := (Below.refl _ _).alloc (Nat.le_refl _) _
            have HC2 := hid_ (contains_c (i := k) H012.out.1 H012.out.2.1 H012.out.2.2 (below_cell hw2 (below_cell (Hsb.out ▸ HW.out) HC.out.1)) (below_cell hw2 (below_cell (Hsb.out ▸ HW.out) HC.out.2.1)) (below_cell hw2 (below_cell (Hsb.out ▸ HW.out) HC.out.2.2)) (below_cell hw2 (below_cell HB.out HSb.out)) (show (wr.alloc (.cells #[.int .i64 k] 3)).cell? ⟨wr.heap.size, 0, none⟩ = some (.int .i64 k) from by rw [World.cell?_alloc_at _ _ _ _ rfl]; rfl) hlt)
            have HB2 := hid_ (HB.out.alloc HB.out.size (.cells #[.int .i64 k] 3))
            have HT := hid_ (show (p0 s[k] || p1 s[k] || p2 s[k]) = false → ((bl s).all fun c => p0 c || p1 c || p2 c) = false from fun h => by
              rw [List.all_eq_false]
              refine ⟨s[k], List.getElem_mem (by rw [bl_len]; exact hlt), ?_⟩
              rw [h]; simp)
            have HA2 := hid_ (show (p0 s[k] || p1 s[k] || p2 s[k]) = true → ∀ j (hj : j < s.size), j < k + 1 → (p0 s[j] || p1 s[j] || p2 s[j]) = true from fun h j hj hjk => by
              by_cases e : j = k
              · subst e; exact h
              · exact HA.out j hj (by omega))
            generalize (p0 s[k] || p1 s[k] || p2 s[k]) = b at *
            cases b with
            | true =>
              go_wp2_with fail
              refine HC2.out.mono ?_
              rintro e w' ⟨rfl, rfl⟩
              go_wp2
              go_roundw
              case rel => exact ⟨k + 1, by go_num, by omega, HB2.out, HA2.out (by trivial)⟩
              case measure => simp [intOf]; omega
            | false =>
              go_wp2_with fail
              refine HC2.out.mono ?_
              rintro e w' ⟨rfl, rfl⟩
              go_wp2
              go_ret
              exact ⟨by rw [HD2.out, HT.out (by trivial)]; rfl, by rw [Hsb.out]; exact HB1.out.trans (HB2.out.mono (by have := HL1.out; omega))⟩
          · have b1 : ¬ (k : Int) < (s.size : Int) := by omega
            have HT := hid_ (show ((bl s).all fun c => p0 c || p1 c || p2 c) = true from by
              rw [List.all_eq_true]
              intro x hx
              obtain ⟨j, hj, rfl⟩ := List.mem_iff_getElem.1 hx
              rw [bl_len] at hj
              exact HA.out j hj (by omega))
            go_wp2
            go_ret
            exact ⟨by rw [HD2.out, HT.out]; rfl, by rw [Hsb.out]; exact HB1.out.trans (HB.out.mono (by have := HL1.out; omega))⟩
end
theorem isP_small : IsP 36 Lx.small := ⟨lex_small, fun _ _ => by kernel_rfl⟩
theorem isP_great : IsP 35 Lx.great := ⟨lex_great, fun _ _ => by kernel_rfl⟩
theorem isP_digit : IsP 37 Lx.digit := ⟨lex_digit, fun _ _ => by kernel_rfl⟩
theorem isP_score : IsP 52 Lx.score := ⟨lex_score, fun _ _ => by kernel_rfl⟩

set_option maxHeartbeats 1000000 in
set_option maxRecDepth 100000 in
theorem lex_tagged (w : World) (s : ByteArray) (hsz : s.size ≤ 1000000000) : Calls Tryd.prog 32 #[.string s] w fun e w' => e = .returned (.bool (Lx.tagged (bl s))) ∧ Below w.heap.size w w' := by
  have hB := Blk.new w 53 #[FnV 36, FnV 37, FnV 52]
  have HC := hid_ (formed_c (s := s) isP_small isP_small isP_digit isP_score (hB.cell 0) (hB.cell 1) (hB.cell 2) hsz)
  have HB := hid_ ((Below.refl w.heap.size w).alloc (Nat.le_refl _) (.cells #[FnV 36, FnV 37, FnV 52] 53))
  have e1 : (Lx.formed (bl s) Lx.small fun c => Lx.small c || Lx.digit c || Lx.score c) = Lx.tagged (bl s) := rfl
  rw [e1] at HC
  clear e1 hB
  generalize Lx.tagged (bl s) = b at *
  go_enter Tryd.func32, Tryd.ntmps32
  go_wp2_with fail
  refine HC.out.mono ?_
  rintro e w' ⟨rfl, hb⟩
  have HX := hid_ (HB.out.trans (hb.mono HB.out.size))
  clear hb HC
  go_wp2
  go_ret
  exact ⟨rfl, HX.out⟩
set_option maxHeartbeats 1000000 in
set_option maxRecDepth 100000 in
theorem lex_IsType (w : World) (s : ByteArray) (hsz : s.size ≤ 1000000000) : Calls Tryd.prog 17 #[.string s] w fun e w' => e = .returned (.bool (Lx.isType (bl s))) ∧ Below w.heap.size w w' := by
  have hB := Blk.new w 53 #[FnV 36, FnV 35, FnV 37]
  have HC := hid_ (formed_c (s := s) isP_great isP_small isP_great isP_digit (hB.cell 0) (hB.cell 1) (hB.cell 2) hsz)
  have HB := hid_ ((Below.refl w.heap.size w).alloc (Nat.le_refl _) (.cells #[FnV 36, FnV 35, FnV 37] 53))
  have e1 : (Lx.formed (bl s) Lx.great fun c => Lx.small c || Lx.great c || Lx.digit c) = Lx.isType (bl s) := rfl
  rw [e1] at HC
  clear e1 hB
  generalize Lx.isType (bl s) = b at *
  go_enter Tryd.func17, Tryd.ntmps17
  go_wp2_with fail
  refine HC.out.mono ?_
  rintro e w' ⟨rfl, hb⟩
  have HX := hid_ (HB.out.trans (hb.mono HB.out.size))
  clear hb HC
  go_wp2
  go_ret
  exact ⟨rfl, HX.out⟩
set_option maxHeartbeats 1000000 in
set_option maxRecDepth 100000 in
theorem lex_IsName {w : World} (h : Env w) (s : ByteArray) (hsz : s.size ≤ 1000000000) : Calls Tryd.prog 15 #[.string s] w fun e w' => e = .returned (.bool (Lx.isName (bl s))) ∧ Below w.heap.size w w' := by
  have HT := hid_ (lex_tagged w s hsz)
  have HK := hid_ (fun W (hb : Below w.heap.size w W) => lex_IsKey (h.below hb) s)
  have e1 : Lx.isName (bl s) = (Lx.tagged (bl s) && !Lx.isKey (bl s)) := rfl
  rw [e1]
  clear e1 h
  generalize Lx.tagged (bl s) = a at *
  generalize Lx.isKey (bl s) = b at *
  cases a with
  | false =>
    go_enter Tryd.func15, Tryd.ntmps15
    go_wp2_with fail
    refine HT.out.mono ?_
    rintro e w' ⟨rfl, hb⟩
    have HX := hid_ hb
    clear hb
    go_wp2
    go_ret
    exact ⟨rfl, HX.out⟩
  | true =>
    go_enter Tryd.func15, Tryd.ntmps15
    go_wp2_with fail
    refine HT.out.mono ?_
    rintro e w1 ⟨rfl, hb⟩
    have HX := hid_ hb
    clear hb
    go_wp2_with fail
    refine (HK.out _ HX.out).mono ?_
    rintro e w' ⟨rfl, rfl⟩
    go_wp2
    go_ret
    exact ⟨rfl, HX.out⟩
end Go.Proofs.YtmpdobpnnejmmaaDoor
