/- What stands in these texts of the proof: Ha Hb. Conditions: those that each theorem names. -/
import Derived.Test.YtmgjmagniefhoaaGreatDoorAa20
import Derived.Test.YtmgjmagniefhoaaGreatDoorAa24
/- Rows, copied: slices.Clone, CopyTexts, CopyInts. Conditions: those that each theorem names. -/
namespace Go.Proofs.YtmgjmagniefhoaaGreatDoor
open Go.RowKit Go.Maps
/-- A row, wherever it lies; of nil there is nothing. -/
def RowZ (w : World) (v : Value) (n : Nat) (xs : List Value) : Prop := RowAt w v n xs ∧ ∀ n c, v = .slice none n c → c = 0
section
variable {w w' : World}
theorem RowZ.below {v : Value} {n : Nat} {xs : List Value} (h : RowZ w v n xs) (hb : Below w.heap.size w w') : RowZ w' v n xs := ⟨h.1.below hb, h.2⟩
theorem RowZ.of {base : Nat} {e : TypeId} {sz n : Nat} {v : Value} {xs : List Value} (h : w.ownsRow base e sz v n xs) : RowZ w v n xs := by
  refine ⟨RowAt.of h, fun n' c e => ?_⟩
  rcases h.2 with ⟨hv, _⟩ | ⟨g, cap, cur, hv, _⟩
  · rw [hv] at e
    injection e with _ _ e
    exact e.symm
  · rw [hv] at e
    cases e
theorem RowZ.form {v : Value} {n : Nat} {xs : List Value} (h : RowZ w v n xs) : (v = .slice none 0 0 ∧ n = 0) ∨ ∃ b off c, v = .slice (some ⟨b, off, none⟩) n c ∧ ∀ j u, xs[j]? = some u → w.cell? ⟨b, off + j, none⟩ = some u := by
  obtain ⟨⟨A, c, rfl, h0, h1⟩, h2⟩ := h
  cases A with
  | none =>
    obtain rfl := h0 rfl
    obtain rfl := h2 _ _ rfl
    exact .inl ⟨rfl, rfl⟩
  | some a =>
    obtain ⟨b, off, q⟩ := a
    obtain ⟨rfl, h3⟩ := h1 b off q rfl
    exact .inr ⟨b, off, c, rfl, h3⟩
theorem news_at {b off : Nat} {xs : List Value} (h : ∀ j u, xs[j]? = some u → w.cell? ⟨b, off + j, none⟩ = some u) : ∀ ad, some (⟨b, off, none⟩ : Addr) = some ad → ∀ j u, xs[j]? = some u → w.cell? (ad.add j) = some u := by
  intro ad had j u hu
  injection had with had
  subst had
  rw [show (⟨b, off, none⟩ : Addr).add j = ⟨b, off + j, none⟩ by unfold Addr.add; split <;> simp_all]
  exact h j u hu
/-- A row that is read whole, wherever it lies; of nothing there is nothing. -/
def RowZ0 (w : World) (v : Value) (n : Nat) (xs : List Value) : Prop := ∃ A c, v = .slice A n c ∧ (A = none → n = 0 ∧ c = 0) ∧ ∀ ad, A = some ad → ∀ j u, xs[j]? = some u → w.cell? (ad.add j) = some u
theorem RowZ.weak {v : Value} {n : Nat} {xs : List Value} (h : RowZ w v n xs) : RowZ0 w v n xs := by
  rcases h.form with ⟨rfl, rfl⟩ | ⟨b, off, c, rfl, hc⟩
  · exact ⟨none, 0, rfl, fun _ => ⟨rfl, rfl⟩, fun _ h => by cases h⟩
  · exact ⟨_, c, rfl, (fun h => by cases h), news_at hc⟩
theorem RowZ0.below {v : Value} {n : Nat} {xs : List Value} (h : RowZ0 w v n xs) (hb : Below w.heap.size w w') : RowZ0 w' v n xs := by
  obtain ⟨A, c, e, h0, h1⟩ := h
  exact ⟨A, c, e, h0, fun ad ha j u hu => below_cell hb (h1 ad ha j u hu)⟩
theorem RowZ0.form {v : Value} {n : Nat} {xs : List Value} (h : RowZ0 w v n xs) : ∃ A c, v = .slice A n c := by
  obtain ⟨A, c, e, _⟩ := h
  exact ⟨A, c, e⟩
theorem news_alloc {b off : Nat} {xs : List Value} (h : ∀ j u, xs[j]? = some u → w.cell? ⟨b, off + j, none⟩ = some u) (o : Obj) : ∀ j u, xs[j]? = some u → (w.alloc o).cell? ⟨b, off + j, none⟩ = some u := fun j u hu => below_cell (below_alloc w o) (h j u hu)

set_option maxHeartbeats 1000000 in
set_option maxRecDepth 100000 in
theorem cloneStr_c {v : Value} {n : Nat} {xs : List Value} (h : RowZ w v n xs) (hl : xs.length = n * 1) (h1 : ∀ u ∈ xs, u.oneCell' = true) (hn : n * 16 ≤ 140737488355328) :
    Calls Tryz.prog 46 #[v] w fun e w' => ∃ v', e = .returned v' ∧ w'.ownsRow w.heap.size 9 1 v' n xs ∧ Below w.heap.size w w' := by
  obtain ⟨i0, hi0, hz0, hz1, hz2⟩ := info_parts Tryz.infoS
  have qT : ∀ (w : World) (a : Option Addr) (n c n' c' : Nat), (binOp .eql 26 (.slice a n c) (.slice none n' c')).run Tryz.prog w = .ok (.bool a.isNone) w := fun w a n c n' c' => Lib.run_eql_slice_nil w _ _ a n c n' c' Tryz.underlying26
  rcases h.form with ⟨rfl, rfl⟩ | ⟨b, off, c, rfl, hc⟩
  · have hx : xs = [] := List.eq_nil_of_length_eq_zero (by simpa using hl)
    subst hx
    clear h h1
    go_enter Tryz.func46, Tryz.ntmps46
    go_wp2_with fail
    go_ret
    exact ⟨_, rfl, World.ownsRow_nil _ _ _ _, Below.refl _ _⟩
  · have HN := hid_ (news_at (news_alloc hc (.cells #[] 9)))
    have H1 := hid_ h1
    have HL := hid_ hl
    have HM := hid_ (show 0 + n ≤ maxLen by unfold maxLen; omega)
    have HO := hid_ (show (w.alloc (.cells #[] 9)).ownsRow w.heap.size 9 1 (.slice (some ⟨w.heap.size, 0, none⟩) 0 0) 0 [] from ⟨rfl, .inr ⟨w.heap.size, 0, #[], rfl, Nat.le_refl _, heap_alloc_new w _, Nat.le_refl _, Nat.zero_le _, rfl, rfl⟩⟩)
    clear h hc h1 hl
    go_enter Tryz.func46, Tryz.ntmps46
    go_wp2_with (first | (at_builtin; refine wpList_append_any rfl (.tmp 5) (.tmp 6) 26 rfl w.heap.size 9 i0 _ 1 16 Tryz.underlying26 hi0 hz0 hz1 hz2 rfl (by omega) (.slice (some ⟨w.heap.size, 0, none⟩) 0 0) 0 [] rfl HO.out (some ⟨b, off, none⟩) n c xs rfl HL.out (fun h => by cases h) HN.out H1.out HM.out (by omega) (by simp) ?_; intro A1 c1 w1 hown1 hgrow1 hat; simp only [Nat.zero_add, List.nil_append] at hown1))
    go_ret
    refine ⟨_, rfl, by simpa using hown1, (Below.refl _ _).alloc (Nat.le_refl _) _ |>.grown hgrow1 (by simp) (fun k hk => ?_)⟩
    simp [Value.ownBlock] at hk
    omega

set_option maxHeartbeats 1000000 in
set_option maxRecDepth 100000 in
theorem cloneDecl_c {v : Value} {n : Nat} {xs : List Value} (h : RowZ w v n xs) (hl : xs.length = n * 2) (h1 : ∀ u ∈ xs, u.oneCell' = true) (hn : n * 24 ≤ 140737488355328) :
    Calls Tryz.prog 47 #[v] w fun e w' => ∃ v', e = .returned v' ∧ w'.ownsRow w.heap.size 59 2 v' n xs ∧ Below w.heap.size w w' := by
  obtain ⟨i0, hi0, hz0, hz1, hz2⟩ := info_parts Tryz.infoD
  have qT : ∀ (w : World) (a : Option Addr) (n c n' c' : Nat), (binOp .eql 27 (.slice a n c) (.slice none n' c')).run Tryz.prog w = .ok (.bool a.isNone) w := fun w a n c n' c' => Lib.run_eql_slice_nil w _ _ a n c n' c' Tryz.underlying27
  rcases h.form with ⟨rfl, rfl⟩ | ⟨b, off, c, rfl, hc⟩
  · have hx : xs = [] := List.eq_nil_of_length_eq_zero (by simpa using hl)
    subst hx
    clear h h1
    go_enter Tryz.func47, Tryz.ntmps47
    go_wp2_with fail
    go_ret
    exact ⟨_, rfl, World.ownsRow_nil _ _ _ _, Below.refl _ _⟩
  · have HN := hid_ (news_at (news_alloc hc (.cells #[] 59)))
    have H1 := hid_ h1
    have HL := hid_ hl
    have HM := hid_ (show 0 + n ≤ maxLen by unfold maxLen; omega)
    have HO := hid_ (show (w.alloc (.cells #[] 59)).ownsRow w.heap.size 59 2 (.slice (some ⟨w.heap.size, 0, none⟩) 0 0) 0 [] from ⟨rfl, .inr ⟨w.heap.size, 0, #[], rfl, Nat.le_refl _, heap_alloc_new w _, Nat.le_refl _, Nat.zero_le _, rfl, rfl⟩⟩)
    clear h hc h1 hl
    go_enter Tryz.func47, Tryz.ntmps47
    go_wp2_with (first | (at_builtin; refine wpList_append_any rfl (.tmp 5) (.tmp 6) 27 rfl w.heap.size 59 i0 _ 2 24 Tryz.underlying27 hi0 hz0 hz1 hz2 rfl (by omega) (.slice (some ⟨w.heap.size, 0, none⟩) 0 0) 0 [] rfl HO.out (some ⟨b, off, none⟩) n c xs rfl HL.out (fun h => by cases h) HN.out H1.out HM.out (by omega) (by simp) ?_; intro A1 c1 w1 hown1 hgrow1 hat; simp only [Nat.zero_add, List.nil_append] at hown1))
    go_ret
    refine ⟨_, rfl, by simpa using hown1, (Below.refl _ _).alloc (Nat.le_refl _) _ |>.grown hgrow1 (by simp) (fun k hk => ?_)⟩
    simp [Value.ownBlock] at hk
    omega

set_option maxHeartbeats 1000000 in
set_option maxRecDepth 100000 in
theorem cloneFn_c {v : Value} {n : Nat} {xs : List Value} (h : RowZ w v n xs) (hl : xs.length = n * 5) (h1 : ∀ u ∈ xs, u.oneCell' = true) (hn : n * 80 ≤ 140737488355328) :
    Calls Tryz.prog 48 #[v] w fun e w' => ∃ v', e = .returned v' ∧ w'.ownsRow w.heap.size 54 5 v' n xs ∧ Below w.heap.size w w' := by
  obtain ⟨i0, hi0, hz0, hz1, hz2⟩ := info_parts Tryz.infoF
  have qT : ∀ (w : World) (a : Option Addr) (n c n' c' : Nat), (binOp .eql 28 (.slice a n c) (.slice none n' c')).run Tryz.prog w = .ok (.bool a.isNone) w := fun w a n c n' c' => Lib.run_eql_slice_nil w _ _ a n c n' c' Tryz.underlying28
  rcases h.form with ⟨rfl, rfl⟩ | ⟨b, off, c, rfl, hc⟩
  · have hx : xs = [] := List.eq_nil_of_length_eq_zero (by simpa using hl)
    subst hx
    clear h h1
    go_enter Tryz.func48, Tryz.ntmps48
    go_wp2_with fail
    go_ret
    exact ⟨_, rfl, World.ownsRow_nil _ _ _ _, Below.refl _ _⟩
  · have HN := hid_ (news_at (news_alloc hc (.cells #[] 54)))
    have H1 := hid_ h1
    have HL := hid_ hl
    have HM := hid_ (show 0 + n ≤ maxLen by unfold maxLen; omega)
    have HO := hid_ (show (w.alloc (.cells #[] 54)).ownsRow w.heap.size 54 5 (.slice (some ⟨w.heap.size, 0, none⟩) 0 0) 0 [] from ⟨rfl, .inr ⟨w.heap.size, 0, #[], rfl, Nat.le_refl _, heap_alloc_new w _, Nat.le_refl _, Nat.zero_le _, rfl, rfl⟩⟩)
    clear h hc h1 hl
    go_enter Tryz.func48, Tryz.ntmps48
    go_wp2_with (first | (at_builtin; refine wpList_append_any rfl (.tmp 5) (.tmp 6) 28 rfl w.heap.size 54 i0 _ 5 80 Tryz.underlying28 hi0 hz0 hz1 hz2 rfl (by omega) (.slice (some ⟨w.heap.size, 0, none⟩) 0 0) 0 [] rfl HO.out (some ⟨b, off, none⟩) n c xs rfl HL.out (fun h => by cases h) HN.out H1.out HM.out (by omega) (by simp) ?_; intro A1 c1 w1 hown1 hgrow1 hat; simp only [Nat.zero_add, List.nil_append] at hown1))
    go_ret
    refine ⟨_, rfl, by simpa using hown1, (Below.refl _ _).alloc (Nat.le_refl _) _ |>.grown hgrow1 (by simp) (fun k hk => ?_)⟩
    simp [Value.ownBlock] at hk
    omega

set_option maxHeartbeats 1000000 in
set_option maxRecDepth 100000 in
theorem cloneNode_c {v : Value} {n : Nat} {xs : List Value} (h : RowZ w v n xs) (hl : xs.length = n * 6) (h1 : ∀ u ∈ xs, u.oneCell' = true) (hn : n * 96 ≤ 140737488355328) :
    Calls Tryz.prog 49 #[v] w fun e w' => ∃ v', e = .returned v' ∧ w'.ownsRow w.heap.size 57 6 v' n xs ∧ Below w.heap.size w w' := by
  obtain ⟨i0, hi0, hz0, hz1, hz2⟩ := info_parts Tryz.infoN
  have qT : ∀ (w : World) (a : Option Addr) (n c n' c' : Nat), (binOp .eql 29 (.slice a n c) (.slice none n' c')).run Tryz.prog w = .ok (.bool a.isNone) w := fun w a n c n' c' => Lib.run_eql_slice_nil w _ _ a n c n' c' Tryz.underlying29
  rcases h.form with ⟨rfl, rfl⟩ | ⟨b, off, c, rfl, hc⟩
  · have hx : xs = [] := List.eq_nil_of_length_eq_zero (by simpa using hl)
    subst hx
    clear h h1
    go_enter Tryz.func49, Tryz.ntmps49
    go_wp2_with fail
    go_ret
    exact ⟨_, rfl, World.ownsRow_nil _ _ _ _, Below.refl _ _⟩
  · have HN := hid_ (news_at (news_alloc hc (.cells #[] 57)))
    have H1 := hid_ h1
    have HL := hid_ hl
    have HM := hid_ (show 0 + n ≤ maxLen by unfold maxLen; omega)
    have HO := hid_ (show (w.alloc (.cells #[] 57)).ownsRow w.heap.size 57 6 (.slice (some ⟨w.heap.size, 0, none⟩) 0 0) 0 [] from ⟨rfl, .inr ⟨w.heap.size, 0, #[], rfl, Nat.le_refl _, heap_alloc_new w _, Nat.le_refl _, Nat.zero_le _, rfl, rfl⟩⟩)
    clear h hc h1 hl
    go_enter Tryz.func49, Tryz.ntmps49
    go_wp2_with (first | (at_builtin; refine wpList_append_any rfl (.tmp 5) (.tmp 6) 29 rfl w.heap.size 57 i0 _ 6 96 Tryz.underlying29 hi0 hz0 hz1 hz2 rfl (by omega) (.slice (some ⟨w.heap.size, 0, none⟩) 0 0) 0 [] rfl HO.out (some ⟨b, off, none⟩) n c xs rfl HL.out (fun h => by cases h) HN.out H1.out HM.out (by omega) (by simp) ?_; intro A1 c1 w1 hown1 hgrow1 hat; simp only [Nat.zero_add, List.nil_append] at hown1))
    go_ret
    refine ⟨_, rfl, by simpa using hown1, (Below.refl _ _).alloc (Nat.le_refl _) _ |>.grown hgrow1 (by simp) (fun k hk => ?_)⟩
    simp [Value.ownBlock] at hk
    omega

set_option maxHeartbeats 1000000 in
set_option maxRecDepth 100000 in
theorem cloneVar_c {v : Value} {n : Nat} {xs : List Value} (h : RowZ w v n xs) (hl : xs.length = n * 2) (h1 : ∀ u ∈ xs, u.oneCell' = true) (hn : n * 24 ≤ 140737488355328) :
    Calls Tryz.prog 50 #[v] w fun e w' => ∃ v', e = .returned v' ∧ w'.ownsRow w.heap.size 67 2 v' n xs ∧ Below w.heap.size w w' := by
  obtain ⟨i0, hi0, hz0, hz1, hz2⟩ := info_parts Tryz.infoV
  have qT : ∀ (w : World) (a : Option Addr) (n c n' c' : Nat), (binOp .eql 52 (.slice a n c) (.slice none n' c')).run Tryz.prog w = .ok (.bool a.isNone) w := fun w a n c n' c' => Lib.run_eql_slice_nil w _ _ a n c n' c' Tryz.underlying52
  rcases h.form with ⟨rfl, rfl⟩ | ⟨b, off, c, rfl, hc⟩
  · have hx : xs = [] := List.eq_nil_of_length_eq_zero (by simpa using hl)
    subst hx
    clear h h1
    go_enter Tryz.func50, Tryz.ntmps50
    go_wp2_with fail
    go_ret
    exact ⟨_, rfl, World.ownsRow_nil _ _ _ _, Below.refl _ _⟩
  · have HN := hid_ (news_at (news_alloc hc (.cells #[] 67)))
    have H1 := hid_ h1
    have HL := hid_ hl
    have HM := hid_ (show 0 + n ≤ maxLen by unfold maxLen; omega)
    have HO := hid_ (show (w.alloc (.cells #[] 67)).ownsRow w.heap.size 67 2 (.slice (some ⟨w.heap.size, 0, none⟩) 0 0) 0 [] from ⟨rfl, .inr ⟨w.heap.size, 0, #[], rfl, Nat.le_refl _, heap_alloc_new w _, Nat.le_refl _, Nat.zero_le _, rfl, rfl⟩⟩)
    clear h hc h1 hl
    go_enter Tryz.func50, Tryz.ntmps50
    go_wp2_with (first | (at_builtin; refine wpList_append_any rfl (.tmp 5) (.tmp 6) 52 rfl w.heap.size 67 i0 _ 2 24 Tryz.underlying52 hi0 hz0 hz1 hz2 rfl (by omega) (.slice (some ⟨w.heap.size, 0, none⟩) 0 0) 0 [] rfl HO.out (some ⟨b, off, none⟩) n c xs rfl HL.out (fun h => by cases h) HN.out H1.out HM.out (by omega) (by simp) ?_; intro A1 c1 w1 hown1 hgrow1 hat; simp only [Nat.zero_add, List.nil_append] at hown1))
    go_ret
    refine ⟨_, rfl, by simpa using hown1, (Below.refl _ _).alloc (Nat.le_refl _) _ |>.grown hgrow1 (by simp) (fun k hk => ?_)⟩
    simp [Value.ownBlock] at hk
    omega

set_option maxHeartbeats 1000000 in
set_option maxRecDepth 100000 in
theorem cloneInt_c {v : Value} {n : Nat} {xs : List Value} (h : RowZ w v n xs) (hl : xs.length = n * 1) (h1 : ∀ u ∈ xs, u.oneCell' = true) (hn : n * 8 ≤ 140737488355328) :
    Calls Tryz.prog 51 #[v] w fun e w' => ∃ v', e = .returned v' ∧ w'.ownsRow w.heap.size 3 1 v' n xs ∧ Below w.heap.size w w' := by
  obtain ⟨i0, hi0, hz0, hz1, hz2⟩ := info_parts Tryz.infoI
  have qT : ∀ (w : World) (a : Option Addr) (n c n' c' : Nat), (binOp .eql 22 (.slice a n c) (.slice none n' c')).run Tryz.prog w = .ok (.bool a.isNone) w := fun w a n c n' c' => Lib.run_eql_slice_nil w _ _ a n c n' c' Tryz.underlying22
  rcases h.form with ⟨rfl, rfl⟩ | ⟨b, off, c, rfl, hc⟩
  · have hx : xs = [] := List.eq_nil_of_length_eq_zero (by simpa using hl)
    subst hx
    clear h h1
    go_enter Tryz.func51, Tryz.ntmps51
    go_wp2_with fail
    go_ret
    exact ⟨_, rfl, World.ownsRow_nil _ _ _ _, Below.refl _ _⟩
  · have HN := hid_ (news_at (news_alloc hc (.cells #[] 3)))
    have H1 := hid_ h1
    have HL := hid_ hl
    have HM := hid_ (show 0 + n ≤ maxLen by unfold maxLen; omega)
    have HO := hid_ (show (w.alloc (.cells #[] 3)).ownsRow w.heap.size 3 1 (.slice (some ⟨w.heap.size, 0, none⟩) 0 0) 0 [] from ⟨rfl, .inr ⟨w.heap.size, 0, #[], rfl, Nat.le_refl _, heap_alloc_new w _, Nat.le_refl _, Nat.zero_le _, rfl, rfl⟩⟩)
    clear h hc h1 hl
    go_enter Tryz.func51, Tryz.ntmps51
    go_wp2_with (first | (at_builtin; refine wpList_append_any rfl (.tmp 5) (.tmp 6) 22 rfl w.heap.size 3 i0 _ 1 8 Tryz.underlying22 hi0 hz0 hz1 hz2 rfl (by omega) (.slice (some ⟨w.heap.size, 0, none⟩) 0 0) 0 [] rfl HO.out (some ⟨b, off, none⟩) n c xs rfl HL.out (fun h => by cases h) HN.out H1.out HM.out (by omega) (by simp) ?_; intro A1 c1 w1 hown1 hgrow1 hat; simp only [Nat.zero_add, List.nil_append] at hown1))
    go_ret
    refine ⟨_, rfl, by simpa using hown1, (Below.refl _ _).alloc (Nat.le_refl _) _ |>.grown hgrow1 (by simp) (fun k hk => ?_)⟩
    simp [Value.ownBlock] at hk
    omega

set_option maxHeartbeats 1000000 in
set_option maxRecDepth 100000 in
theorem copyTexts_c {v : Value} {n : Nat} {xs : List Value} (h : RowZ0 w v n xs) (hl : xs.length = n * 1) (h1 : ∀ u ∈ xs, u.oneCell' = true) (hn : n * 16 ≤ 140737488355328) :
    Calls Tryz.prog 44 #[v] w fun e w' => ∃ v', e = .returned v' ∧ w'.ownsRow w.heap.size 9 1 v' n xs ∧ Below w.heap.size w w' := by
  obtain ⟨i0, hi0, hz0, hz1, hz2⟩ := info_parts Tryz.infoS
  obtain ⟨A, c, hA, h0, hN⟩ := h
  subst hA
  have HN := hid_ hN
  have H1 := hid_ h1
  have HL := hid_ hl
  have H0 := hid_ h0
  have HM := hid_ (show 0 + n ≤ maxLen by unfold maxLen; omega)
  clear hN h1 hl h0
  go_enter Tryz.func44, Tryz.ntmps44
  go_wp2_with (first | (at_builtin; refine wpList_append_any rfl (.tmp 4) (.tmp 5) 26 rfl w.heap.size 9 i0 _ 1 16 Tryz.underlying26 hi0 hz0 hz1 hz2 rfl (by omega) (.slice none 0 0) 0 [] rfl (World.ownsRow_nil _ _ _ _) A n c xs rfl HL.out H0.out HN.out H1.out HM.out (by omega) (Nat.le_refl _) ?_; intro A1 c1 w1 hown1 hgrow1 hat; simp only [Nat.zero_add, List.nil_append] at hown1))
  go_ret
  refine ⟨_, rfl, by simpa using hown1, (Below.refl _ _).grown hgrow1 (Nat.le_refl _) (fun k hk => by cases hk)⟩

set_option maxHeartbeats 1000000 in
set_option maxRecDepth 100000 in
theorem copyInts_c {v : Value} {n : Nat} {xs : List Value} (h : RowZ0 w v n xs) (hl : xs.length = n * 1) (h1 : ∀ u ∈ xs, u.oneCell' = true) (hn : n * 8 ≤ 140737488355328) :
    Calls Tryz.prog 45 #[v] w fun e w' => ∃ v', e = .returned v' ∧ w'.ownsRow w.heap.size 3 1 v' n xs ∧ Below w.heap.size w w' := by
  obtain ⟨i0, hi0, hz0, hz1, hz2⟩ := info_parts Tryz.infoI
  obtain ⟨A, c, hA, h0, hN⟩ := h
  subst hA
  have HN := hid_ hN
  have H1 := hid_ h1
  have HL := hid_ hl
  have H0 := hid_ h0
  have HM := hid_ (show 0 + n ≤ maxLen by unfold maxLen; omega)
  clear hN h1 hl h0
  go_enter Tryz.func45, Tryz.ntmps45
  go_wp2_with (first | (at_builtin; refine wpList_append_any rfl (.tmp 4) (.tmp 5) 22 rfl w.heap.size 3 i0 _ 1 8 Tryz.underlying22 hi0 hz0 hz1 hz2 rfl (by omega) (.slice none 0 0) 0 [] rfl (World.ownsRow_nil _ _ _ _) A n c xs rfl HL.out H0.out HN.out H1.out HM.out (by omega) (Nat.le_refl _) ?_; intro A1 c1 w1 hown1 hgrow1 hat; simp only [Nat.zero_add, List.nil_append] at hown1))
  go_ret
  refine ⟨_, rfl, by simpa using hown1, (Below.refl _ _).grown hgrow1 (Nat.le_refl _) (fun k hk => by cases hk)⟩

end
end Go.Proofs.YtmgjmagniefhoaaGreatDoor

/- Modules in memory of a call's own; a copy under way. Conditions: those that each theorem names. -/
namespace Go.Proofs.YtmgjmagniefhoaaGreatDoor
open Go.RowKit Go.Maps
abbrev Nx := Tr.Nd × Value × Value
/-- No row takes more than memory bears. -/
structure MdZ (m : Tr.Md) : Prop where
  im : m.imports.length * 16 ≤ 140737488351232
  ty : m.types.length * 24 ≤ 140737488351232
  fn : m.fns.length * 80 ≤ 140737488351232
  nd : m.nodes.length * 96 ≤ 140737488351232
  fb : ∀ x ∈ m.fns, x.vars.length * 24 ≤ 140737488351232 ∧ x.params.length * 24 ≤ 140737488351232
  nb : ∀ x ∈ m.nodes, x.keys.length * 16 ≤ 140737488351232 ∧ x.l.length * 8 ≤ 140737488351232
theorem MdZ.s {m : Tr.Md} (h : MdZ m) : MdS m :=
  ⟨by have := h.im; omega, by have := h.ty; omega, by have := h.fn; omega, by have := h.nd; omega, fun x hx => by have := h.fb x hx; omega, fun x hx => by have := h.nb x hx; omega⟩
/-- A module, wherever it lies, by its rows. -/
structure MZ (w : World) (iv tv fv nv : Value) (m : Tr.Md) (fx : List Fx) (nx : List Nx) : Prop where
  sz : MdZ m
  fe : fx.map (·.1) = m.fns
  ne : nx.map (·.1) = m.nodes
  i : RowZ w iv m.imports.length (strs m.imports)
  t : RowZ w tv m.types.length (flatV m.types)
  f : RowZ w fv m.fns.length (flatF fx)
  n : RowZ w nv m.nodes.length (flatN nx)
  fo : ∀ x ∈ fx, RowZ w x.2.1 x.1.vars.length (flatV x.1.vars) ∧ RowZ w x.2.2 x.1.params.length (flatV x.1.params)
  no : ∀ x ∈ nx, RowZ w x.2.1 x.1.keys.length (strs x.1.keys) ∧ RowZ w x.2.2 x.1.l.length (ints x.1.l)
/-- A module, wherever it lies, its inner rows read whole. -/
structure MZ0 (w : World) (iv tv fv nv : Value) (m : Tr.Md) (fx : List Fx) (nx : List Nx) : Prop where
  sz : MdZ m
  fe : fx.map (·.1) = m.fns
  ne : nx.map (·.1) = m.nodes
  i : RowZ w iv m.imports.length (strs m.imports)
  t : RowZ w tv m.types.length (flatV m.types)
  f : RowZ w fv m.fns.length (flatF fx)
  n : RowZ w nv m.nodes.length (flatN nx)
  fo : ∀ x ∈ fx, RowZ0 w x.2.1 x.1.vars.length (flatV x.1.vars) ∧ RowZ0 w x.2.2 x.1.params.length (flatV x.1.params)
  no : ∀ x ∈ nx, RowZ0 w x.2.1 x.1.keys.length (strs x.1.keys) ∧ RowZ0 w x.2.2 x.1.l.length (ints x.1.l)
/-- A module whose rows lie in new memory. -/
structure Hi (base : Nat) (w : World) (iv tv fv nv : Value) (m : Tr.Md) (fx : List Fx) (nx : List Nx) : Prop where
  sz : MdZ m
  fe : fx.map (·.1) = m.fns
  ne : nx.map (·.1) = m.nodes
  i : w.ownsRow base 9 1 iv m.imports.length (strs m.imports)
  t : w.ownsRow base 59 2 tv m.types.length (flatV m.types)
  f : w.ownsRow base 54 5 fv m.fns.length (flatF fx)
  n : w.ownsRow base 57 6 nv m.nodes.length (flatN nx)
  fo : ∀ x ∈ fx, w.ownsRow base 67 2 x.2.1 x.1.vars.length (flatV x.1.vars) ∧ w.ownsRow base 67 2 x.2.2 x.1.params.length (flatV x.1.params)
  no : ∀ x ∈ nx, w.ownsRow base 9 1 x.2.1 x.1.keys.length (strs x.1.keys) ∧ w.ownsRow base 3 1 x.2.2 x.1.l.length (ints x.1.l)
def modV (nm iv tv fv nv : Value) : Value := .agg #[nm, iv, tv, fv, nv]
section
variable {w w' : World} {base : Nat} {iv tv fv nv : Value} {m : Tr.Md} {fx : List Fx} {nx : List Nx}
theorem MZ.below (h : MZ w iv tv fv nv m fx nx) (hb : Below w.heap.size w w') : MZ w' iv tv fv nv m fx nx :=
  ⟨h.sz, h.fe, h.ne, h.i.below hb, h.t.below hb, h.f.below hb, h.n.below hb, fun x hx => ⟨(h.fo x hx).1.below hb, (h.fo x hx).2.below hb⟩, fun x hx => ⟨(h.no x hx).1.below hb, (h.no x hx).2.below hb⟩⟩
theorem MZ0.below (h : MZ0 w iv tv fv nv m fx nx) (hb : Below w.heap.size w w') : MZ0 w' iv tv fv nv m fx nx :=
  ⟨h.sz, h.fe, h.ne, h.i.below hb, h.t.below hb, h.f.below hb, h.n.below hb, fun x hx => ⟨(h.fo x hx).1.below hb, (h.fo x hx).2.below hb⟩, fun x hx => ⟨(h.no x hx).1.below hb, (h.no x hx).2.below hb⟩⟩
theorem MZ.weak (h : MZ w iv tv fv nv m fx nx) : MZ0 w iv tv fv nv m fx nx :=
  ⟨h.sz, h.fe, h.ne, h.i, h.t, h.f, h.n, fun x hx => ⟨(h.fo x hx).1.weak, (h.fo x hx).2.weak⟩, fun x hx => ⟨(h.no x hx).1.weak, (h.no x hx).2.weak⟩⟩
theorem Hi.z (h : Hi base w iv tv fv nv m fx nx) : MZ w iv tv fv nv m fx nx :=
  ⟨h.sz, h.fe, h.ne, .of h.i, .of h.t, .of h.f, .of h.n, fun x hx => ⟨.of (h.fo x hx).1, .of (h.fo x hx).2⟩, fun x hx => ⟨.of (h.no x hx).1, .of (h.no x hx).2⟩⟩
theorem MZ.at_ (h : MZ w iv tv fv nv m fx nx) : ModAt w (.agg #[.string (st m.name), iv, tv, fv, nv]) m :=
  ⟨iv, tv, fv, nv, h.sz.s, rfl, h.i.1, h.t.1, ⟨fx, h.fe, h.f.1, fun x hx => ⟨(h.fo x hx).1.1, (h.fo x hx).2.1⟩⟩, nx, h.ne, h.n.1, fun x hx => ⟨(h.no x hx).1.1, (h.no x hx).2.1⟩⟩
/-- Writes to what lies lower, and new blocks, change nothing of it. -/
theorem Hi.kp {S : Nat → Prop} (h : Hi base w iv tv fv nv m fx nx) (hk : Kp S w w') (hS : ∀ q, S q → q < base ∨ w.heap.size ≤ q) : Hi base w' iv tv fv nv m fx nx := by
  have key : ∀ {e : TypeId} {sz n : Nat} {v : Value} {xs : List Value}, w.ownsRow base e sz v n xs → w'.ownsRow base e sz v n xs := fun h => own_kp h hk fun q hq hs => by
    have h1 := own_base h hq
    have h2 := own_lt h hq
    have := hS q hs
    omega
  exact ⟨h.sz, h.fe, h.ne, key h.i, key h.t, key h.f, key h.n, fun x hx => ⟨key (h.fo x hx).1, key (h.fo x hx).2⟩, fun x hx => ⟨key (h.no x hx).1, key (h.no x hx).2⟩⟩
theorem Hi.below (h : Hi base w iv tv fv nv m fx nx) (hb : Below w.heap.size w w') : Hi base w' iv tv fv nv m fx nx := h.kp (Kp.of_below hb fun _ => False) (fun _ h => h.elim)
theorem Hi.base_ {base' : Nat} (h : Hi base w iv tv fv nv m fx nx) (hb : base' ≤ base) : Hi base' w iv tv fv nv m fx nx :=
  ⟨h.sz, h.fe, h.ne, ownsRow_base h.i hb, ownsRow_base h.t hb, ownsRow_base h.f hb, ownsRow_base h.n hb, fun x hx => ⟨ownsRow_base (h.fo x hx).1 hb, ownsRow_base (h.fo x hx).2 hb⟩, fun x hx => ⟨ownsRow_base (h.no x hx).1 hb, ownsRow_base (h.no x hx).2 hb⟩⟩
theorem flatV_len : ∀ l : List Tr.Vr, (flatV l).length = l.length * 2
  | [] => rfl
  | x :: l => by
    have e : flatV (x :: l) = [.string (st x.name), .int .i64 x.type] ++ flatV l := rfl
    rw [e, List.length_append, flatV_len l]
    simp only [List.length_cons, List.length_nil]
    omega
theorem flatF_len : ∀ l : List Fx, (flatF l).length = l.length * 5
  | [] => rfl
  | x :: l => by
    have e : flatF (x :: l) = cellF x ++ flatF l := rfl
    have e5 : (cellF x).length = 5 := rfl
    rw [e, List.length_append, flatF_len l, List.length_cons, e5]
    omega
theorem flatV_one : ∀ l : List Tr.Vr, ∀ u ∈ flatV l, u.oneCell' = true
  | x :: l, u, hu => by
    have e : flatV (x :: l) = [.string (st x.name), .int .i64 x.type] ++ flatV l := rfl
    rw [e] at hu
    rcases List.mem_append.1 hu with hu | hu
    · simp only [List.mem_cons, List.not_mem_nil, or_false] at hu
      rcases hu with rfl | rfl <;> rfl
    · exact flatV_one l u hu
theorem strs_one (l : List (List UInt8)) : ∀ u ∈ strs l, u.oneCell' = true := fun u hu => by
  obtain ⟨x, _, rfl⟩ := List.mem_map.1 hu
  rfl
theorem ints_one (l : List Int) : ∀ u ∈ ints l, u.oneCell' = true := fun u hu => by
  obtain ⟨x, _, rfl⟩ := List.mem_map.1 hu
  rfl
theorem strs_len (l : List (List UInt8)) : (strs l).length = l.length * 1 := by simp [strs]
theorem ints_len (l : List Int) : (ints l).length = l.length * 1 := by simp [ints]
end
/-- A copy under way: three boxes, and rows of the call's own. -/
structure CpS (w0 W : World) (b0 b1 b2 : Nat) (cs0 : Array Value) (nm iv tv fv nv : Value) (im : List (List UInt8)) (ty : List Tr.Vr) (fx : List Fx) (nx : List Nx) : Prop where
  bel : Below w0.heap.size w0 W
  a0 : Blk W b0 31 cs0
  a1 : Blk W b1 31 zeroM
  a2 : Blk W b2 31 #[nm, iv, tv, fv, nv]
  n0 : b0 ≠ b2
  n1 : b1 ≠ b2
  lo : w0.heap.size ≤ b2
  i : W.ownsRow w0.heap.size 9 1 iv im.length (strs im)
  t : W.ownsRow w0.heap.size 59 2 tv ty.length (flatV ty)
  f : W.ownsRow w0.heap.size 54 5 fv fx.length (flatF fx)
  n : W.ownsRow w0.heap.size 57 6 nv nx.length (flatN nx)
  fo : ∀ x ∈ fx, W.ownsRow w0.heap.size 67 2 x.2.1 x.1.vars.length (flatV x.1.vars) ∧ W.ownsRow w0.heap.size 67 2 x.2.2 x.1.params.length (flatV x.1.params)
  no : ∀ x ∈ nx, W.ownsRow w0.heap.size 9 1 x.2.1 x.1.keys.length (strs x.1.keys) ∧ W.ownsRow w0.heap.size 3 1 x.2.2 x.1.l.length (ints x.1.l)
section
variable {w0 W W1 W2 W3 : World} {b0 b1 b2 : Nat} {cs0 : Array Value} {nm iv tv fv nv : Value} {im : List (List UInt8)} {ty : List Tr.Vr} {fx : List Fx} {nx : List Nx}
theorem CpS.below (h : CpS w0 W b0 b1 b2 cs0 nm iv tv fv nv im ty fx nx) (hb : Below W.heap.size W W1) : CpS w0 W1 b0 b1 b2 cs0 nm iv tv fv nv im ty fx nx := by
  have hk := Kp.of_below hb (fun _ => False)
  have key : ∀ {e : TypeId} {sz n : Nat} {v : Value} {xs : List Value}, W.ownsRow w0.heap.size e sz v n xs → W1.ownsRow w0.heap.size e sz v n xs := fun h => own_kp h hk fun _ _ e => e
  exact ⟨h.bel.trans (hb.mono h.bel.size), h.a0.kp hk id, h.a1.kp hk id, h.a2.kp hk id, h.n0, h.n1, h.lo, key h.i, key h.t, key h.f, key h.n, fun x hx => ⟨key (h.fo x hx).1, key (h.fo x hx).2⟩, fun x hx => ⟨key (h.no x hx).1, key (h.no x hx).2⟩⟩
/-- One cell of the copy's box is set. -/
theorem CpS.box (h : CpS w0 W b0 b1 b2 cs0 nm iv tv fv nv im ty fx nx) (j : Nat) (u : Value) : Below w0.heap.size w0 (W.setCell ⟨b2, j, none⟩ u) ∧ Blk (W.setCell ⟨b2, j, none⟩ u) b0 31 cs0 ∧ Blk (W.setCell ⟨b2, j, none⟩ u) b1 31 zeroM ∧ Blk (W.setCell ⟨b2, j, none⟩ u) b2 31 (#[nm, iv, tv, fv, nv].setIfInBounds j u) ∧
    ∀ {e : TypeId} {sz n : Nat} {v : Value} {xs : List Value}, W.ownsRow w0.heap.size e sz v n xs → e ≠ 31 → (W.setCell ⟨b2, j, none⟩ u).ownsRow w0.heap.size e sz v n xs := by
  refine ⟨h.bel.setCell (p := ⟨b2, j, none⟩) h.lo u, h.a0.far (p := ⟨b2, j, none⟩) h.n0 u, h.a1.far (p := ⟨b2, j, none⟩) h.n1 u, h.a2.set_ j u, fun h2 he => own_kp h2 ((Kp.refl (fun q => q = b2) W).setCell (p := ⟨b2, j, none⟩) (.inl rfl) u) fun q hq e => ?_⟩
  have e : q = b2 := e
  subst e
  exact own_blk_ne h2 h.a2 he hq
/-- A row is put into the copy: imports; types. -/
theorem CpS.setI (h : CpS w0 W b0 b1 b2 cs0 nm iv tv fv nv im ty fx nx) {iv' : Value} {im' : List (List UInt8)} (hi : W.ownsRow w0.heap.size 9 1 iv' im'.length (strs im')) : CpS w0 (W.setCell ⟨b2, 1, none⟩ iv') b0 b1 b2 cs0 nm iv' tv fv nv im' ty fx nx := by
  obtain ⟨x1, x2, x3, x4, key⟩ := h.box 1 iv'
  exact ⟨x1, x2, x3, x4, h.n0, h.n1, h.lo, key hi (by decide), key h.t (by decide), key h.f (by decide), key h.n (by decide), fun x hx => ⟨key (h.fo x hx).1 (by decide), key (h.fo x hx).2 (by decide)⟩, fun x hx => ⟨key (h.no x hx).1 (by decide), key (h.no x hx).2 (by decide)⟩⟩
theorem CpS.setT (h : CpS w0 W b0 b1 b2 cs0 nm iv tv fv nv im ty fx nx) {tv' : Value} {ty' : List Tr.Vr} (hi : W.ownsRow w0.heap.size 59 2 tv' ty'.length (flatV ty')) : CpS w0 (W.setCell ⟨b2, 2, none⟩ tv') b0 b1 b2 cs0 nm iv tv' fv nv im ty' fx nx := by
  obtain ⟨x1, x2, x3, x4, key⟩ := h.box 2 tv'
  exact ⟨x1, x2, x3, x4, h.n0, h.n1, h.lo, key h.i (by decide), key hi (by decide), key h.f (by decide), key h.n (by decide), fun x hx => ⟨key (h.fo x hx).1 (by decide), key (h.fo x hx).2 (by decide)⟩, fun x hx => ⟨key (h.no x hx).1 (by decide), key (h.no x hx).2 (by decide)⟩⟩
/-- A function is put behind the copy's others. -/
theorem CpS.pushF (h : CpS w0 W b0 b1 b2 cs0 nm iv tv fv nv im ty fx nx) (hW : Below W.heap.size W W1) {x : Fx} (hx1 : W1.ownsRow W.heap.size 67 2 x.2.1 x.1.vars.length (flatV x.1.vars)) (hx2 : W1.ownsRow W.heap.size 67 2 x.2.2 x.1.params.length (flatV x.1.params))
    (h2 : Below W1.heap.size W1 W2) {fv' : Value} (hg : W2.grownBy W3 fv.ownBlock) (hown : W3.ownsRow w0.heap.size 54 5 fv' (fx.length + 1) (flatF fx ++ cellF x)) :
    CpS w0 (W3.setCell ⟨b2, 3, none⟩ fv') b0 b1 b2 cs0 nm iv tv fv' nv im ty (fx ++ [x]) nx := by
  have hk2 : Kp (fun q => fv.ownBlock = some q) W W2 := (Kp.of_below hW _).trans (Kp.of_below h2 (fun _ => False)) (fun _ e => e.elim)
  have hk : Kp (fun q => fv.ownBlock = some q) W W3 := hk2.grown hg (fun q hq => .inl hq)
  have hk1 : Kp (fun q => fv.ownBlock = some q) W1 W3 := (Kp.of_below h2 _).grown hg (fun q hq => .inl hq)
  have hbl : ∀ {g : Nat} {t : TypeId} {cs : Array Value}, Blk W g t cs → t ≠ 54 → Blk W3 g t cs := fun hb ht => hb.kp hk (own_blk_ne h.f hb (Ne.symm ht))
  have key : ∀ {e : TypeId} {sz n : Nat} {v : Value} {xs : List Value}, W.ownsRow w0.heap.size e sz v n xs → e ≠ 54 → W3.ownsRow w0.heap.size e sz v n xs := fun hr he => own_kp hr hk fun q hq e => own_ne hr h.f he hq e
  have hf0 : ∀ q, fv.ownBlock = some q → q < W.heap.size := fun q hq => own_lt h.f hq
  have key1 : ∀ {sz n : Nat} {v : Value} {xs : List Value}, W1.ownsRow W.heap.size 67 sz v n xs → W3.ownsRow w0.heap.size 67 sz v n xs := fun hr => ownsRow_base (own_kp hr hk1 fun q hq e => by
    have a1 := own_base hr hq
    have a2 := hf0 q e
    omega) h.bel.size
  have hbel : Below w0.heap.size w0 W3 := h.bel.trans (hk.toBelow h.bel.size fun q hq e => by have := own_base h.f e; omega)
  have c0 := hbl h.a0 (by decide)
  have c1 := hbl h.a1 (by decide)
  have c2 := hbl h.a2 (by decide)
  have hkb := (Kp.refl (fun q => q = b2) W3).setCell (p := ⟨b2, 3, none⟩) (.inl rfl) fv'
  have keyb : ∀ {e : TypeId} {sz n : Nat} {v : Value} {xs : List Value}, W3.ownsRow w0.heap.size e sz v n xs → e ≠ 31 → (W3.setCell ⟨b2, 3, none⟩ fv').ownsRow w0.heap.size e sz v n xs := fun hr he => own_kp hr hkb fun q hq e => by
    have e : q = b2 := e
    subst e
    exact own_blk_ne hr c2 he hq
  refine ⟨hbel.setCell (p := ⟨b2, 3, none⟩) h.lo fv', c0.far (p := ⟨b2, 3, none⟩) h.n0 fv', c1.far (p := ⟨b2, 3, none⟩) h.n1 fv', c2.set_ 3 fv', h.n0, h.n1, h.lo, keyb (key h.i (by decide)) (by decide), keyb (key h.t (by decide)) (by decide), ?_, keyb (key h.n (by decide)) (by decide), fun y hy => ?_, fun y hy => ⟨keyb (key (h.no y hy).1 (by decide)) (by decide), keyb (key (h.no y hy).2 (by decide)) (by decide)⟩⟩
  · refine keyb ?_ (by decide)
    rw [List.length_append, show flatF (fx ++ [x]) = flatF fx ++ cellF x by simp [flatF]]
    exact hown
  · rcases List.mem_append.1 hy with hy | hy
    · exact ⟨keyb (key (h.fo y hy).1 (by decide)) (by decide), keyb (key (h.fo y hy).2 (by decide)) (by decide)⟩
    · obtain rfl := List.mem_singleton.1 hy
      exact ⟨keyb (key1 hx1) (by decide), keyb (key1 hx2) (by decide)⟩
/-- A node is put behind the copy's others. -/
theorem CpS.pushN (h : CpS w0 W b0 b1 b2 cs0 nm iv tv fv nv im ty fx nx) (hW : Below W.heap.size W W1) {x : Nx} (hx1 : W1.ownsRow W.heap.size 9 1 x.2.1 x.1.keys.length (strs x.1.keys)) (hx2 : W1.ownsRow W.heap.size 3 1 x.2.2 x.1.l.length (ints x.1.l))
    (h2 : Below W1.heap.size W1 W2) {nv' : Value} (hg : W2.grownBy W3 nv.ownBlock) (hown : W3.ownsRow w0.heap.size 57 6 nv' (nx.length + 1) (flatN nx ++ cellN x.1 x.2.1 x.2.2)) :
    CpS w0 (W3.setCell ⟨b2, 4, none⟩ nv') b0 b1 b2 cs0 nm iv tv fv nv' im ty fx (nx ++ [x]) := by
  have hk2 : Kp (fun q => nv.ownBlock = some q) W W2 := (Kp.of_below hW _).trans (Kp.of_below h2 (fun _ => False)) (fun _ e => e.elim)
  have hk : Kp (fun q => nv.ownBlock = some q) W W3 := hk2.grown hg (fun q hq => .inl hq)
  have hk1 : Kp (fun q => nv.ownBlock = some q) W1 W3 := (Kp.of_below h2 _).grown hg (fun q hq => .inl hq)
  have hbl : ∀ {g : Nat} {t : TypeId} {cs : Array Value}, Blk W g t cs → t ≠ 57 → Blk W3 g t cs := fun hb ht => hb.kp hk (own_blk_ne h.n hb (Ne.symm ht))
  have key : ∀ {e : TypeId} {sz n : Nat} {v : Value} {xs : List Value}, W.ownsRow w0.heap.size e sz v n xs → e ≠ 57 → W3.ownsRow w0.heap.size e sz v n xs := fun hr he => own_kp hr hk fun q hq e => own_ne hr h.n he hq e
  have hf0 : ∀ q, nv.ownBlock = some q → q < W.heap.size := fun q hq => own_lt h.n hq
  have key1 : ∀ {e : TypeId} {sz n : Nat} {v : Value} {xs : List Value}, W1.ownsRow W.heap.size e sz v n xs → W3.ownsRow w0.heap.size e sz v n xs := fun hr => ownsRow_base (own_kp hr hk1 fun q hq e => by
    have a1 := own_base hr hq
    have a2 := hf0 q e
    omega) h.bel.size
  have hbel : Below w0.heap.size w0 W3 := h.bel.trans (hk.toBelow h.bel.size fun q hq e => by have := own_base h.n e; omega)
  have c0 := hbl h.a0 (by decide)
  have c1 := hbl h.a1 (by decide)
  have c2 := hbl h.a2 (by decide)
  have hkb := (Kp.refl (fun q => q = b2) W3).setCell (p := ⟨b2, 4, none⟩) (.inl rfl) nv'
  have keyb : ∀ {e : TypeId} {sz n : Nat} {v : Value} {xs : List Value}, W3.ownsRow w0.heap.size e sz v n xs → e ≠ 31 → (W3.setCell ⟨b2, 4, none⟩ nv').ownsRow w0.heap.size e sz v n xs := fun hr he => own_kp hr hkb fun q hq e => by
    have e : q = b2 := e
    subst e
    exact own_blk_ne hr c2 he hq
  refine ⟨hbel.setCell (p := ⟨b2, 4, none⟩) h.lo nv', c0.far (p := ⟨b2, 4, none⟩) h.n0 nv', c1.far (p := ⟨b2, 4, none⟩) h.n1 nv', c2.set_ 4 nv', h.n0, h.n1, h.lo, keyb (key h.i (by decide)) (by decide), keyb (key h.t (by decide)) (by decide), keyb (key h.f (by decide)) (by decide), ?_, fun y hy => ⟨keyb (key (h.fo y hy).1 (by decide)) (by decide), keyb (key (h.fo y hy).2 (by decide)) (by decide)⟩, fun y hy => ?_⟩
  · refine keyb ?_ (by decide)
    rw [List.length_append, show flatN (nx ++ [x]) = flatN nx ++ cellN x.1 x.2.1 x.2.2 by simp [flatN]]
    exact hown
  · rcases List.mem_append.1 hy with hy | hy
    · exact ⟨keyb (key (h.no y hy).1 (by decide)) (by decide), keyb (key (h.no y hy).2 (by decide)) (by decide)⟩
    · obtain rfl := List.mem_singleton.1 hy
      exact ⟨keyb (key1 hx1) (by decide), keyb (key1 hx2) (by decide)⟩
end
end Go.Proofs.YtmgjmagniefhoaaGreatDoor
