/- What Keys asks of Go's sorting: the comparison of two entries; slices.Clone of a row. Conditions: those that each theorem names. -/
import Derived.Test.YtogedbednfbkmaaR
import Derived.Sort.Grow
namespace Go.Proofs.Ytogedbednfbkmaa
open Go.RowKit Go.Maps

set_option maxHeartbeats 2000000 in
set_option maxRecDepth 100000 in
/-- The comparison that Keys hands over. -/
theorem closure_c (gx gy : Nat) (x1 r1 x2 r2 : Int) (W : World) (h0 : W.cell? ⟨gx, 0, none⟩ = some (.int .i64 x1)) (h1 : W.cell? ⟨gx, 1, none⟩ = some (.int .i64 r1)) (h2 : W.cell? ⟨gy, 0, none⟩ = some (.int .i64 x2)) (h3 : W.cell? ⟨gy, 1, none⟩ = some (.int .i64 r2)) :
    Calls Try.prog 41 #[ptr gx, ptr gy] W fun e w' => e = .returned (.int .i64 (cmpR x1 r1 x2 r2)) ∧ ∃ (q : Nat) (o : Obj), w' = (W.drewN q).alloc o := by
  unfold cmpR ptr
  have l0 := World.block_lt_of_cell? W _ h0
  have l2 := World.block_lt_of_cell? W _ h2
  go_enter Try.func41, Try.ntmps41
  go_wp2
  go_region_held3 (fun w => w.cell? ⟨gx, 0, none⟩ = some (.int .i64 x1) ∧ w.cell? ⟨gx, 1, none⟩ = some (.int .i64 r1) ∧ w.cell? ⟨gy, 0, none⟩ = some (.int .i64 x2) ∧ w.cell? ⟨gy, 1, none⟩ = some (.int .i64 r2))
    (first | exact ⟨h0, h1, h2, h3⟩ | (refine ⟨?_, ?_, ?_, ?_⟩ <;> first | (go_keep; done) | (go_simp; done)))
    (first | (go_at_call 43; refine (compare_c _ _ _).mono ?_; rintro e w' ⟨rfl, rfl⟩) | (go_at_call 42; refine (or_c _ (cmpI x1 x2) (cmpI r1 r2) _ (by go_simp) (by go_simp)).mono ?_; (rintro e w' ⟨rfl, rfl⟩)))
  all_goals
    go_wp2
    go_ret
    exact ⟨rfl, 1, _, rfl⟩

theorem ptrs_one (L : List Me) : ∀ u ∈ L.map (fun m => ptr m.g), u.oneCell' = true := by
  intro u hu
  obtain ⟨m, _, rfl⟩ := List.mem_map.1 hu
  rfl
set_option maxHeartbeats 1000000 in
set_option maxRecDepth 100000 in
/-- slices.Clone of a row. -/
theorem rclone_c {w : World} {base n : Nat} {sv : Value} {xs : List Value} (h : w.ownsRow base 67 1 sv n xs) (h1 : ∀ u ∈ xs, u.oneCell' = true) (hn : n ≤ 100000) :
    Calls Try.prog 39 #[sv] w fun e w' => ∃ A c, e = .returned (.slice A n c) ∧ w'.ownsRow w.heap.size 67 1 (.slice A n c) n xs ∧ Below w.heap.size w w' := by
  obtain ⟨i0, hi0, hz0, hz1, hz2⟩ := info_parts Try.info67
  have qT : ∀ (w : World) (a : Option Addr) (n c n' c' : Nat), (binOp .eql 64 (.slice a n c) (.slice none n' c')).run Try.prog w = .ok (.bool a.isNone) w := fun w a n c n' c' => Lib.run_eql_slice_nil w _ _ a n c n' c' Try.underlying64
  rcases h.2 with ⟨rfl, rfl⟩ | ⟨g, cap, cur, rfl, hg, hh, hnc, hcm, hcs, ht⟩
  · have hx : xs = [] := List.eq_nil_of_length_eq_zero (by simpa using h.1)
    subst hx
    clear h h1
    go_enter Try.func39, Try.ntmps39
    go_wp2
    go_ret
    exact ⟨none, 0, rfl, World.ownsRow_nil _ _ _ _, Below.refl _ _⟩
  · have hlt : g < w.heap.size := Blk.lt (t := 67) hh
    have HN := hid_ (show ∀ ad, some (⟨g, 0, none⟩ : Addr) = some ad → ∀ j u, xs[j]? = some u → (w.alloc (.cells #[] 67)).cell? (ad.add j) = some u from fun ad had j u hu => by
      injection had with had
      subst had
      rw [add_at, World.cell?_alloc_past _ _ _ hlt]
      exact own_cell h j u hu)
    have H1 := hid_ h1
    have HL := hid_ h.1
    have HM := hid_ (show 0 + n ≤ maxLen by unfold maxLen; omega)
    have HO := hid_ (show (w.alloc (.cells #[] 67)).ownsRow w.heap.size 67 1 (.slice (some ⟨w.heap.size, 0, none⟩) 0 0) 0 [] from ⟨rfl, .inr ⟨w.heap.size, 0, #[], rfl, Nat.le_refl _, heap_alloc_new w _, Nat.le_refl _, Nat.zero_le _, rfl, rfl⟩⟩)
    clear h hh ht h1 hcs hcm
    go_enter Try.func39, Try.ntmps39
    go_wp2_with (first | (at_builtin; refine wpList_append_any rfl (.tmp 5) (.tmp 6) 64 rfl w.heap.size 67 i0 _ 1 8 Try.underlying64 hi0 hz0 hz1 hz2 rfl (by omega) (.slice (some ⟨w.heap.size, 0, none⟩) 0 0) 0 [] rfl HO.out (some ⟨g, 0, none⟩) n cap xs rfl HL.out (fun h => by cases h) HN.out H1.out HM.out (by omega) (by simp) ?_; intro A1 c1 w1 hown1 hgrow1 hat; simp only [Nat.zero_add, List.nil_append] at hown1))
    go_ret
    refine ⟨A1, c1, by simp, hown1, (Below.refl _ _).alloc (Nat.le_refl _) _ |>.grown hgrow1 (by simp) (fun k hk => ?_)⟩
    simp [Value.ownBlock] at hk
    omega
end Go.Proofs.Ytogedbednfbkmaa
