/- What is no heap: the nil pointer, and a heap of nothing but zeros. Conditions: those that each theorem names. -/
import Derived.Test.YtkoacfkglfgalaaT
namespace Go.Proofs.Ytkoacfkglfgalaa
open Go.RowKit Go.Maps

/-- No heap: nil, or a pointer at zeros. -/
def Nh (w : World) (v : Value) : Prop := v = .pointer none ∨ ∃ hb mp, v = .pointer (some ⟨hb, 0, none⟩) ∧ Blk w hb 61 #[.pointer none, mp]
section
variable {w w' : World} {v : Value}
theorem Nh.below (h : Nh w v) (b : Below w.heap.size w w') : Nh w' v := by
  rcases h with h | ⟨hb, mp, h, hB⟩
  · exact .inl h
  · exact .inr ⟨hb, mp, h, hB.kp (Kp.of_below b fun _ => False) id⟩
theorem none_n (h : Nh w v) : Calls Try.prog 32 #[v] w fun e w' => e = .returned (.bool true) ∧ w = w' := by
  rcases h with rfl | ⟨hb, mp, rfl, hB⟩
  · exact none_nil w
  · exact none_zero hb mp w hB
theorem put_n (h : Nh w v) (id r : Int) : Calls Try.prog 12 #[v, .int .i64 id, .int .i64 r] w fun e w' => e = .returned (.int .i64 1) ∧ w = w' := by
  have H := hid_ (none_n h)
  clear h
  go_enter Try.func12, Try.ntmps12
  go_wp2_with fail
  refine H.out.mono ?_
  rintro e w1 ⟨rfl, rfl⟩
  go_wp2
  go_ret
  exact ⟨rfl, rfl⟩
theorem len_n (h : Nh w v) : Calls Try.prog 13 #[v] w fun e w' => e = .returned (.int .i64 0) ∧ w = w' := by
  have H := hid_ (none_n h)
  clear h
  go_enter Try.func13, Try.ntmps13
  go_wp2_with fail
  refine H.out.mono ?_
  rintro e w1 ⟨rfl, rfl⟩
  go_wp2
  go_ret
  exact ⟨rfl, rfl⟩
theorem first_n (h : Nh w v) : Calls Try.prog 16 #[v] w fun e w' => e = .returned (.tuple #[.int .i64 0, .int .i64 0, .int .i64 1]) ∧ w = w' := by
  have H := hid_ (none_n h)
  clear h
  go_enter Try.func16, Try.ntmps16
  go_wp2_with fail
  refine H.out.mono ?_
  rintro e w1 ⟨rfl, rfl⟩
  go_wp2
  go_ret3
  exact ⟨rfl, rfl⟩
theorem pop_n (h : Nh w v) : Calls Try.prog 14 #[v] w fun e w' => e = .returned (.tuple #[.int .i64 0, .int .i64 0, .int .i64 1]) ∧ w = w' := by
  have H := hid_ (first_n h)
  clear h
  go_enter Try.func14, Try.ntmps14
  go_wp2_with fail
  refine H.out.mono ?_
  rintro e w1 ⟨rfl, rfl⟩
  go_wp2
  go_ret3
  exact ⟨rfl, rfl⟩
theorem ids_n (h : Nh w v) : Calls Try.prog 17 #[v] w fun e w' => e = .returned (.slice none 0 0) ∧ w = w' := by
  have H := hid_ (none_n h)
  clear h
  go_enter Try.func17, Try.ntmps17
  go_wp2_with fail
  refine H.out.mono ?_
  rintro e w1 ⟨rfl, rfl⟩
  go_wp2
  go_ret
  exact ⟨rfl, rfl⟩
theorem rank_n (h : Nh w v) (id : Int) : Calls Try.prog 18 #[v, .int .i64 id] w fun e w' => e = .returned (.tuple #[.int .i64 0, .bool false]) ∧ w = w' := by
  have H := hid_ (none_n h)
  clear h
  go_enter Try.func18, Try.ntmps18
  go_wp2_with fail
  refine H.out.mono ?_
  rintro e w1 ⟨rfl, rfl⟩
  go_wp2
  go_ret2
  exact ⟨rfl, rfl⟩
theorem remove_n (h : Nh w v) (id : Int) : Calls Try.prog 19 #[v, .int .i64 id] w fun e w' => e = .returned (.int .i64 1) ∧ w = w' := by
  have H := hid_ (none_n h)
  clear h
  go_enter Try.func19, Try.ntmps19
  go_wp2_with fail
  refine H.out.mono ?_
  rintro e w1 ⟨rfl, rfl⟩
  go_wp2
  go_ret
  exact ⟨rfl, rfl⟩
theorem copy_n (h : Nh w v) : Calls Try.prog 26 #[v] w fun e w' => e = .returned (.pointer none) ∧ w = w' := by
  have H := hid_ (none_n h)
  clear h
  go_enter Try.func26, Try.ntmps26
  go_wp2_with fail
  refine H.out.mono ?_
  rintro e w1 ⟨rfl, rfl⟩
  go_wp2
  go_ret
  exact ⟨rfl, rfl⟩
end
end Go.Proofs.Ytkoacfkglfgalaa
