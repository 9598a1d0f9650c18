/- What is no cache: the nil pointer, and a cache of nothing but zeros. Conditions: those that each theorem names. -/
import Derived.Test.YtogedbednfbkmaaO
namespace Go.Proofs.Ytogedbednfbkmaa
open Go.RowKit Go.Maps

def zeroCells : Array Value := #[.int .i64 0, .int .i64 0, .int .i64 0, .int .i64 0, .int .i64 0, .int .i64 0, .int .i64 0, .map none, .slice none 0 0]
/-- No cache: nil, or a pointer at zeros. -/
def Nh (w : World) (v : Value) : Prop := v = .pointer none ∨ ∃ g, v = .pointer (some ⟨g, 0, none⟩) ∧ Blk w g 66 zeroCells
section
variable {w w' : World} {v : Value}
theorem Nh.below (h : Nh w v) (b : Below w.heap.size w w') : Nh w' v := by
  rcases h with h | ⟨g, h, hB⟩
  · exact .inl h
  · exact .inr ⟨g, h, hB.kp (Kp.of_below b fun _ => False) id⟩
theorem none_n (h : Nh w v) : Calls Try.prog 30 #[v] w fun e w' => e = .returned (.bool true) ∧ w = w' := by
  rcases h with rfl | ⟨g, rfl, hB⟩
  · go_enter Try.func30, Try.ntmps30
    go_wp2
    go_ret
    exact ⟨rfl, rfl⟩
  · have c7 : w.cell? ⟨g, 7, none⟩ = some (.map none) := hB.cell 7
    have hq : ∀ (w : World) (p : Option Nat), (binOp .eql 62 (.map p) (.map none)).run Try.prog w = .ok (.bool p.isNone) w := fun w p => run_eql_map_nil w _ _ _ p Try.underlying62
    clear hB
    go_enter Try.func30, Try.ntmps30
    go_wp2
    go_ret
    exact ⟨rfl, rfl⟩
theorem len_n (h : Nh w v) : Calls Try.prog 17 #[v] w fun e w' => e = .returned (.int .i64 0) ∧ w = w' := by
  have H := hid_ (none_n h)
  clear h
  go_enter Try.func17, Try.ntmps17
  go_wp2_with fail
  refine H.out.mono ?_
  rintro e w1 ⟨rfl, rfl⟩
  go_wp2
  go_ret
  exact ⟨rfl, rfl⟩
theorem size_n (h : Nh w v) : Calls Try.prog 20 #[v] w fun e w' => e = .returned (.int .i64 0) ∧ w = w' := by
  have H := hid_ (none_n h)
  clear h
  go_enter Try.func20, Try.ntmps20
  go_wp2_with fail
  refine H.out.mono ?_
  rintro e w1 ⟨rfl, rfl⟩
  go_wp2
  go_ret
  exact ⟨rfl, rfl⟩
theorem level_n (h : Nh w v) : Calls Try.prog 28 #[v] w fun e w' => e = .returned (.int .i64 0) ∧ w = w' := by
  have H := hid_ (none_n h)
  clear h
  go_enter Try.func28, Try.ntmps28
  go_wp2_with fail
  refine H.out.mono ?_
  rintro e w1 ⟨rfl, rfl⟩
  go_wp2
  go_ret
  exact ⟨rfl, rfl⟩
theorem keys_n (h : Nh w v) : Calls Try.prog 19 #[v] w fun e w' => e = .returned (.slice none 0 0) ∧ w = w' := by
  have H := hid_ (none_n h)
  clear h
  go_enter Try.func19, Try.ntmps19
  go_wp2_with fail
  refine H.out.mono ?_
  rintro e w1 ⟨rfl, rfl⟩
  go_wp2
  go_ret
  exact ⟨rfl, rfl⟩
theorem counts_n (h : Nh w v) : Calls Try.prog 22 #[v] w fun e w' => e = .returned (.tuple #[.int .i64 0, .int .i64 0, .int .i64 0]) ∧ w = w' := by
  have H := hid_ (none_n h)
  clear h
  go_enter Try.func22, Try.ntmps22
  go_wp2_with fail
  refine H.out.mono ?_
  rintro e w1 ⟨rfl, rfl⟩
  go_wp2
  go_ret3
  exact ⟨rfl, rfl⟩
theorem get_n (h : Nh w v) (k : ByteArray) : Calls Try.prog 13 #[v, .string k] w fun e w' => e = .returned (.tuple #[.slice none 0 0, .bool false]) ∧ w = w' := by
  have H := hid_ (none_n h)
  clear h
  go_enter Try.func13, Try.ntmps13
  go_wp2_with fail
  refine H.out.mono ?_
  rintro e w1 ⟨rfl, rfl⟩
  go_wp2
  go_ret2
  exact ⟨rfl, rfl⟩
theorem has_n (h : Nh w v) (k : ByteArray) : Calls Try.prog 16 #[v, .string k] w fun e w' => e = .returned (.bool false) ∧ w = w' := by
  have H := hid_ (none_n h)
  clear h
  go_enter Try.func16, Try.ntmps16
  go_wp2_with fail
  refine H.out.mono ?_
  rintro e w1 ⟨rfl, rfl⟩
  go_wp2
  go_ret
  exact ⟨rfl, rfl⟩
theorem drop_n (h : Nh w v) (k : ByteArray) : Calls Try.prog 21 #[v, .string k] w fun e w' => e = .returned (.bool false) ∧ w = w' := by
  have H := hid_ (has_n h k)
  clear h
  go_enter Try.func21, Try.ntmps21
  go_wp2_with fail
  refine H.out.mono ?_
  rintro e w1 ⟨rfl, rfl⟩
  go_wp2
  go_ret
  exact ⟨rfl, rfl⟩
theorem put_n (h : Nh w v) (k : ByteArray) (cost : Int) : Calls Try.prog 14 #[v, .string k, .slice none 0 0, .int .i64 cost] w fun e w' => e = .returned (.int .i64 1) ∧ Below w.heap.size w w' := by
  have H := hid_ h
  have HCl := hid_ (clone_c (w := w) (xs := []) (A := none) (n := 0) (c := 0) ⟨rfl, fun _ => ⟨rfl, rfl⟩, fun h => absurd h (by omega)⟩ (by omega) (by omega))
  clear h
  go_enter Try.func14, Try.ntmps14
  go_wp2_with fail
  refine HCl.out.mono ?_
  rintro e w1 ⟨A', c', rfl, hown, hb1⟩
  have hb2 : Below w.heap.size w (w1.alloc (.cells #[.int .i64 0, .int .i64 0, .string k, .slice A' 0 c', .int .i64 cost, .int .i64 0] 74)) := hb1.alloc hb1.size _
  have H2 := hid_ (none_n (H.out.below hb2))
  have HB := hid_ hb2
  clear hown hb1 hb2
  go_wp2_with fail
  refine H2.out.mono ?_
  rintro e w2 ⟨rfl, rfl⟩
  go_wp2
  go_ret
  exact ⟨rfl, HB.out⟩
end
end Go.Proofs.Ytogedbednfbkmaa
