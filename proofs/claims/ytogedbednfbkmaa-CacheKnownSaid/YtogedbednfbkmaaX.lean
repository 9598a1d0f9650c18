/- A cache by what it stands for: Keys; lists of texts. Conditions: those that each theorem names. -/
import Derived.Test.YtogedbednfbkmaaV
import Derived.Test.YtogedbednfbkmaaW
namespace Go.Proofs.Ytogedbednfbkmaa
open Go.RowKit Go.Maps

theorem below_drewN2 (B : Nat) (w : World) (n : Nat) : Below B w (w.drewN n) := ⟨rfl, rfl, rfl, Nat.le_refl _, fun _ _ => rfl⟩
/-- A list of texts that is read. -/
structure RdT (w : World) (A : Option Addr) (n : Nat) (xs : List ByteArray) : Prop where
  len : xs.length = n
  low : n ≤ 100000000000000
  cells : 0 < n → ∃ b off, A = some ⟨b, off, none⟩ ∧ ∀ j, j < n → w.cell? ⟨b, off + j, none⟩ = some (.string (xs.getD j .empty))
theorem RdT.below {w w' : World} {A : Option Addr} {n : Nat} {xs : List ByteArray} (h : RdT w A n xs) (hb : Below w.heap.size w w') : RdT w' A n xs :=
  ⟨h.len, h.low, fun h0 => by
    obtain ⟨b, off, e, hc⟩ := h.cells h0
    exact ⟨b, off, e, fun j hj => below_cell hb (hc j hj)⟩⟩
theorem RdT.of_own {w : World} {base n : Nat} {A : Option Addr} {c : Nat} {xs : List ByteArray} (h : w.ownsRow base 9 1 (.slice A n c) n (xs.map .string)) (hn : n ≤ 100000) : RdT w A n xs := by
  have hl : xs.length = n := by have := h.1; simpa using this
  refine ⟨hl, by omega, fun h0 => ?_⟩
  obtain ⟨g, cap, hv, hg, hlt⟩ := World.ownsRow.form h h0
  injection hv with hv1 hv2 hv3
  subst hv1
  exact ⟨g, 0, rfl, fun j hj => by rw [Nat.zero_add]; exact own_cell h j _ (map_at _ xs j .empty (by omega))⟩
theorem RdT.lit (w : World) (xs : List ByteArray) (h : xs.length ≤ 1000) : RdT (w.alloc (.cells (xs.map Value.string).toArray 9)) (some ⟨w.heap.size, 0, none⟩) xs.length xs := by
  refine ⟨rfl, by omega, fun h0 => ⟨_, _, rfl, fun j hj => ?_⟩⟩
  rw [Nat.zero_add, World.cell?_alloc_at _ _ _ _ rfl]
  show (xs.map Value.string).toArray[j]? = _
  rw [List.getElem?_toArray]
  exact map_at _ xs j .empty hj

set_option maxHeartbeats 1000000 in
set_option maxRecDepth 100000 in
theorem eqtexts_c {w : World} {A A' : Option Addr} {n c c' : Nat} {xs : List ByteArray} (h : RdT w A n xs) (h' : RdT w A' n xs) :
    Calls Try.prog 25 #[.slice A n c, .slice A' n c'] w fun e w' => e = .returned (.bool true) ∧ Below w.heap.size w w' := by
  have q0 : ((n : Int) != (n : Int)) = false := by simp
  have hlow := h.low
  have HA := hid_ h
  have HB := hid_ h'
  clear h h'
  go_enter Try.func25, Try.ntmps25
  go_wp2
  go_loopw [5] (fun v wr => ∃ i : Nat, v = .int .i64 i ∧ i ≤ n ∧ Below w.heap.size w wr) (fun v _ => n - (intOf v).toNat)
  case atStart => exact ⟨0, rfl, by omega, Below.refl _ _⟩
  case round =>
    obtain ⟨i, rfl, hi, hb⟩ := hrel
    have HBl := hid_ hb
    clear hb
    by_cases hlt : i < n
    · obtain ⟨b, off, e1, hc⟩ := (HA.out.below HBl.out).cells (by omega)
      obtain ⟨b', off', e2, hc'⟩ := (HB.out.below HBl.out).cells (by omega)
      have x0 := hc i hlt
      have y0 := hc' i hlt
      subst e1 e2
      generalize xs.getD i .empty = s at *
      have b0 : (0 : Int) ≤ (i : Int) := by omega
      have b1 : (i : Int) < (n : Int) := by omega
      clear hc hc'
      go_wp2
      go_quiet (fail)
      go_wp2
      go_roundw
      case rel => exact ⟨i + 1, by go_num, by omega, HBl.out.trans ((below_drewN2 _ wr _).mono HBl.out.size)⟩
      case measure => simp [intOf]; omega
    · have b1 : ¬ (i : Int) < (n : Int) := by omega
      go_wp2
      go_ret
      exact ⟨rfl, HBl.out⟩
end Go.Proofs.Ytogedbednfbkmaa
