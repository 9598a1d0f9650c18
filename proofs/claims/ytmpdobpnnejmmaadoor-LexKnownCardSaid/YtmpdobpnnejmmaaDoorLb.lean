/- Lex: a cursor in memory; run. Conditions: those that each theorem names. -/
import Derived.Test.YtmpdobpnnejmmaaDoorLa
namespace Go.Proofs.YtmpdobpnnejmmaaDoor
open Go.RowKit Go.Maps

/-- A text's bytes; the text of bytes. -/
abbrev bl (s : ByteArray) : List UInt8 := s.data.toList
def st (l : List UInt8) : ByteArray := ⟨l.toArray⟩
theorem bl_st (l : List UInt8) : bl (st l) = l := by show (Array.toList l.toArray) = l; simp
theorem st_bl (s : ByteArray) : st (bl s) = s := by show ByteArray.mk s.data.toList.toArray = s; rw [Array.toArray_toList]
theorem bl_len (s : ByteArray) : (bl s).length = s.size := Array.length_toList
theorem st_size (l : List UInt8) : (st l).size = l.length := by rw [← bl_len, bl_st]
theorem bl_inj {a b : ByteArray} (h : bl a = bl b) : a = b := by rw [← st_bl a, h, st_bl]
theorem bl_drop (s : ByteArray) {k : Nat} (h : k < s.size) : (bl s).drop k = s[k] :: (bl s).drop (k + 1) := by
  rw [List.drop_eq_getElem_cons (by rw [bl_len]; exact h)]
  rfl
theorem bl_end (s : ByteArray) {k : Nat} (h : s.size ≤ k) : (bl s).drop k = [] := List.drop_eq_nil_of_le (by rw [bl_len]; exact h)
theorem extract_st (s : ByteArray) (a b : Nat) : s.extract a b = st (((bl s).drop a).take (b - a)) := by
  refine bl_inj ?_
  rw [bl_st]
  show (s.extract a b).data.toList = _
  rw [ByteArray.data_extract, Array.toList_extract]

/-- A cursor at cb: its text, its place. -/
abbrev Cur (w : World) (cb : Nat) (s : ByteArray) (i : Int) : Prop := Blk w cb 44 #[.string s, .int .i64 i]

def RunR (p : UInt8 → Bool) (s : ByteArray) (a k : Nat) : Prop := ((bl s).drop a).takeWhile p = ((bl s).drop a).take (k - a) ++ ((bl s).drop k).takeWhile p
theorem run_start (p : UInt8 → Bool) (s : ByteArray) (a : Nat) : RunR p s a a := by unfold RunR; simp
theorem run_step {p : UInt8 → Bool} {s : ByteArray} {a k : Nat} (h : RunR p s a k) (ha : a ≤ k) (hk : k < s.size) (hg : p s[k] = true) : RunR p s a (k + 1) := by
  unfold RunR at *
  rw [h, bl_drop s hk, List.takeWhile_cons_of_pos hg, show k + 1 - a = k - a + 1 by omega]
  have e : (((bl s).drop a).drop (k - a)).head? = some s[k] := by
    rw [List.drop_drop, show a + (k - a) = k by omega, bl_drop s hk]; rfl
  rw [List.take_add_one, List.getElem?_eq_getElem (by rw [List.length_drop, bl_len]; omega)]
  have e2 : ((bl s).drop a)[k - a]'(by rw [List.length_drop, bl_len]; omega) = s[k] := by
    rw [List.getElem_drop]
    congr 1
    omega
  rw [e2]
  simp
theorem run_stop {p : UInt8 → Bool} {s : ByteArray} {a k : Nat} (h : RunR p s a k) (hg : ∀ hk : k < s.size, p s[k] = false) : ((bl s).drop a).takeWhile p = ((bl s).drop a).take (k - a) := by
  unfold RunR at h
  rw [h]
  by_cases hk : k < s.size
  · rw [bl_drop s hk, List.takeWhile_cons_of_neg (by rw [hg hk]; simp), List.append_nil]
  · rw [bl_end s (Nat.le_of_not_lt hk)]; simp

set_option maxHeartbeats 1000000 in
set_option maxRecDepth 100000 in
theorem lex_run {w : World} {cb : Nat} {s : ByteArray} {i : Int} (h : Cur w cb s i) (hs : s.size ≤ 1000000000) (a : Nat) (ha : a ≤ s.size) :
    Calls Tryd.prog 46 #[.pointer (some ⟨cb, 0, none⟩), .int .i64 a] w fun e w' => e = .returned (.string (st (((bl s).drop a).takeWhile Lx.goes))) ∧ w = w' := by
  have c0 : w.cell? ⟨cb, 0, none⟩ = some (.string s) := h.cell 0
  clear h
  go_enter Tryd.func46, Tryd.ntmps46
  go_wp2
  go_loop [5] (fun v => ∃ k : Nat, v = .int .i64 k ∧ a ≤ k ∧ k ≤ s.size ∧ RunR Lx.goes s a k) (fun v => s.size - (intOf v).toNat)
  case atStart => exact ⟨a, rfl, Nat.le_refl _, ha, run_start _ _ _⟩
  case round =>
    obtain ⟨k, rfl, hak, hk, hw⟩ := hrel
    have HW := hid_ hw
    clear hw
    have b0 : (0 : Int) ≤ (a : Int) := by omega
    have b3 : (a : Int) ≤ (k : Int) := by omega
    have b2 : (k : Int) ≤ (s.size : Int) := by omega
    by_cases hlt : k < s.size
    · have b0 : (0 : Int) ≤ (k : Int) := by omega
      have b1 : (k : Int) < (s.size : Int) := by omega
      have HG := hid_ (lex_goesOn s[k] w)
      have HS := hid_ (fun hg : Lx.goes s[k] = true => run_step HW.out hak hlt hg)
      have HT := hid_ (fun hg : Lx.goes s[k] = false => run_stop HW.out (fun _ => hg))
      generalize Lx.goes s[k] = g at *
      cases g with
      | true =>
        go_wp2_with fail
        refine HG.out.mono ?_
        rintro e w' ⟨rfl, rfl⟩
        go_wp2
        go_round
        case rel => exact ⟨k + 1, by go_num, by omega, by omega, HS.out (by trivial)⟩
        case measure => simp [intOf]; omega
      | false =>
        go_wp2_with fail
        refine HG.out.mono ?_
        rintro e w' ⟨rfl, rfl⟩
        go_wp2
        go_ret
        exact ⟨by rw [HT.out (by trivial), ← extract_st]; rfl, rfl⟩
    · have b1 : ¬ (k : Int) < (s.size : Int) := by omega
      have HT := hid_ (run_stop HW.out (fun h => absurd h hlt))
      go_wp2
      go_ret
      exact ⟨by rw [HT.out, ← extract_st]; rfl, rfl⟩
end Go.Proofs.YtmpdobpnnejmmaaDoor
