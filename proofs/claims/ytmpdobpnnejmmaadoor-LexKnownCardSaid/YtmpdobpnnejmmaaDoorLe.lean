/- Lex: the package's variables; IsKey. Conditions: those that each theorem names. -/
import Derived.Test.YtmpdobpnnejmmaaDoorLd
import Derived.Lib.LaidTab
import Derived.FnData
namespace Go.Proofs.YtmpdobpnnejmmaaDoor
open Go.RowKit Go.Maps

def strV (l : List (List UInt8)) : Array Value := (l.map fun k => Value.string (st k)).toArray
/-- What the package-level variables hold. -/
structure Env (w : World) : Prop where
  keys : w.var? Tryd.prog "armillary/lex.keys" = some (strV Lx.keysL)
  signs : w.var? Tryd.prog "armillary/lex.signs" = some (strV Lx.signsL)
  pow : Lib.TabIs Tryd.prog w "internal/strconv.uint64pow10" .u64 Lib.pow10Tab
  syn : ∃ tp p, w.var? Tryd.prog "strconv.ErrSyntax" = some #[.iface tp p]
  rng : ∃ tp p, w.var? Tryd.prog "strconv.ErrRange" = some #[.iface tp p]
theorem var_below {P : Program} {w w' : World} {n : String} {cs : Array Value} (hb : Below w.heap.size w w') (h : w.var? P n = some cs) : w'.var? P n = some cs := by
  unfold World.var? at *
  cases hg : P.globalNamed n with
  | none => rw [hg] at h; simp at h
  | some g =>
    rw [hg] at h
    simp only [Option.bind_some] at h ⊢
    have hlt : g < w.heap.size := by
      rcases Nat.lt_or_ge g w.heap.size with h1 | h1
      · exact h1
      · rw [Array.getElem?_eq_none h1] at h; simp at h
    rw [hb.block g hlt]
    exact h
theorem Env.below {w w' : World} (h : Env w) (hb : Below w.heap.size w w') : Env w' := by
  obtain ⟨t1, p1, h1⟩ := h.syn
  obtain ⟨t2, p2, h2⟩ := h.rng
  exact ⟨var_below hb h.keys, var_below hb h.signs, var_below hb h.pow, ⟨t1, p1, var_below hb h1⟩, ⟨t2, p2, var_below hb h2⟩⟩
theorem strV_at {l : List (List UInt8)} {i : Nat} (h : i < l.length) : (strV l)[i]? = some (.string (st (l.getD i []))) := by
  unfold strV
  simp [List.getD, h]
theorem Env.key {w : World} (h : Env w) {i : Nat} (hi : i < 18) : w.cell? ⟨0, i, none⟩ = some (.string (st (Lx.keysL.getD i []))) := by
  rw [World.var?_cell (P := Tryd.prog) (n := "armillary/lex.keys") (by kernel_rfl) h.keys i]
  exact strV_at hi
theorem Env.sign {w : World} (h : Env w) {i : Nat} (hi : i < 16) : w.cell? ⟨1, i, none⟩ = some (.string (st (Lx.signsL.getD i []))) := by
  rw [World.var?_cell (P := Tryd.prog) (n := "armillary/lex.signs") (by kernel_rfl) h.signs i]
  exact strV_at hi
theorem st_ne {a b : List UInt8} (h : a ≠ b) : st a ≠ st b := fun e => h (by rw [← bl_st a, e, bl_st])
theorem str_eq {a b : ByteArray} (h : a = b) : (a.toList == b.toList) = true := by subst h; simp
theorem str_ne {a b : ByteArray} (h : a ≠ b) : (a.toList == b.toList) = false := by
  rw [beq_eq_false_iff_ne, ByteArray.toList_eq, ByteArray.toList_eq]
  exact fun e => h (ByteArray.ext (Array.toList_inj.1 e))

set_option maxHeartbeats 1000000 in
set_option maxRecDepth 100000 in
theorem lex_IsKey {w : World} (h : Env w) (s : ByteArray) : Calls Tryd.prog 13 #[.string s] w fun e w' => e = .returned (.bool (Lx.isKey (bl s))) ∧ w = w' := by
  have HE := hid_ h
  clear h
  go_enter Tryd.func13, Tryd.ntmps13
  go_wp2_with fail
  go_loop [4] (fun v => ∃ k : Nat, v = .int .i64 k ∧ k ≤ 18 ∧ ∀ j, j < k → st (Lx.keysL.getD j []) ≠ s) (fun v => 18 - (intOf v).toNat)
  case atStart => exact ⟨0, rfl, by omega, fun _ h => by omega⟩
  case round =>
    obtain ⟨k, rfl, hk, hall⟩ := hrel
    have HA := hid_ hall
    clear hall
    by_cases hlt : k < 18
    · have x0 := HE.out.key hlt
      have hm := hid_ (show Lx.keysL.getD k [] ∈ Lx.keysL by
        have hkx : k < Lx.keysL.length := hlt
        simp [List.getD, hkx])
      have b0 : (0 : Int) ≤ (k : Int) := by omega
      have b1 : (k : Int) < 18 := by omega
      generalize hxk : Lx.keysL.getD k [] = x at *
      have HX := hid_ hxk
      clear hxk
      by_cases he : st x = s
      · have q1 := str_eq he
        have HR := hid_ (show Lx.isKey (bl s) = true from List.any_eq_true.2 ⟨x, hm.out, decide_eq_true (by rw [← he, bl_st])⟩)
        clear he
        go_wp2
        go_ret
        exact ⟨by rw [HR.out]; rfl, rfl⟩
      · have q1 := str_ne he
        have HN := hid_ he
        clear he
        go_wp2
        go_round
        case rel => exact ⟨k + 1, by go_num, by omega, fun j hj => by
          by_cases e : j = k
          · subst e; rw [HX.out]; exact HN.out
          · exact HA.out j (by omega)⟩
        case measure => simp [intOf]; omega
    · have b1 : ¬ (k : Int) < 18 := by omega
      have HR := hid_ (show Lx.isKey (bl s) = false from by
        unfold Lx.isKey
        rw [List.any_eq_false]
        intro x hx
        obtain ⟨j, hj, rfl⟩ := List.mem_iff_getElem.1 hx
        have h1 := HA.out j (by have : Lx.keysL.length = 18 := rfl; omega)
        simp only [List.getD, List.getElem?_eq_getElem hj, Option.getD_some] at h1
        simp only [decide_eq_true_eq]
        intro e
        exact h1 (by rw [e, st_bl]))
      go_wp2
      go_ret
      exact ⟨by rw [HR.out]; rfl, rfl⟩
end Go.Proofs.YtmpdobpnnejmmaaDoor
