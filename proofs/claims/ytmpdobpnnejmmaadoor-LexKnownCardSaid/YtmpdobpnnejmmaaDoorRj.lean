/- The document's lex: the same words. Conditions: those that each theorem names. -/
import Derived.Test.YtmpdobpnnejmmaaDoorLm
import Derived.Deep.DeepCutAuto
import Derived.Deep.CutBlock
namespace Go.Proofs.YtmpdobpnnejmmaaDoor
open Go.RowKit Go.Maps

/-- A slice of words, wherever it lies. -/
def WsAt (w : World) (v : Value) (ws : List Lx.Wd) : Prop := ∃ A c, v = .slice A ws.length c ∧ (A = none → ws = []) ∧ ∀ b off n, A = some ⟨b, off, n⟩ → n = none ∧ ∀ j (h : j < ws.length) k, k < 4 → w.cell? ⟨b, off + j * 4 + k, none⟩ = (cellW ws[j])[k]?

theorem wd_ext : ∀ {a b : Lx.Wd}, a.kind = b.kind → a.text = b.text → a.num = b.num → a.pos = b.pos → a = b
  | ⟨_, _, _, _⟩, ⟨_, _, _, _⟩, rfl, rfl, rfl, rfl => rfl
theorem txt_eq {a b : List UInt8} (h : (st a).toList = (st b).toList) : a = b := by
  rw [ByteArray.toList_eq, ByteArray.toList_eq] at h
  have e := bl_st a
  rw [← e, ← bl_st b]
  exact h

set_option maxHeartbeats 4000000 in
set_option maxRecDepth 100000 in
theorem ref_Same {w : World} {a b : Value} {xs ys : List Lx.Wd} (ha : WsAt w a xs) (hb : WsAt w b ys) (hla : xs.length ≤ 1000000) : Calls Tryd.prog 12 #[a, b] w fun e w' => e = .returned (.bool (decide (xs = ys))) ∧ Below w.heap.size w w' := by
  obtain ⟨A, c, rfl, hn, hA⟩ := ha
  obtain ⟨B, d, rfl, hm, hB⟩ := hb
  by_cases hl : xs.length = ys.length
  · rw [← hl]
    go_enter Tryd.func12, Tryd.ntmps12
    go_wp2_with fail
    go_loopw [5] (fun v wr => Below w.heap.size w wr ∧ ∃ k : Nat, v = .int .i64 k ∧ k ≤ xs.length ∧ ∀ j (h1 : j < xs.length) (h2 : j < ys.length), j < k → xs[j] = ys[j]) (fun v _ => xs.length - (intOf v).toNat)
    case atStart => exact ⟨Below.refl _ _, 0, rfl, by omega, fun _ _ _ h => by omega⟩
    case round =>
      obtain ⟨hbw, k, rfl, hk, hall⟩ := hrel
      have HA := hid_ hall
      have HBw := hid_ hbw
      clear hall
      by_cases hlt : k < xs.length
      · have b0 : (0 : Int) ≤ (k : Int) := by omega
        have b1 : (k : Int) < (xs.length : Int) := by omega
        have hlt2 : k < ys.length := by omega
        cases A with
        | none => have := hn rfl; subst this; simp at hlt
        | some a =>
          obtain ⟨b, off, n⟩ := a
          obtain ⟨rfl, hcx⟩ := hA b off n rfl
          cases B with
          | none => have := hm rfl; subst this; simp at hlt2
          | some a =>
            obtain ⟨b', off', n'⟩ := a
            obtain ⟨rfl, hcy⟩ := hB b' off' n' rfl
            have x0 : wr.cell? ⟨b, off + k * 4, none⟩ = some (.int .i64 xs[k].kind) := below_cell hbw (hcx k hlt 0 (by omega))
            have x1 : wr.cell? ⟨b, off + k * 4 + 1, none⟩ = some (.string (st xs[k].text)) := below_cell hbw (hcx k hlt 1 (by omega))
            have x2 : wr.cell? ⟨b, off + k * 4 + 2, none⟩ = some (.int .i64 xs[k].num) := below_cell hbw (hcx k hlt 2 (by omega))
            have x3 : wr.cell? ⟨b, off + k * 4 + 3, none⟩ = some (.int .i64 xs[k].pos) := below_cell hbw (hcx k hlt 3 (by omega))
            have y0 : wr.cell? ⟨b', off' + k * 4, none⟩ = some (.int .i64 ys[k].kind) := below_cell hbw (hcy k hlt2 0 (by omega))
            have y1 : wr.cell? ⟨b', off' + k * 4 + 1, none⟩ = some (.string (st ys[k].text)) := below_cell hbw (hcy k hlt2 1 (by omega))
            have y2 : wr.cell? ⟨b', off' + k * 4 + 2, none⟩ = some (.int .i64 ys[k].num) := below_cell hbw (hcy k hlt2 2 (by omega))
            have y3 : wr.cell? ⟨b', off' + k * 4 + 3, none⟩ = some (.int .i64 ys[k].pos) := below_cell hbw (hcy k hlt2 3 (by omega))
            clear hbw
            by_cases p0 : xs[k].kind = ys[k].kind
            · by_cases p1 : (st xs[k].text).toList = (st ys[k].text).toList
              · by_cases p2 : xs[k].num = ys[k].num
                · by_cases p3 : xs[k].pos = ys[k].pos
                  · have HE := hid_ (show xs[k] = ys[k] from wd_ext p0 (txt_eq p1) p2 p3)
                    go_wp2_with fail
                    go_region
                    go_wp2_with fail
                    go_roundw
                    case rel => exact ⟨HBw.out.trans ((Below.refl _ _).drew.mono HBw.out.size), k + 1, by go_num, by omega, fun j h1 h2 hj => by
                      by_cases e : j = k
                      · subst e; exact HE.out
                      · exact HA.out j h1 h2 (by omega)⟩
                    case measure => simp [intOf]; omega
                  · have HR := hid_ (show decide (xs = ys) = false from decide_eq_false (fun e => by subst e; exact p3 rfl))
                    go_wp2_with fail
                    go_region
                    go_wp2_with fail
                    go_ret
                    exact ⟨by rw [HR.out]; rfl, HBw.out.trans ((Below.refl _ _).drew.mono HBw.out.size)⟩
                · have HR := hid_ (show decide (xs = ys) = false from decide_eq_false (fun e => by subst e; exact p2 rfl))
                  go_wp2_with fail
                  go_region
                  go_wp2_with fail
                  go_ret
                  exact ⟨by rw [HR.out]; rfl, HBw.out.trans ((Below.refl _ _).drew.mono HBw.out.size)⟩
              · have HR := hid_ (show decide (xs = ys) = false from decide_eq_false (fun e => by subst e; exact p1 rfl))
                go_wp2_with fail
                go_region
                go_wp2_with fail
                go_ret
                exact ⟨by rw [HR.out]; rfl, HBw.out.trans ((Below.refl _ _).drew.mono HBw.out.size)⟩
            · have HR := hid_ (show decide (xs = ys) = false from decide_eq_false (fun e => by subst e; exact p0 rfl))
              go_wp2_with fail
              go_region
              go_wp2_with fail
              go_ret
              exact ⟨by rw [HR.out]; rfl, HBw.out.trans ((Below.refl _ _).drew.mono HBw.out.size)⟩
      · have b1 : ¬ (k : Int) < (xs.length : Int) := by omega
        have HR := hid_ (show decide (xs = ys) = true from decide_eq_true (List.ext_getElem hl (fun j h1 h2 => HA.out j h1 h2 (by omega))))
        go_wp2_with fail
        go_ret
        exact ⟨by rw [HR.out]; rfl, HBw.out⟩
  · have q0 : (((xs.length : Nat) : Int) == ((ys.length : Nat) : Int)) = false := by simp only [beq_eq_false_iff_ne, ne_eq]; omega
    have HR := hid_ (show decide (xs = ys) = false from decide_eq_false (fun e => hl (by rw [e])))
    go_enter Tryd.func12, Tryd.ntmps12
    go_wp2_with fail
    go_ret
    exact ⟨by rw [HR.out]; rfl, Below.refl _ _⟩
end Go.Proofs.YtmpdobpnnejmmaaDoor
