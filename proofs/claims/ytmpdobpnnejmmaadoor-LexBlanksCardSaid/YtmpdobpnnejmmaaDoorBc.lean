/- row: words out of seeds. Conditions: those that each theorem names. -/
import Derived.Test.YtmpdobpnnejmmaaDoorBb
import Derived.Test.YtmpdobpnnejmmaaDoorOp
import Derived.Deep.AppendLies
namespace Go.Proofs.YtmpdobpnnejmmaaDoor
open Go.RowKit Go.Maps

/-- What row answers. -/
def RowP (w : World) (e : Ending) (w' : World) : Prop := (∃ (ys : List Lx.Wd) (v : Value), e = .returned v ∧ ys.length ≤ 100 ∧ (∀ y ∈ ys, Lx.Good y) ∧ WsOwn w' w.heap.size v ys) ∧ Below w.heap.size w w'
structure RoR (w wr : World) (k : Nat) (ys : List Lx.Wd) (v : Value) : Prop where
  own : wr.ownsRow w.heap.size 30 4 v k (flatW ys)
  bel : Below w.heap.size w wr
  len : ys.length = k
  good : ∀ y ∈ ys, Lx.Good y
theorem RoR.below {w wr w2 : World} {k : Nat} {ys : List Lx.Wd} {v : Value} (h : RoR w wr k ys v) (hb : Below wr.heap.size wr w2) : RoR w w2 k ys v :=
  ⟨own_kp h.own (Kp.of_below hb fun _ => False) (fun _ _ h => h), h.bel.trans (hb.mono h.bel.size), h.len, h.good⟩
theorem RoR.add {w wr w2 : World} {k : Nat} {ys : List Lx.Wd} {v v' : Value} {x : Lx.Wd} (h : RoR w wr k ys v) (hg : wr.grownBy w2 v.ownBlock)
    (hown : w2.ownsRow w.heap.size 30 4 v' (k + 1) (flatW ys ++ cellW x)) (hx : Lx.Good x) : RoR w w2 (k + 1) (ys ++ [x]) v' := by
  refine ⟨?_, h.bel.trans (((Kp.refl (fun q => w.heap.size ≤ q) _).grown hg (fun k hk => .inl (own_base h.own hk))).toBelow h.bel.size (fun q hq e => by omega)), by simp [h.len], ?_⟩
  · rw [flatW_append]
    have e2 : flatW [x] = cellW x := by simp [flatW]
    rw [e2]
    exact hown
  · intro y hy
    rcases List.mem_append.1 hy with hy | hy
    · exact h.good y hy
    · rw [List.mem_singleton.1 hy]; exact hx
theorem news_word (w : World) (x : Lx.Wd) (t : TypeId) : ∀ ad, some (⟨w.heap.size, 0, none⟩ : Addr) = some ad → ∀ (j : Nat) u, (cellW x)[j]? = some u → (w.alloc (.cells (cellW x).toArray t)).cell? (ad.add j) = some u := by
  intro ad had j u hu
  injection had with had
  subst had
  have := World.news_of_block (heap_alloc_new w (.cells (cellW x).toArray t)) j u
  exact this hu

theorem made_ (w : World) (kind n : Int) (s : ByteArray) (hs : s.size ≤ maxLen) : Calls Tryd.prog 44 #[.int .i64 kind, .int .i64 n, .string s] w fun e w' => ∃ x : Lx.Wd, Lx.Good x ∧ e = .returned (.agg #[.int .i64 x.kind, .string (st x.text), .int .i64 x.num, .int .i64 x.pos]) ∧ Below w.heap.size w w' :=
  (made_c w kind n s hs).mono fun _ _ ⟨⟨x, h1, h2⟩, h3⟩ => ⟨x, h1, h2, h3⟩
set_option maxHeartbeats 4000000 in
set_option maxRecDepth 100000 in
theorem row_c {w : World} {v : Value} {xs : List Sd} (h : LsAt cellS 3 w v xs) (hfew : xs.length ≤ 100000000000000) (hok : ∀ x ∈ xs, x.ok) : Calls Tryd.prog 23 #[v] w (RowP w) := by
  obtain ⟨A, c, rfl, hA⟩ := h
  obtain ⟨i0, hi0, hz0, hz1, hz2⟩ := info_parts Tryd.infoW
  go_enter Tryd.func23, Tryd.ntmps23
  go_wp2_with fail
  go_loopg [3, 4] 101 (fun g t2 t3 wr => ∃ (k : Nat) (ys : List Lx.Wd) (v : Value), t2 = v ∧ t3 = .int .i64 k ∧ k ≤ xs.length ∧ k ≤ 100 ∧ 101 - k ≤ g ∧ RoR w wr k ys v)
  case atStart => exact ⟨0, [], _, rfl, rfl, by omega, by omega, by omega, World.ownsRow_nil _ _ _ _, Below.refl _ _, rfl, fun y hy => by cases hy⟩
  case round =>
    obtain ⟨k, ys, v, rfl, rfl, hk, hk2, hg, hJ⟩ := hrel
    obtain ⟨B, d, rfl⟩ := own_form hJ.own
    have HJ := hid_ hJ
    have hbw := hJ.bel
    clear hJ
    by_cases hin : k < xs.length ∧ k < 100
    · obtain ⟨hlt, hlt2⟩ := hin
      have b0 : (0 : Int) ≤ (k : Int) := by omega
      have b1 : (k : Int) < (xs.length : Int) := by omega
      have b2 : (k : Int) < 100 := by omega
      obtain ⟨b, off, rfl, hcx⟩ := hA (by omega)
      have x0 : wr.cell? ⟨b, off + k * 3, none⟩ = some (.int .i64 xs[k].kind) := below_cell hbw (hcx k hlt 0 (by omega))
      have x1 : wr.cell? ⟨b, off + k * 3 + 1, none⟩ = some (.int .i64 xs[k].n) := below_cell hbw (hcx k hlt 1 (by omega))
      have x2 : wr.cell? ⟨b, off + k * 3 + 2, none⟩ = some (.string xs[k].s) := below_cell hbw (hcx k hlt 2 (by omega))
      have HOk := hid_ (hok xs[k] (List.getElem_mem hlt))
      clear hbw hA hcx
      have HJd := hid_ (HJ.out.below (Below.refl wr.heap.size wr).drew)
      have HMade := hid_ (fun W => made_ W xs[k].kind xs[k].n xs[k].s HOk.out.2.2)
      have HM := hid_ (show k + 1 ≤ maxLen by unfold maxLen; omega)
      have hfl : (k + 1) * 40 ≤ 140737488355328 := by omega
      clear HOk
      go_wp2_with fail
      go_region_law (first
        | (refine step_append_any (by rfl) (.tmp 15) (.tmp 32) 22 (by rfl) w.heap.size 30 i0 _ 4 40 Tryd.underlying22 hi0 hz0 hz1 hz2 rfl (by omega) (.slice B k d) k _ (by rfl) HX2.out.own (some ⟨w2.heap.size, 0, none⟩) 1 1 (cellW x) (by rfl) rfl (fun h => by cases h) (news_word w2 x _) (by simp [cellW, Value.oneCell']) HM.out (by omega) HX2.out.bel.size ?_; intro A1 c1 w1 hown hgrow hat; clear hat)
        | (go_simp; go_at_call 44; refine (HMade.out _).mono ?_; rintro e w2 ⟨x, hx, rfl, hb2⟩; have HX := hid_ (HJd.out.below hb2); have HX2 := hid_ (HX.out.below ((Below.refl w2.heap.size w2).alloc (Nat.le_refl _) (.cells (cellW x).toArray 30))); have HGd := hid_ hx; clear hx hb2))
      all_goals
        have HNx := hid_ (HX2.out.add hgrow hown HGd.out)
        clear hown hgrow
        go_wp2_with fail
        go_roundg (gk - 1)
        case rel => exact ⟨k + 1, _, _, rfl, by go_num, by omega, by omega, by omega, HNx.out⟩
        case measure => omega
    · have hex : (¬ k < xs.length) ∨ (k < xs.length ∧ ¬ k < 100) := by omega
      have b0 : (0 : Int) ≤ (k : Int) := by omega
      have HE := hid_ (show RowP w (.returned (.slice B k d)) wr from ⟨⟨ys, _, rfl, by rw [HJ.out.len]; exact hk2, HJ.out.good, by unfold WsOwn; rw [HJ.out.len]; exact HJ.out.own⟩, HJ.out.bel⟩)
      clear hbw hA
      rcases hex with h1 | ⟨h1, h2⟩
      case' inl => have b1 : ¬ (k : Int) < (xs.length : Int) := by omega
      case' inr =>
        have b1 : (k : Int) < (xs.length : Int) := by omega
        have b2 : ¬ (k : Int) < 100 := by omega
      all_goals
        go_wp2_with fail
        go_ret
        exact HE.out
end Go.Proofs.YtmpdobpnnejmmaaDoor
