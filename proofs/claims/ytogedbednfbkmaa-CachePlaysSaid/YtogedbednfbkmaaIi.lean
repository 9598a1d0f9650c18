/- CachePlays holds: for every input the law returns true and the input reads as it did. Conditions: none. -/
import Derived.Test.YtogedbednfbkmaaIh
import Derived.Test.YtogedbednfbkmaaLr
namespace Go.Proofs.Ytogedbednfbkmaa
open Go.ChangeShapes Go.WideShapes Go.ChangeAt Go.RowKit Go.Deep

theorem hone53 : oneCellFields Try.prog #[{ name := "Kind", type := 3, offset := 0, embedded := false, tag := "", pkgPath := "", byteOffset := 0 }, { name := "Cost", type := 3, offset := 1, embedded := false, tag := "", pkgPath := "", byteOffset := 8 }, { name := "Key", type := 9, offset := 2, embedded := false, tag := "", pkgPath := "", byteOffset := 16 }, { name := "Value", type := 32, offset := 3, embedded := false, tag := "", pkgPath := "", byteOffset := 32 }] = true := by kernel_rfl

/-- A slice of bytes that can be read reads as numbers. -/
theorem open_rdb {H : Type} {enc : TypeId × Value → H} {w : World} {fuel : Nat} {v : Value} {x : DataW H × List MemPlace} (h : DataW.trod enc Try.prog w 0 (fun _ => true) true fuel 32 [v] = some x) :
    ∃ (A : Option Addr) (n c : Nat) (xs : List Int), v = .slice A n c ∧ RdB w A n c xs ∧ n ≤ c ∧ n ≤ 9223372036854775807 := by
  rcases open_ints (k := .u8) Try.underlying32 (by kernel_rfl) (by kernel_rfl) h with ⟨hv, _⟩ | ⟨a, len, cap, zs, hcs, _, hl, hm, hzs, _, hc, _⟩
  · simp only [List.cons.injEq, and_true] at hv
    exact ⟨none, 0, 0, [], hv, ⟨rfl, fun _ => ⟨rfl, rfl⟩, fun h => absurd h (by omega)⟩, Nat.le_refl _, by omega⟩
  · simp only [List.cons.injEq, and_true] at hcs
    simp only [if_true] at hzs
    refine ⟨some a, len, cap, zs.take len, hcs, ⟨by rw [List.length_take]; omega, (by rintro ⟨⟩), fun h0 => ?_⟩, hl, by unfold maxLen at hm; omega⟩
    have h5 := hc 0 (by omega)
    obtain ⟨b, off, spot⟩ := a
    have hspot : spot = none := by simpa [Addr.add] using World.cell?_spot h5
    subst hspot
    refine ⟨b, off, rfl, fun j hj => ?_⟩
    have := hc j (by omega)
    rw [add_pl] at this
    rw [this]
    simp [List.getD, hj]

set_option maxRecDepth 100000 in
theorem open_dos {H : Type} {enc : TypeId × Value → H} {w : World} {fuel : Nat} {v : Value} {x : DataW H × List MemPlace} (h : DataW.trod enc Try.prog w 0 (fun _ => true) true fuel 47 [v] = some x) (hw : ∀ elems spare, x.1 = .slice elems spare → (elems.length + spare.length) * Try.prog.bytesOf 53 ≤ reachBytes) :
    ∃ (A : Option Addr) (n c : Nat) (f : Nat → Dv), v = .slice A n c ∧ RdW w A n f := by
  have hb : Try.prog.bytesOf 53 = 56 := by kernel_rfl
  have hk : Try.prog.cellsOf 53 = 4 := by kernel_rfl
  rcases open_slice (e := 53) (by kernel_rfl) h with ⟨hv, _⟩ | ⟨a, len, cap, mm, n, D, Pl, hcs, _, hl, hm, hmm, hx, hel⟩
  · simp only [List.cons.injEq, and_true] at hv
    exact ⟨none, 0, 0, fun _ => ⟨0, 0, .empty, none, 0, 0, []⟩, hv, by omega, fun j hj => by omega, fun h => by omega⟩
  · simp only [List.cons.injEq, and_true] at hcs
    subst hcs
    simp only [if_true] at hmm
    subst hmm
    have hlen : len ≤ 100000000000000 := by
      have := hw _ _ (by rw [hx])
      rw [hb] at this
      simp only [List.length_map, List.length_range, reachBytes] at this
      omega
    have key : ∀ j, j < len → ∃ d : Dv, (RdB w d.A d.n d.c d.xs ∧ d.n ≤ d.c ∧ d.n ≤ 9223372036854775807 ∧ d.key.size ≤ 9223372036854775807) ∧ w.cell? (a.add (j * 4)) = some (.int .i64 d.kind) ∧ w.cell? (a.add (j * 4 + 1)) = some (.int .i64 d.cost) ∧ w.cell? (a.add (j * 4 + 2)) = some (.string d.key) ∧ w.cell? (a.add (j * 4 + 3)) = some (.slice d.A d.n d.c) := by
      intro j hj
      obtain ⟨cs', hcl, htr⟩ := hel j (by omega)
      rw [hk] at hcl
      obtain ⟨ys, n', _, _, hlen2, hyl, hf⟩ := DataW.trod_struct Try.underlying53 htr
      obtain ⟨_, hcsl, hat⟩ := World.cells?_some hcl
      have f0 := hf 0 _ rfl
      have f1 := hf 1 _ rfl
      have f2 := hf 2 _ rfl
      have f3 := hf 3 _ rfl
      have a0 := hat 0 (by omega)
      have a1 := hat 1 (by omega)
      have a2 := hat 2 (by omega)
      have a3 := hat 3 (by omega)
      rw [Go.Deep.add_add] at a1 a2 a3
      match cs', hcsl with
      | [v0, v1, v2, v3], _ =>
        match ys, hyl with
        | [y0, y1, y2, y3], _ =>
          have g0 : DataW.trod enc Try.prog w 0 (fun _ => true) true n' 3 [v0] = some y0 := f0
          have g1 : DataW.trod enc Try.prog w 0 (fun _ => true) true n' 3 [v1] = some y1 := f1
          have g2 : DataW.trod enc Try.prog w 0 (fun _ => true) true n' 9 [v2] = some y2 := f2
          have g3 : DataW.trod enc Try.prog w 0 (fun _ => true) true n' 32 [v3] = some y3 := f3
          obtain ⟨z0, e0, _, _⟩ := DataW.trod_int (k := .i64) (by kernel_rfl) g0
          obtain ⟨z1, e1, _, _⟩ := DataW.trod_int (k := .i64) (by kernel_rfl) g1
          obtain ⟨s, e2, _, hs⟩ := DataW.trod_string (by kernel_rfl) g2
          obtain ⟨A, nn, cc, xs, rfl, hrd, h1, h2⟩ := open_rdb g3
          simp only [List.cons.injEq, and_true] at e0 e1 e2
          subst e0 e1 e2
          exact ⟨⟨z0, z1, s, A, nn, cc, xs⟩, ⟨hrd, h1, h2, by unfold maxLen at hs; exact hs⟩, a0, a1, a2, a3⟩
    have key2 : ∀ j, ∃ d : Dv, j < len → (RdB w d.A d.n d.c d.xs ∧ d.n ≤ d.c ∧ d.n ≤ 9223372036854775807 ∧ d.key.size ≤ 9223372036854775807) ∧ w.cell? (a.add (j * 4)) = some (.int .i64 d.kind) ∧ w.cell? (a.add (j * 4 + 1)) = some (.int .i64 d.cost) ∧ w.cell? (a.add (j * 4 + 2)) = some (.string d.key) ∧ w.cell? (a.add (j * 4 + 3)) = some (.slice d.A d.n d.c) := fun j => by
      by_cases hj : j < len
      · obtain ⟨d, hd⟩ := key j hj
        exact ⟨d, fun _ => hd⟩
      · exact ⟨⟨0, 0, .empty, none, 0, 0, []⟩, fun h => absurd h hj⟩
    obtain ⟨f, hf⟩ := Classical.skolem.1 key2
    refine ⟨some a, len, mm, f, rfl, hlen, fun j hj => (hf j hj).1, fun h0 => ?_⟩
    obtain ⟨b, off, spot⟩ := a
    have hspot : spot = none := by simpa [Addr.add] using World.cell?_spot (hf 0 h0).2.1
    subst hspot
    refine ⟨b, off, rfl, fun j hj => ?_⟩
    obtain ⟨c0, c1, c2, c3⟩ := (hf j hj).2
    rw [add_pl] at c0 c1 c2 c3
    exact ⟨c0, by rw [Nat.add_assoc]; exact c1, by rw [Nat.add_assoc]; exact c2, by rw [Nat.add_assoc]; exact c3⟩

set_option maxRecDepth 100000 in
theorem plays_walk (W : World) (base : Nat) (args : Array Value) {H : Type} {enc : TypeId × Value → H} (ds : List (DataW H)) (p : List MemPlace) (hval : ∀ (j : Nat) t v, [3, 47][j]? = some t → args[j]? = some v → Value.okWide Try.prog W .any base t v)
    (hA : DataW.TrodAll enc Try.prog W 0 (fun _ => true) true [3, 47] args.toList ds p) (hsz : (DataW.weightsEach Try.prog [3, 47] ds).all (· ≤ reachBytes) = true) :
    Calls Try.prog 7 args W fun e w' => e = .returned (.bool true) ∧ Below W.heap.size W w' := by
  obtain ⟨v, v1, d, d1, p0, p1, rfl, rfl, rfl, h, h1⟩ := trodAll_two hA
  obtain ⟨k0, rfl, rfl, rfl, _⟩ := open_int (k := .i64) (by kernel_rfl) (hval 0 3 v rfl rfl) h
  obtain ⟨a0, len, cap, rfl⟩ := okWide_slice (e := 53) (by kernel_rfl) (hval 1 47 v1 rfl rfl)
  obtain ⟨fuel, hf⟩ := h1
  obtain ⟨A, n, c, f, hv, hrd⟩ := open_dos hf (fun es sp hx => sized_slice hsz (j := 1) (t := 47) (e := 53) rfl (by rw [show d1 = _ from hx]; rfl) (by kernel_rfl))
  obtain ⟨rfl, rfl, rfl⟩ : a0 = A ∧ len = n ∧ cap = c := by injection hv with h1 h2 h3; exact ⟨h1, h2, h3⟩
  exact plays_try k0 hrd

set_option maxRecDepth 100000 in
theorem plays_holds : Rows.CachePlaysSaid :=
  OpenClaim.holds_of_wide 7 Try.f7 rfl rfl rfl rfl rfl rfl rfl ⟨rfl, rfl, rfl, rfl, rfl⟩ rfl rfl rfl rfl rfl (by kernel_rfl) Try.func7 (by kernel_rfl)
    (of_decide_eq_true (by kernel_rfl)) (by unfold Func.isWrapper; rw [if_neg (of_decide_eq_false (by kernel_rfl))]; exact ⟨rfl, rfl⟩)
    (fun os started H enc _ => law_row started (s := Rows.cachePlaysSpec) (ts := [3, 47]) (b := 4) (by kernel_rfl) Try.func7 (by rw [Try.params7]) (by kernel_rfl) (by kernel_rfl) (by
        have h1 : Try.prog.readableRec 3 = true ∧ 3 < Try.prog.types.size := ⟨by kernel_rfl, of_decide_eq_true (by kernel_rfl)⟩
        have h2 : Try.prog.readableRec 47 = true ∧ 47 < Try.prog.types.size := ⟨by kernel_rfl, of_decide_eq_true (by kernel_rfl)⟩
        intro t ht
        simp only [List.mem_cons, List.not_mem_nil, or_false] at ht
        rcases ht with rfl | rfl
        · exact h1
        · exact h2) rfl
      (fun ds hl => by
        match ds, hl with
        | [d, d1], _ => rfl)
      (ChangeSpec.witness6 (enc := enc) (C := Try.checked) false ⟨#[], #[.int .i64 0, .slice none 0 0], []⟩ 7 (by kernel_rfl) (by kernel_rfl) (by kernel_rfl) (by kernel_rfl))
      (fun W base args ds p h1 h2 h3 => plays_walk W base args ds p h1 h2 h3))
end Go.Proofs.Ytogedbednfbkmaa
