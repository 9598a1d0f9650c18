/- The argument Module, opened: rows of structs with rows in them. Conditions: those that each theorem names. -/
import Derived.Test.YtmgjmagniefhoaaGreatDoorAc01
import Derived.Test.YtmgjmagniefhoaaGreatDoorAa25
namespace Go.Proofs.YtmgjmagniefhoaaGreatDoor
open Go.ChangeShapes Go.WideShapes Go.ChangeAt Go.RowKit Go.Deep

theorem rows_at {α : Type} {cell : α → List Value} {k : Nat} (hl : ∀ a, (cell a).length = k) : ∀ (xs : List α) (i : Nat) (h : i < xs.length) (r : Nat), r < k → (xs.flatMap cell)[i * k + r]? = (cell xs[i])[r]?
  | [], i, h, r, _ => by simp at h
  | x :: xs, 0, h, r, hr => by
    rw [List.flatMap_cons, List.getElem?_append_left (by rw [hl]; omega)]
    simp
  | x :: xs, i + 1, h, r, hr => by
    rw [List.flatMap_cons, List.getElem?_append_right (by rw [hl, Nat.add_mul]; omega), hl, show (i + 1) * k + r - k = i * k + r by rw [Nat.add_mul]; omega, rows_at hl xs i (by simpa using h) r hr]
    simp
theorem rows_len {α : Type} {cell : α → List Value} {k : Nat} (hl : ∀ a, (cell a).length = k) : ∀ xs : List α, (xs.flatMap cell).length = xs.length * k
  | [] => by simp
  | x :: xs => by rw [List.flatMap_cons, List.length_append, hl, rows_len hl xs, List.length_cons, Nat.add_mul]; omega
theorem w_all {H : Type} {P : Program} {e : TypeId} : ∀ {es : List (DataW H)} {d : DataW H} {n : Nat}, d ∈ es → n ∈ d.weights P e → n ∈ DataW.weightsAll P e es
  | x :: es, d, n, hd, hn => by
    rw [DataW.weightsAll]
    rcases List.mem_cons.1 hd with rfl | hd
    · exact List.mem_append_left _ hn
    · exact List.mem_append_right _ (w_all hd hn)
theorem w_field {H : Type} {P : Program} {t tj : TypeId} {fs : Array Field} {parts : List (DataW H)} {d : DataW H} {j B : Nat} (hu : P.underlying t = some (.struct fs)) (ht : (fs.toList.map (·.type))[j]? = some tj) (hd : parts[j]? = some d) (hw : ∀ n ∈ (DataW.agg parts).weights P t, n ≤ B) : ∀ n ∈ d.weights P tj, n ≤ B := fun n hn => by
  refine hw n ?_
  rw [DataW.weights, hu]
  exact DataW.weights_mem_each ht hd n hn
theorem RowZ0.strong {w : World} {v : Value} {n : Nat} {xs : List Value} (h : RowZ0 w v n xs) (hq : ∀ a n c, v = .slice (some a) n c → a.spot = none) : RowZ w v n xs := by
  obtain ⟨A, c, rfl, h0, h1⟩ := h
  refine ⟨⟨A, c, rfl, fun e => (h0 e).1, fun b off q e => ?_⟩, fun n' c' e => ?_⟩
  · subst e
    have : q = none := hq _ _ _ rfl
    subst this
    refine ⟨rfl, fun j u hu => ?_⟩
    have := h1 _ rfl j u hu
    rw [add_pl'] at this
    exact this
  · injection e with e1 _ e3
    subst e1 e3
    exact (h0 rfl).2
theorem open_rows {H : Type} {enc : TypeId × Value → H} {P : Program} {w : World} {α : Type} {t e : TypeId} {k B fuel : Nat} {v : Value} {x : DataW H × List MemPlace} (cell : α → List Value) (Q : α → Prop)
    (ht : P.underlying t = some (.slice e)) (hk : P.cellsOf e = k) (hk0 : 0 < k) (hb : P.bytesOf e = B) (hl : ∀ a, (cell a).length = k)
    (elem : ∀ fuel cs y, cs.length = k → DataW.trod enc P w 0 (fun _ => true) true fuel e cs = some y → (∀ n ∈ y.1.weights P e, n ≤ reachBytes) → ∃ a, cs = cell a ∧ Q a)
    (h : DataW.trod enc P w 0 (fun _ => true) true fuel t [v] = some x) (hw : ∀ n ∈ x.1.weights P t, n ≤ reachBytes) :
    ∃ xs : List α, RowZ0 w v xs.length (xs.flatMap cell) ∧ xs.length * B ≤ 140737488351232 ∧ ∀ a ∈ xs, Q a := by
  rcases open_slice ht h with ⟨hv, _⟩ | ⟨a, len, cap, mm, n, D, Pl, hcs, _, hl2, hm, hmm, hx, hel⟩
  · simp at hv
    subst hv
    exact ⟨[], ⟨none, 0, rfl, fun _ => ⟨rfl, rfl⟩, fun _ h => by cases h⟩, by simp, fun a h => by cases h⟩
  · simp only [List.cons.injEq, and_true] at hcs
    subst hcs
    simp only [if_true] at hmm
    subst hmm
    have hw2 : ∀ n ∈ (DataW.slice ((List.range len).map D) ((List.range (mm - len)).map fun j => D (len + j))).weights P t, n ≤ reachBytes := by rw [hx] at hw; exact hw
    rw [DataW.weights, ht] at hw2
    have hlen : len * B ≤ 140737488351232 := by
      have := hw2 _ List.mem_cons_self
      simp only [List.length_map, List.length_range, reachBytes, hb] at this
      have h2 : len * B ≤ (len + (mm - len)) * B := Nat.mul_le_mul (by omega) (Nat.le_refl _)
      omega
    have key : ∀ j : Fin len, ∃ b : α, Q b ∧ ∀ i, i < k → w.cell? (a.add (j.1 * k + i)) = (cell b)[i]? := by
      intro ⟨j, hj⟩
      obtain ⟨cs', hcl, htr⟩ := hel j (by omega)
      rw [hk] at hcl
      obtain ⟨_, hcsl, hat⟩ := World.cells?_some hcl
      obtain ⟨b, rfl, hq⟩ := elem _ _ _ hcsl htr (fun n hn => hw2 n (List.mem_cons_of_mem _ (List.mem_append_left _ (w_all (List.mem_map.2 ⟨j, List.mem_range.2 hj, rfl⟩) hn))))
      refine ⟨b, hq, fun i hi => ?_⟩
      have := hat i (by omega)
      rw [Go.Deep.add_add] at this
      exact this
    obtain ⟨f, hf⟩ := Classical.skolem.1 key
    have hlf : (List.ofFn f).length = len := List.length_ofFn
    refine ⟨List.ofFn f, ⟨some a, mm, by rw [hlf], (fun h => by cases h), fun ad had j u hu => ?_⟩, by rw [hlf]; exact hlen, fun b hb => ?_⟩
    · injection had with had
      subst had
      have hj := (List.getElem?_eq_some_iff.1 hu).1
      rw [rows_len hl, hlf] at hj
      have hd : j / k < len := Nat.div_lt_of_lt_mul (by rw [Nat.mul_comm]; exact hj)
      have hr : j % k < k := Nat.mod_lt _ hk0
      have e : j = j / k * k + j % k := by rw [Nat.mul_comm]; exact (Nat.div_add_mod j k).symm
      rw [e, rows_at hl _ _ (by rw [hlf]; exact hd) _ hr, List.getElem_ofFn] at hu
      rw [e, (hf ⟨j / k, hd⟩).2 (j % k) hr]
      exact hu
    · obtain ⟨i, rfl⟩ := List.mem_ofFn.1 hb
      exact (hf i).1
theorem strs_flat (l : List (List UInt8)) : l.flatMap (fun t => [Value.string (st t)]) = strs l := by
  unfold strs
  induction l with
  | nil => rfl
  | cons a l ih => rw [List.flatMap_cons, ih]; rfl
theorem ints_flat (l : List Int) : l.flatMap (fun z => [Value.int .i64 z]) = ints l := by
  unfold ints
  induction l with
  | nil => rfl
  | cons a l ih => rw [List.flatMap_cons, ih]; rfl
section
variable {H : Type} {enc : TypeId × Value → H} {w : World} {fuel : Nat} {v : Value} {x : DataW H × List MemPlace}
theorem open_strs (h : DataW.trod enc Tryz.prog w 0 (fun _ => true) true fuel 26 [v] = some x) (hw : ∀ n ∈ x.1.weights Tryz.prog 26, n ≤ reachBytes) : ∃ l : List (List UInt8), RowZ0 w v l.length (strs l) ∧ l.length * 16 ≤ 140737488351232 := by
  obtain ⟨l, h1, h2, _⟩ := open_rows (k := 1) (B := 16) (fun t => [Value.string (st t)]) (fun _ => True) Tryz.underlying26 (by kernel_rfl) (by decide) (by kernel_rfl) (fun _ => rfl) (fun fuel cs y hcs htr _ => by
    obtain ⟨s, e1, _, _⟩ := DataW.trod_string (by kernel_rfl) htr
    exact ⟨bl s, by rw [e1, st_bl], trivial⟩) h hw
  rw [strs_flat] at h1
  exact ⟨l, h1, h2⟩
theorem open_intz (h : DataW.trod enc Tryz.prog w 0 (fun _ => true) true fuel 22 [v] = some x) (hw : ∀ n ∈ x.1.weights Tryz.prog 22, n ≤ reachBytes) : ∃ l : List Int, RowZ0 w v l.length (ints l) ∧ l.length * 8 ≤ 140737488351232 := by
  obtain ⟨l, h1, h2, _⟩ := open_rows (k := 1) (B := 8) (fun z => [Value.int .i64 z]) (fun _ => True) Tryz.underlying22 (by kernel_rfl) (by decide) (by kernel_rfl) (fun _ => rfl) (fun fuel cs y hcs htr _ => by
    obtain ⟨z, e1, _, _⟩ := DataW.trod_int (k := .i64) (by kernel_rfl) htr
    exact ⟨z, e1, trivial⟩) h hw
  rw [ints_flat] at h1
  exact ⟨l, h1, h2⟩
set_option maxRecDepth 100000 in
theorem open_decls (h : DataW.trod enc Tryz.prog w 0 (fun _ => true) true fuel 27 [v] = some x) (hw : ∀ n ∈ x.1.weights Tryz.prog 27, n ≤ reachBytes) : ∃ l : List Tr.Vr, RowZ0 w v l.length (flatV l) ∧ l.length * 24 ≤ 140737488351232 := by
  obtain ⟨l, h1, h2, _⟩ := open_rows (k := 2) (B := 24) (fun x : Tr.Vr => [Value.string (st x.name), .int .i64 x.type]) (fun _ => True) Tryz.underlying27 (by kernel_rfl) (by decide) (by kernel_rfl) (fun _ => rfl) (fun fuel cs y hcs htr _ => by
    obtain ⟨ys, n', _, _, hlen2, hyl, hf⟩ := DataW.trod_struct Tryz.underlying59 htr
    have f0 := hf 0 _ rfl
    have f1 := hf 1 _ rfl
    match cs, hcs with
    | [v0, v1], _ =>
      match ys, hyl with
      | [y0, y1], _ =>
        have g0 : DataW.trod enc Tryz.prog w 0 (fun _ => true) true n' 9 [v0] = some y0 := f0
        have g1 : DataW.trod enc Tryz.prog w 0 (fun _ => true) true n' 3 [v1] = some y1 := f1
        obtain ⟨s, e0, _, _⟩ := DataW.trod_string (by kernel_rfl) g0
        obtain ⟨z1, e1, _, _⟩ := DataW.trod_int (k := .i64) (by kernel_rfl) g1
        simp only [List.cons.injEq, and_true] at e0 e1
        subst e0 e1
        exact ⟨⟨bl s, z1⟩, by rw [st_bl], trivial⟩) h hw
  exact ⟨l, h1, h2⟩
set_option maxRecDepth 100000 in
theorem open_vars (h : DataW.trod enc Tryz.prog w 0 (fun _ => true) true fuel 52 [v] = some x) (hw : ∀ n ∈ x.1.weights Tryz.prog 52, n ≤ reachBytes) : ∃ l : List Tr.Vr, RowZ0 w v l.length (flatV l) ∧ l.length * 24 ≤ 140737488351232 := by
  obtain ⟨l, h1, h2, _⟩ := open_rows (k := 2) (B := 24) (fun x : Tr.Vr => [Value.string (st x.name), .int .i64 x.type]) (fun _ => True) Tryz.underlying52 (by kernel_rfl) (by decide) (by kernel_rfl) (fun _ => rfl) (fun fuel cs y hcs htr _ => by
    obtain ⟨ys, n', _, _, hlen2, hyl, hf⟩ := DataW.trod_struct Tryz.underlying67 htr
    have f0 := hf 0 _ rfl
    have f1 := hf 1 _ rfl
    match cs, hcs with
    | [v0, v1], _ =>
      match ys, hyl with
      | [y0, y1], _ =>
        have g0 : DataW.trod enc Tryz.prog w 0 (fun _ => true) true n' 9 [v0] = some y0 := f0
        have g1 : DataW.trod enc Tryz.prog w 0 (fun _ => true) true n' 3 [v1] = some y1 := f1
        obtain ⟨s, e0, _, _⟩ := DataW.trod_string (by kernel_rfl) g0
        obtain ⟨z1, e1, _, _⟩ := DataW.trod_int (k := .i64) (by kernel_rfl) g1
        simp only [List.cons.injEq, and_true] at e0 e1
        subst e0 e1
        exact ⟨⟨bl s, z1⟩, by rw [st_bl], trivial⟩) h hw
  exact ⟨l, h1, h2⟩
/-- A function's inner rows. -/
def FxQ (w : World) (x : Fx) : Prop := RowZ0 w x.2.1 x.1.vars.length (flatV x.1.vars) ∧ RowZ0 w x.2.2 x.1.params.length (flatV x.1.params) ∧ x.1.vars.length * 24 ≤ 140737488351232 ∧ x.1.params.length * 24 ≤ 140737488351232
/-- A node's inner rows. -/
def NxQ (w : World) (x : Nx) : Prop := RowZ0 w x.2.1 x.1.keys.length (strs x.1.keys) ∧ RowZ0 w x.2.2 x.1.l.length (ints x.1.l) ∧ x.1.keys.length * 16 ≤ 140737488351232 ∧ x.1.l.length * 8 ≤ 140737488351232
set_option maxRecDepth 100000 in
theorem open_fns (h : DataW.trod enc Tryz.prog w 0 (fun _ => true) true fuel 28 [v] = some x) (hw : ∀ n ∈ x.1.weights Tryz.prog 28, n ≤ reachBytes) : ∃ l : List Fx, RowZ0 w v l.length (flatF l) ∧ l.length * 80 ≤ 140737488351232 ∧ ∀ x ∈ l, FxQ w x :=
  open_rows (k := 5) (B := 80) cellF (FxQ w) Tryz.underlying28 (by kernel_rfl) (by decide) (by kernel_rfl) (fun _ => rfl) (fun fuel cs y hcs htr hwy => by
    obtain ⟨ys, n', _, hx, hlen2, hyl, hf⟩ := DataW.trod_struct Tryz.underlying54 htr
    have f0 := hf 0 _ rfl
    have f1 := hf 1 _ rfl
    have f2 := hf 2 _ rfl
    have f3 := hf 3 _ rfl
    have f4 := hf 4 _ rfl
    match cs, hcs with
    | [v0, v1, v2, v3, v4], _ =>
      match ys, hyl with
      | [y0, y1, y2, y3, y4], _ =>
        have g0 : DataW.trod enc Tryz.prog w 0 (fun _ => true) true n' 9 [v0] = some y0 := f0
        have g1 : DataW.trod enc Tryz.prog w 0 (fun _ => true) true n' 52 [v1] = some y1 := f1
        have g2 : DataW.trod enc Tryz.prog w 0 (fun _ => true) true n' 52 [v2] = some y2 := f2
        have g3 : DataW.trod enc Tryz.prog w 0 (fun _ => true) true n' 3 [v3] = some y3 := f3
        have g4 : DataW.trod enc Tryz.prog w 0 (fun _ => true) true n' 3 [v4] = some y4 := f4
        have hwz : ∀ n ∈ (DataW.agg [y0.1, y1.1, y2.1, y3.1, y4.1]).weights Tryz.prog 54, n ≤ reachBytes := by rw [hx] at hwy; exact hwy
        obtain ⟨s, e0, _, _⟩ := DataW.trod_string (by kernel_rfl) g0
        obtain ⟨vs, r1, b1⟩ := open_vars g1 (w_field (j := 1) Tryz.underlying54 rfl rfl hwz)
        obtain ⟨ps, r2, b2⟩ := open_vars g2 (w_field (j := 2) Tryz.underlying54 rfl rfl hwz)
        obtain ⟨z3, e3, _, _⟩ := DataW.trod_int (k := .i64) (by kernel_rfl) g3
        obtain ⟨z4, e4, _, _⟩ := DataW.trod_int (k := .i64) (by kernel_rfl) g4
        simp only [List.cons.injEq, and_true] at e0 e3 e4
        subst e0 e3 e4
        exact ⟨(⟨bl s, vs, ps, z3, z4⟩, v1, v2), by unfold cellF; rw [st_bl], r1, r2, b1, b2⟩) h hw
set_option maxRecDepth 100000 in
theorem open_nodes (h : DataW.trod enc Tryz.prog w 0 (fun _ => true) true fuel 29 [v] = some x) (hw : ∀ n ∈ x.1.weights Tryz.prog 29, n ≤ reachBytes) : ∃ l : List Nx, RowZ0 w v l.length (flatN l) ∧ l.length * 96 ≤ 140737488351232 ∧ ∀ x ∈ l, NxQ w x :=
  open_rows (k := 6) (B := 96) (fun x : Nx => cellN x.1 x.2.1 x.2.2) (NxQ w) Tryz.underlying29 (by kernel_rfl) (by decide) (by kernel_rfl) (fun _ => rfl) (fun fuel cs y hcs htr hwy => by
    obtain ⟨ys, n', _, hx, hlen2, hyl, hf⟩ := DataW.trod_struct Tryz.underlying57 htr
    have f0 := hf 0 _ rfl
    have f1 := hf 1 _ rfl
    have f2 := hf 2 _ rfl
    have f3 := hf 3 _ rfl
    have f4 := hf 4 _ rfl
    have f5 := hf 5 _ rfl
    match cs, hcs with
    | [v0, v1, v2, v3, v4, v5], _ =>
      match ys, hyl with
      | [y0, y1, y2, y3, y4, y5], _ =>
        have g0 : DataW.trod enc Tryz.prog w 0 (fun _ => true) true n' 3 [v0] = some y0 := f0
        have g1 : DataW.trod enc Tryz.prog w 0 (fun _ => true) true n' 3 [v1] = some y1 := f1
        have g2 : DataW.trod enc Tryz.prog w 0 (fun _ => true) true n' 9 [v2] = some y2 := f2
        have g3 : DataW.trod enc Tryz.prog w 0 (fun _ => true) true n' 9 [v3] = some y3 := f3
        have g4 : DataW.trod enc Tryz.prog w 0 (fun _ => true) true n' 26 [v4] = some y4 := f4
        have g5 : DataW.trod enc Tryz.prog w 0 (fun _ => true) true n' 22 [v5] = some y5 := f5
        have hwz : ∀ n ∈ (DataW.agg [y0.1, y1.1, y2.1, y3.1, y4.1, y5.1]).weights Tryz.prog 57, n ≤ reachBytes := by rw [hx] at hwy; exact hwy
        obtain ⟨z0, e0, _, _⟩ := DataW.trod_int (k := .i64) (by kernel_rfl) g0
        obtain ⟨z1, e1, _, _⟩ := DataW.trod_int (k := .i64) (by kernel_rfl) g1
        obtain ⟨s2, e2, _, _⟩ := DataW.trod_string (by kernel_rfl) g2
        obtain ⟨s3, e3, _, _⟩ := DataW.trod_string (by kernel_rfl) g3
        obtain ⟨ks, r1, b1⟩ := open_strs g4 (w_field (j := 4) Tryz.underlying57 rfl rfl hwz)
        obtain ⟨ls, r2, b2⟩ := open_intz g5 (w_field (j := 5) Tryz.underlying57 rfl rfl hwz)
        simp only [List.cons.injEq, and_true] at e0 e1 e2 e3
        subst e0 e1 e2 e3
        exact ⟨(⟨z0, z1, bl s2, bl s3, ks, ls⟩, v4, v5), by unfold cellN; rw [st_bl, st_bl], r1, r2, b1, b2⟩) h hw
set_option maxRecDepth 100000 in
theorem slice_spot {base t e : Nat} {a : Addr} {n c : Nat} (hu : Tryz.prog.underlying t = some (.slice e)) (h : Cell.okWide Tryz.prog w .any base t (.slice (some a) n c)) : a.spot = none := by
  unfold Cell.okWide at h
  rw [hu] at h
  have h2 : Cell.ok Tryz.prog w .any base t (.slice (some a) n c) := h
  unfold Cell.ok at h2
  rw [hu] at h2
  exact h2.2.2.2.1
set_option maxRecDepth 100000 in
theorem open_module {base : Nat} {d : DataW H} {p : List MemPlace} (hok : Value.okWide Tryz.prog w .any base 31 v)
    (h : DataW.Trod enc Tryz.prog w 0 (fun _ => true) true 31 v d p) (hw : ∀ n ∈ d.weights Tryz.prog 31, n ≤ reachBytes) :
    ∃ (iv tv fv nv : Value) (m : Tr.Md) (fx : List Fx) (nx : List Nx), v = .agg #[.string (st m.name), iv, tv, fv, nv] ∧ MZ0 w iv tv fv nv m fx nx := by
  obtain ⟨fuel, h⟩ := h
  unfold Value.okWide at hok
  rw [Tryz.underlying31] at hok
  obtain ⟨cs, rfl, hcs, ts, hts, _, hcell⟩ := hok
  have hcs1 : cs.size = 5 := hcs.trans (by kernel_rfl)
  obtain ⟨v0, v1, v2, v3, v4, rfl⟩ : ∃ v0 v1 v2 v3 v4, cs = #[v0, v1, v2, v3, v4] := by
    obtain ⟨l⟩ := cs
    match l, hcs1 with
    | [v0, v1, v2, v3, v4], _ => exact ⟨v0, v1, v2, v3, v4, rfl⟩
  have hts1 : ts = [9, 26, 27, 28, 29] := Option.some.inj (hts.symm.trans (by kernel_rfl))
  subst hts1
  obtain ⟨ys, n', _, hx, _, hyl, hf⟩ := DataW.trod_struct Tryz.underlying31 h
  have f0 := hf 0 _ rfl
  have f1 := hf 1 _ rfl
  have f2 := hf 2 _ rfl
  have f3 := hf 3 _ rfl
  have f4 := hf 4 _ rfl
  match ys, hyl with
  | [y0, y1, y2, y3, y4], _ =>
    have g0 : DataW.trod enc Tryz.prog w 0 (fun _ => true) true n' 9 [v0] = some y0 := f0
    have g1 : DataW.trod enc Tryz.prog w 0 (fun _ => true) true n' 26 [v1] = some y1 := f1
    have g2 : DataW.trod enc Tryz.prog w 0 (fun _ => true) true n' 27 [v2] = some y2 := f2
    have g3 : DataW.trod enc Tryz.prog w 0 (fun _ => true) true n' 28 [v3] = some y3 := f3
    have g4 : DataW.trod enc Tryz.prog w 0 (fun _ => true) true n' 29 [v4] = some y4 := f4
    have hd : d = .agg [y0.1, y1.1, y2.1, y3.1, y4.1] := congrArg Prod.fst hx
    subst hd
    obtain ⟨s0, e0, _, _⟩ := DataW.trod_string (by kernel_rfl) g0
    obtain ⟨im, r1, b1⟩ := open_strs g1 (w_field (j := 1) Tryz.underlying31 rfl rfl hw)
    obtain ⟨ty, r2, b2⟩ := open_decls g2 (w_field (j := 2) Tryz.underlying31 rfl rfl hw)
    obtain ⟨fx, r3, b3, q3⟩ := open_fns g3 (w_field (j := 3) Tryz.underlying31 rfl rfl hw)
    obtain ⟨nx, r4, b4, q4⟩ := open_nodes g4 (w_field (j := 4) Tryz.underlying31 rfl rfl hw)
    simp only [List.cons.injEq, and_true] at e0
    subst e0
    obtain ⟨u1, hu1, ho1⟩ := hcell 1 v1 rfl
    obtain ⟨u2, hu2, ho2⟩ := hcell 2 v2 rfl
    obtain ⟨u3, hu3, ho3⟩ := hcell 3 v3 rfl
    obtain ⟨u4, hu4, ho4⟩ := hcell 4 v4 rfl
    obtain rfl : u1 = 26 := (Option.some.inj hu1).symm
    obtain rfl : u2 = 27 := (Option.some.inj hu2).symm
    obtain rfl : u3 = 28 := (Option.some.inj hu3).symm
    obtain rfl : u4 = 29 := (Option.some.inj hu4).symm
    refine ⟨v1, v2, v3, v4, ⟨bl s0, im, ty, fx.map (·.1), nx.map (·.1)⟩, fx, nx, by rw [st_bl], ⟨b1, b2, by rw [List.length_map]; exact b3, by rw [List.length_map]; exact b4, fun x hx => ?_, fun x hx => ?_⟩, rfl, rfl, r1.strong (fun a n c e => slice_spot Tryz.underlying26 (e ▸ ho1)), r2.strong (fun a n c e => slice_spot Tryz.underlying27 (e ▸ ho2)), ?_, ?_, fun x hx => ⟨(q3 x hx).1, (q3 x hx).2.1⟩, fun x hx => ⟨(q4 x hx).1, (q4 x hx).2.1⟩⟩
    · obtain ⟨y, hy, rfl⟩ := List.mem_map.1 hx
      exact (q3 y hy).2.2
    · obtain ⟨y, hy, rfl⟩ := List.mem_map.1 hx
      exact (q4 y hy).2.2
    · show RowZ w v3 (fx.map (·.1)).length (flatF fx)
      rw [List.length_map]
      exact r3.strong (fun a n c e => slice_spot Tryz.underlying28 (e ▸ ho3))
    · show RowZ w v4 (nx.map (·.1)).length (flatN nx)
      rw [List.length_map]
      exact r4.strong (fun a n c e => slice_spot Tryz.underlying29 (e ▸ ho4))
end
end Go.Proofs.YtmgjmagniefhoaaGreatDoor
