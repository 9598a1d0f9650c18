/- A slice of things of k cells each that can be read: opened as a list. Conditions: those that each theorem names. -/
import Derived.Test.YtmpdobpnnejmmaaDoorLr
import Derived.Test.YtmpdobpnnejmmaaDoorRj
namespace Go.Proofs.YtmpdobpnnejmmaaDoor
open Go.ChangeShapes Go.WideShapes Go.ChangeAt Go.RowKit Go.Deep

/-- A slice of things of k cells each. -/
def LsAt {α : Type} (cell : α → List Value) (k : Nat) (w : World) (v : Value) (xs : List α) : Prop :=
  ∃ A c, v = .slice A xs.length c ∧ (0 < xs.length → ∃ b off, A = some ⟨b, off, none⟩ ∧ ∀ j (h : j < xs.length) i, i < k → w.cell? ⟨b, off + j * k + i, none⟩ = (cell xs[j])[i]?)
theorem LsAt.below {α : Type} {cell : α → List Value} {k : Nat} (hl : ∀ a, (cell a).length = k) {w w' : World} {v : Value} {xs : List α} (h : LsAt cell k w v xs) (hb : Below w.heap.size w w') : LsAt cell k w' v xs := by
  obtain ⟨A, c, rfl, hA⟩ := h
  refine ⟨A, c, rfl, fun h0 => ?_⟩
  obtain ⟨b, off, e, h2⟩ := hA h0
  refine ⟨b, off, e, fun j hj i hi => ?_⟩
  have h3 := h2 j hj i hi
  have h4 : (cell xs[j])[i]? = some ((cell xs[j])[i]'(by rw [hl]; exact hi)) := List.getElem?_eq_getElem _
  rw [h4] at h3 ⊢
  exact below_cell hb h3
theorem add_pl (b off j : Nat) : (⟨b, off, none⟩ : Addr).add j = ⟨b, off + j, none⟩ := by unfold Addr.add; split <;> simp_all
theorem open_list {H : Type} {enc : TypeId × Value → H} {P : Program} {w : World} {α : Type} {t e : TypeId} {k fuel : Nat} {v : Value} {x : DataW H × List MemPlace} (cell : α → List Value) (Q : α → Prop)
    (ht : P.underlying t = some (.slice e)) (hk : P.cellsOf e = k) (hk0 : 0 < k) (hb : 8 ≤ P.bytesOf e) (hl : ∀ a, (cell a).length = k)
    (elem : ∀ fuel cs y, cs.length = k → DataW.trod enc P w 0 (fun _ => true) true fuel e cs = some y → ∃ a, cs = cell a ∧ Q a)
    (h : DataW.trod enc P w 0 (fun _ => true) true fuel t [v] = some x) (hw : ∀ elems spare, x.1 = .slice elems spare → (elems.length + spare.length) * P.bytesOf e ≤ reachBytes) :
    ∃ xs : List α, LsAt cell k w v xs ∧ xs.length ≤ 100000000000000 ∧ ∀ a ∈ xs, Q a := by
  rcases open_slice ht h with ⟨hv, _⟩ | ⟨a, len, cap, mm, n, D, Pl, hcs, _, hl2, hm, hmm, hx, hel⟩
  · simp at hv
    subst hv
    exact ⟨[], ⟨none, 0, rfl, fun h => by simp at h⟩, by simp, fun a h => by cases h⟩
  · simp only [List.cons.injEq, and_true] at hcs
    subst hcs
    simp only [if_true] at hmm
    subst hmm
    have hlen : len ≤ 100000000000000 := by
      have := hw _ _ (by rw [hx])
      simp only [List.length_map, List.length_range, reachBytes] at this
      have h2 : len * 8 ≤ (len + (mm - len)) * P.bytesOf e := Nat.mul_le_mul (by omega) hb
      omega
    have key : ∀ j : Fin len, ∃ b : α, Q b ∧ ∀ i, i < k → w.cell? (a.add (j.1 * k + i)) = (cell b)[i]? := by
      intro ⟨j, hj⟩
      obtain ⟨cs', hcl, htr⟩ := hel j (by omega)
      rw [hk] at hcl
      obtain ⟨_, hcsl, hat⟩ := World.cells?_some hcl
      obtain ⟨b, rfl, hq⟩ := elem _ _ _ hcsl htr
      refine ⟨b, hq, fun i hi => ?_⟩
      have := hat i (by omega)
      rw [Go.Deep.add_add] at this
      exact this
    obtain ⟨f, hf⟩ := Classical.skolem.1 key
    have hlf : (List.ofFn f).length = len := List.length_ofFn
    refine ⟨List.ofFn f, ⟨some a, mm, by rw [hlf], fun h0 => ?_⟩, by rw [hlf]; exact hlen, fun b hb => ?_⟩
    · rw [hlf] at h0
      obtain ⟨b, off, spot⟩ := a
      have h5 : ∃ u, w.cell? ((⟨b, off, spot⟩ : Addr).add (0 * k + 0)) = some u := by
        have := (hf ⟨0, h0⟩).2 0 hk0
        rw [List.getElem?_eq_getElem (by rw [hl]; exact hk0)] at this
        exact ⟨_, this⟩
      obtain ⟨u, hu⟩ := h5
      have hspot : spot = none := by simpa [Addr.add] using World.cell?_spot hu
      subst hspot
      refine ⟨b, off, rfl, fun j hj i hi => ?_⟩
      have h6 := (hf ⟨j, by rw [← hlf]; exact hj⟩).2 i hi
      rw [add_pl] at h6
      rw [Nat.add_assoc, h6, List.getElem_ofFn]
    · obtain ⟨i, rfl⟩ := List.mem_ofFn.1 hb
      exact (hf i).1
theorem LsAt.ws {w : World} {v : Value} {ws : List Lx.Wd} (h : WsAt w v ws) : LsAt cellW 4 w v ws := by
  obtain ⟨A, c, rfl, hn, hA⟩ := h
  refine ⟨A, c, rfl, fun h0 => ?_⟩
  cases A with
  | none => have := hn rfl; subst this; simp at h0
  | some a =>
    obtain ⟨b, off, n⟩ := a
    obtain ⟨rfl, hc⟩ := hA b off n rfl
    exact ⟨b, off, rfl, hc⟩
set_option maxRecDepth 100000 in
theorem open_words {H : Type} {enc : TypeId × Value → H} {w : World} {fuel : Nat} {v : Value} {x : DataW H × List MemPlace} (h : DataW.trod enc Tryd.prog w 0 (fun _ => true) true fuel 22 [v] = some x) (hw : ∀ elems spare, x.1 = .slice elems spare → (elems.length + spare.length) * Tryd.prog.bytesOf 30 ≤ reachBytes) :
    ∃ xs : List Lx.Wd, LsAt cellW 4 w v xs ∧ xs.length ≤ 100000000000000 := by
  obtain ⟨xs, h1, h2, _⟩ := open_list (k := 4) cellW (fun _ => True) Tryd.underlying22 (by kernel_rfl) (by decide) (show 8 ≤ Tryd.prog.bytesOf 30 from by rw [show Tryd.prog.bytesOf 30 = 40 by kernel_rfl]; decide) (fun _ => rfl) (fun fuel cs y hcs htr => by
    obtain ⟨ys, n', _, _, hlen2, hyl, hf⟩ := DataW.trod_struct Tryd.underlying30 htr
    have f0 := hf 0 _ rfl
    have f1 := hf 1 _ rfl
    have f2 := hf 2 _ rfl
    have f3 := hf 3 _ rfl
    match cs, hcs with
    | [v0, v1, v2, v3], _ =>
      match ys, hyl with
      | [y0, y1, y2, y3], _ =>
        have g0 : DataW.trod enc Tryd.prog w 0 (fun _ => true) true n' 3 [v0] = some y0 := f0
        have g1 : DataW.trod enc Tryd.prog w 0 (fun _ => true) true n' 9 [v1] = some y1 := f1
        have g2 : DataW.trod enc Tryd.prog w 0 (fun _ => true) true n' 3 [v2] = some y2 := f2
        have g3 : DataW.trod enc Tryd.prog w 0 (fun _ => true) true n' 3 [v3] = some y3 := f3
        obtain ⟨z0, e0, _, _⟩ := DataW.trod_int (k := .i64) (by kernel_rfl) g0
        obtain ⟨s, e1, _, _⟩ := DataW.trod_string (by kernel_rfl) g1
        obtain ⟨z2, e2, _, _⟩ := DataW.trod_int (k := .i64) (by kernel_rfl) g2
        obtain ⟨z3, e3, _, _⟩ := DataW.trod_int (k := .i64) (by kernel_rfl) g3
        simp only [List.cons.injEq, and_true] at e0 e1 e2 e3
        subst e0 e1 e2 e3
        exact ⟨⟨z0, bl s, z2, z3⟩, by unfold cellW; rw [st_bl], trivial⟩) h hw
  exact ⟨xs, h1, h2⟩
/-- A seed: two numbers and a text. -/
structure Sd where
  kind : Int
  n : Int
  s : ByteArray
def cellS (x : Sd) : List Value := [.int .i64 x.kind, .int .i64 x.n, .string x.s]
def Sd.ok (x : Sd) : Prop := (Lit.int .i64 x.kind).wf = true ∧ (Lit.int .i64 x.n).wf = true ∧ x.s.size ≤ maxLen
set_option maxRecDepth 100000 in
theorem open_seeds {H : Type} {enc : TypeId × Value → H} {w : World} {fuel : Nat} {v : Value} {x : DataW H × List MemPlace} (h : DataW.trod enc Tryd.prog w 0 (fun _ => true) true fuel 33 [v] = some x) (hw : ∀ elems spare, x.1 = .slice elems spare → (elems.length + spare.length) * Tryd.prog.bytesOf 59 ≤ reachBytes) :
    ∃ xs : List Sd, LsAt cellS 3 w v xs ∧ xs.length ≤ 100000000000000 ∧ ∀ x ∈ xs, x.ok :=
  open_list (k := 3) cellS Sd.ok Tryd.underlying33 (by kernel_rfl) (by decide) (show 8 ≤ Tryd.prog.bytesOf 59 from by rw [show Tryd.prog.bytesOf 59 = 32 by kernel_rfl]; decide) (fun _ => rfl) (fun fuel cs y hcs htr => by
    obtain ⟨ys, n', _, _, hlen2, hyl, hf⟩ := DataW.trod_struct Tryd.underlying59 htr
    have f0 := hf 0 _ rfl
    have f1 := hf 1 _ rfl
    have f2 := hf 2 _ rfl
    match cs, hcs with
    | [v0, v1, v2], _ =>
      match ys, hyl with
      | [y0, y1, y2], _ =>
        have g0 : DataW.trod enc Tryd.prog w 0 (fun _ => true) true n' 3 [v0] = some y0 := f0
        have g1 : DataW.trod enc Tryd.prog w 0 (fun _ => true) true n' 3 [v1] = some y1 := f1
        have g2 : DataW.trod enc Tryd.prog w 0 (fun _ => true) true n' 9 [v2] = some y2 := f2
        obtain ⟨z0, e0, _, w0⟩ := DataW.trod_int (k := .i64) (by kernel_rfl) g0
        obtain ⟨z1, e1, _, w1⟩ := DataW.trod_int (k := .i64) (by kernel_rfl) g1
        obtain ⟨s, e2, _, w2⟩ := DataW.trod_string (by kernel_rfl) g2
        simp only [List.cons.injEq, and_true] at e0 e1 e2
        subst e0 e1 e2
        exact ⟨⟨z0, z1, s⟩, rfl, w0, w1, w2⟩) h hw
end Go.Proofs.YtmpdobpnnejmmaaDoor
