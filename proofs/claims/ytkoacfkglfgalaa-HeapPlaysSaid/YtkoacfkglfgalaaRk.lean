/- HeapPlays holds: for every input the law returns true and the input reads as it did. Conditions: none. -/
import Derived.Test.YtkoacfkglfgalaaRj
import Derived.Test.YtkoacfkglfgalaaX
import Derived.Deep.Fields
namespace Go.Proofs.Ytkoacfkglfgalaa
open Go.ChangeShapes Go.WideShapes Go.ChangeAt Go.RowKit Go.Deep

/-- A slice of structs of k whole numbers, opened. -/
theorem open_structs {H : Type} {enc : TypeId × Value → H} {P : Program} {w : World} {t e i : TypeId} {fs : Array Field} {k fuel : Nat} {v : Value} {x : DataW H × List MemPlace} (ht : P.underlying t = some (.slice e)) (he : P.underlying e = some (.struct fs)) (hi : P.underlying i = some (.int .i64))
    (hone : oneCellFields P fs = true) (hty : ∀ (l : Nat) (f : Field), fs[l]? = some f → f.type = i) (hfs : fs.size = k) (hk : P.cellsOf e = k) (hb : P.bytesOf e = 8 * k) (hk0 : 0 < k) (h : DataW.trod enc P w 0 (fun _ => true) true fuel t [v] = some x) (hw : ∀ elems spare, x.1 = .slice elems spare → (elems.length + spare.length) * P.bytesOf e ≤ reachBytes) :
    ∃ (A : Option Addr) (n c : Nat) (f : Nat → Nat → Int), v = .slice A n c ∧ n ≤ 100000000000000 ∧ (0 < n → ∃ b off, A = some ⟨b, off, none⟩ ∧ ∀ j, j < n → ∀ l, l < k → w.cell? ⟨b, off + j * k + l, none⟩ = some (.int .i64 (f j l))) ∧ (∀ j l, j < n → l < k → (Lit.int .i64 (f j l)).wf = true) := by
  rcases open_slice ht h with ⟨hv, _⟩ | ⟨a, len, cap, mm, n, D, Pl, hcs, _, hl, hm, hmm, hx, hel⟩
  · simp at hv
    subst hv
    exact ⟨none, 0, 0, fun _ _ => 0, rfl, by omega, fun h => by omega, fun _ _ h => by omega⟩
  · simp only [List.cons.injEq, and_true] at hcs
    subst hcs
    simp only [if_true] at hmm
    subst hmm
    have hlen : len ≤ 100000000000000 := by
      have := hw _ _ (by rw [hx])
      rw [hb] at this
      simp only [List.length_map, List.length_range, reachBytes] at this
      have h2 : len * 8 ≤ (len + (mm - len)) * (8 * k) := by
        rw [show (len + (mm - len)) * (8 * k) = ((len + (mm - len)) * k) * 8 by rw [Nat.mul_comm 8 k, Nat.mul_assoc]]
        refine Nat.mul_le_mul_right 8 (Nat.le_trans (Nat.le_add_right _ (mm - len)) ?_)
        exact Nat.le_mul_of_pos_right _ hk0
      omega
    have key : ∀ j, j < len → ∃ g : Nat → Int, ∀ l, l < k → w.cell? (a.add (j * k + l)) = some (.int .i64 (g l)) ∧ (Lit.int .i64 (g l)).wf = true := by
      intro j hj
      obtain ⟨cs', hcl, htr⟩ := hel j (by omega)
      rw [hk] at hcl
      obtain ⟨ys, n', _, _, hlen2, hyl, hf⟩ := DataW.trod_struct he htr
      obtain ⟨_, hcsl, hat⟩ := World.cells?_some hcl
      have h1 : ∀ l, l < k → ∃ z, w.cell? (a.add (j * k + l)) = some (.int .i64 z) ∧ (Lit.int .i64 z).wf = true := by
        intro l hl2
        have hfl : fs[l]? = some (fs[l]'(by omega)) := Array.getElem?_eq_getElem (by omega)
        obtain ⟨ho, hc1⟩ := hone_of hone l _ hfl
        have h3 := hf l _ hfl
        rw [ho, hc1, hty l _ hfl, List.drop_eq_getElem_cons (by omega), List.take_succ_cons, List.take_zero] at h3
        rw [List.getElem?_eq_getElem (by omega)] at h3
        obtain ⟨z, hz1, _, hz3⟩ := DataW.trod_int hi h3
        refine ⟨z, ?_, hz3⟩
        have := hat _ hl2
        rw [← Go.Deep.add_add, this, List.getElem?_eq_getElem (by omega)]
        simp only [List.cons.injEq, and_true] at hz1
        rw [hz1]
      classical
      refine ⟨fun l => if hl2 : l < k then Classical.choose (h1 l hl2) else 0, fun l hl2 => ?_⟩
      simp only [hl2, dif_pos]
      exact Classical.choose_spec (h1 l hl2)
    classical
    refine ⟨some a, len, mm, fun j => if hj : j < len then Classical.choose (key j hj) else fun _ => 0, rfl, hlen, fun h0 => ?_, fun j l hj hl2 => ?_⟩
    · obtain ⟨b, off, spot⟩ := a
      have h5 := (Classical.choose_spec (key 0 h0) 0 hk0).1
      have hspot : spot = none := by simpa [Addr.add] using World.cell?_spot h5
      subst hspot
      refine ⟨b, off, rfl, fun j hj l hl2 => ?_⟩
      simp only [hj, dif_pos]
      have := (Classical.choose_spec (key j hj) l hl2).1
      rw [add_plain] at this
      rw [show off + j * k + l = off + (j * k + l) by omega]
      exact this
    · simp only [hj, dif_pos]
      exact (Classical.choose_spec (key j hj) l hl2).2

set_option maxRecDepth 100000 in
theorem plays_walk (W : World) (base : Nat) (args : Array Value) {H : Type} {enc : TypeId × Value → H} (ds : List (DataW H)) (p : List MemPlace) (hval : ∀ (j : Nat) t v, [49][j]? = some t → args[j]? = some v → Value.okWide Try.prog W .any base t v)
    (hA : DataW.TrodAll enc Try.prog W 0 (fun _ => true) true [49] args.toList ds p) (hsz : (DataW.weightsEach Try.prog [49] ds).all (· ≤ reachBytes) = true) :
    Calls Try.prog 7 args W fun e w' => e = .returned (.bool true) ∧ Below W.heap.size W w' := by
  obtain ⟨v, d, rfl, rfl, h⟩ := trodAll_one hA
  obtain ⟨a0, len, cap, rfl⟩ := okWide_slice (e := 53) (by kernel_rfl) (hval 0 49 v rfl rfl)
  obtain ⟨fuel, hf⟩ := h
  obtain ⟨A, n, c, f, hv, hn, hcell, hwf⟩ := open_structs (e := 53) (i := 3) (k := 3) (by kernel_rfl) Try.underlying53 (by kernel_rfl) (by kernel_rfl) (by
      intro l f hf
      match l, hf with
      | 0, hf => simp at hf; subst hf; rfl
      | 1, hf => simp at hf; subst hf; rfl
      | 2, hf => simp at hf; subst hf; rfl
      | n + 3, hf => simp at hf) rfl (by kernel_rfl) (by kernel_rfl) (by decide) hf (fun es sp hx => sized_slice hsz (j := 0) (t := 49) (e := 53) rfl (by rw [show d = _ from hx]; rfl) (by kernel_rfl))
  obtain ⟨rfl, rfl, rfl⟩ : a0 = A ∧ len = n ∧ cap = c := by injection hv with h1 h2 h3; exact ⟨h1, h2, h3⟩
  exact plays_try ⟨hn, hwf, hcell⟩

set_option maxRecDepth 100000 in
theorem plays_holds : Rows.HeapPlaysSaid :=
  OpenClaim.holds_of_wide 7 Try.f7 rfl rfl rfl rfl rfl rfl rfl ⟨rfl, rfl, rfl, rfl, rfl⟩ rfl rfl rfl rfl rfl (by kernel_rfl) Try.func7 (by kernel_rfl)
    (of_decide_eq_true (by kernel_rfl)) (by unfold Func.isWrapper; rw [if_neg (of_decide_eq_false (by kernel_rfl))]; exact ⟨rfl, rfl⟩)
    (fun os started H enc _ => law_row started (s := Rows.heapPlaysSpec) (ts := [49]) (b := 4) (by kernel_rfl) Try.func7 (by rw [Try.params7]) (by kernel_rfl) (by kernel_rfl) (by intro t ht; simp at ht; subst ht; exact ⟨by kernel_rfl, of_decide_eq_true (by kernel_rfl)⟩) rfl
      (fun ds hl => by
        match ds, hl with
        | [d], _ => rfl)
      (ChangeSpec.witness6 (enc := enc) (C := Try.checked) false ⟨#[], #[.slice none 0 0], []⟩ 8 (by kernel_rfl) (by kernel_rfl) (by kernel_rfl) (by kernel_rfl))
      (fun W base args ds p h1 h2 h3 => plays_walk W base args ds p h1 h2 h3))
end Go.Proofs.Ytkoacfkglfgalaa
