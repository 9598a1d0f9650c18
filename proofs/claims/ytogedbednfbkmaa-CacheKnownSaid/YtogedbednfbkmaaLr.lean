/- From a walk to a law's row: the result is true, below the heap's old size nothing turns; an opener of slices of structs. Conditions: the argument types are readable. -/
import Derived.Test.YtogedbednfbkmaaProg
import Derived.Test.YtogedbednfbkmaaA
import Derived.Test.YtogedbednfbkmaaRows
import Derived.ProofKit
import Derived.SizedLaws
import Derived.OpenShut
import Derived.Deep.Slices
import Derived.Deep.Fields
namespace Go.Proofs.Ytogedbednfbkmaa
open Go.ChangeShapes Go.WideShapes Go.ChangeAt Go.RowKit Go.Deep

theorem own_ : ownKnob Try.prog.godebug = none := by kernel_rfl
theorem laid_ : laidOutB Try.prog = true := by kernel_rfl

theorem below_trodAll {H : Type} {enc : TypeId × Value → H} {P : Program} (hl : laidOutB P = true) {W W' : World} (hb : Below W.heap.size W W') :
    ∀ {ts : List TypeId} {vs : List Value} {ds : List (DataW H)} {ps : List MemPlace}, (∀ t ∈ ts, P.readableRec t = true ∧ t < P.types.size) → DataW.TrodAll enc P W 0 (fun _ => true) true ts vs ds ps → (∀ x ∈ ps, x.block < W.heap.size) →
      DataW.TrodAll enc P W' 0 (fun b => decide (b < W.heap.size)) true ts vs ds ps
  | [], _, _, _, _, h, _ => by
    obtain ⟨rfl, rfl, rfl⟩ := trodAll_nil h
    exact trodAll_mk0
  | t :: ts, _, _, _, ht, h, hlt => by
    obtain ⟨v, vs, d, ds, p, q, rfl, rfl, rfl, h1, h2⟩ := trodAll_cons h
    exact trodAll_cons_mk (Below.trod hl (ht t (by simp)).1 (ht t (by simp)).2 h1 hb (fun x hx => hlt x (by simp [hx])))
      (below_trodAll hl hb (fun u hu => ht u (by simp [hu])) h2 (fun x hx => hlt x (by simp [hx])))

theorem trodAll_ds {H : Type} {enc : TypeId × Value → H} {P : Program} {W : World} : ∀ {ts : List TypeId} {vs : List Value} {ds : List (DataW H)} {ps : List MemPlace}, DataW.TrodAll enc P W 0 (fun _ => true) true ts vs ds ps → ds.length = ts.length
  | [], _, _, _, h => by
    obtain ⟨rfl, rfl, rfl⟩ := trodAll_nil h
    rfl
  | t :: ts, _, _, _, h => by
    obtain ⟨v, vs, d, ds, p, q, rfl, rfl, rfl, _, h2⟩ := trodAll_cons h
    simp [trodAll_ds h2]

set_option maxRecDepth 100000 in
theorem law_row {os : Os} (started : os.Started) {H : Type} {enc : TypeId × Value → H} {n : Nat} {f : Func} {s : ChangeSpec} {ts : List TypeId} {b : TypeId}
    (hni : Try.prog.inits.idxOf? n = none) (hfn : Try.prog.funcs[n]? = some f) (hts : f.params.toList = ts) (hrt : f.resultTypes = #[b]) (hub : Try.prog.underlying b = some .bool)
    (hread : ∀ t ∈ ts, Try.prog.readableRec t = true ∧ t < Try.prog.types.size) (hv : s.vars = [])
    (hs : ∀ ds : List (DataW H), ds.length = ts.length → s.fn H ds = { results := [.lit (.bool true)], args := ds })
    (hwit : ∃ (w : World) (tape : Tape) (i : Input), w.os = os ∧ (w.forCall tape i).Shaped Try.prog ∧ i.vars = [] ∧ Input.okWide Try.prog (w.forCall tape i) .any w.heap.size n i ∧
      s.pre6 enc Try.prog f [] false (w.forCall tape i).memory i.args ∧ ({} : Assume).holds Try.prog (lone (Frame.enter Try.prog n i.args .normal) [] (w.forCall tape i)))
    (walk : ∀ (W : World) (base : Nat) (args : Array Value) (ds : List (DataW H)) (p : List MemPlace), (∀ (j : Nat) t v, ts[j]? = some t → args[j]? = some v → Value.okWide Try.prog W .any base t v) →
      DataW.TrodAll enc Try.prog W 0 (fun _ => true) true ts args.toList ds p → (DataW.weightsEach Try.prog ts ds).all (· ≤ reachBytes) = true →
      Calls Try.prog n args W fun e w' => e = .returned (.bool true) ∧ Below W.heap.size W w') :
    ReturnsInHanded {} Try.checked os n .any (s.pre6 enc Try.prog f [] false) (s.post enc Try.prog f false true false false) := by
  refine returnsInHanded_of_change_sized (C := Try.checked) own_ started hni hfn hwit ?_
  intro W base args ds gs before hval hW _ hsz _
  have hW' := hW
  obtain ⟨p, q, hA, hV, rfl, _, _⟩ := hW
  have hA2 : DataW.TrodAll enc Try.prog W 0 (fun _ => true) true f.params.toList args.toList ds p := hA
  rw [hv] at hV
  obtain ⟨rfl, rfl⟩ := trodVars_none hV
  rw [hts] at hA2
  have hsz2 : (DataW.weightsEach Try.prog ts ds).all (· ≤ reachBytes) = true := by
    have hsz3 : (DataW.weightsEach Try.prog (f.params.toList ++ s.plain.varTypes Try.prog) (ds ++ [])).all (· ≤ reachBytes) = true := hsz
    have hpv : s.plain.varTypes Try.prog = [] := by
      show s.vars.filterMap _ = []
      rw [hv]; rfl
    rw [hpv, hts, List.append_nil, List.append_nil] at hsz3
    exact hsz3
  have hval1 : ∀ (j : Nat) t v, f.params[j]? = some t → args[j]? = some v → Value.okWide Try.prog W .any base t v := hval
  have hval2 : ∀ (j : Nat) t v, ts[j]? = some t → args[j]? = some v → Value.okWide Try.prog W .any base t v := by
    intro j t v h1 h2
    have h3 : f.params[j]? = some t := by
      rw [← Array.getElem?_toList, hts]
      exact h1
    exact hval1 j t v h3 h2
  have hlen := trodAll_ds hA2
  refine (walk W base args ds p hval2 hA2 hsz2).mono fun e W' ⟨he, hb⟩ => ?_
  subst he
  have hlt : ∀ x ∈ p, x.block < W.heap.size := fun x hx => hW'.lt x (by simp [hx])
  have hargs := below_trodAll laid_ hb hread hA2 hlt
  refine ⟨_, rfl, ds, [], p ++ [], [], p ++ [], [], hW', ?_, ?_, ?_, hb.frame _, fun h => by cases h⟩
  · show DataW.TrodAll enc Try.prog W' _ _ _ f.resultTypes.toList _ (s.fn H (ds ++ [])).results []
    rw [List.append_nil, hs ds hlen, hrt]
    exact trodAll_mk1 (shut_bool hub _)
  · show DataW.TrodAll enc Try.prog W' 0 _ true f.params.toList args.toList (s.fn H (ds ++ [])).args (p ++ [])
    rw [List.append_nil, hs ds hlen, hts, List.append_nil]
    exact hargs
  · rw [hv, List.append_nil, hs ds hlen]; rfl

theorem add_pl (b off j : Nat) : (⟨b, off, none⟩ : Addr).add j = ⟨b, off + j, none⟩ := by unfold Addr.add; split <;> simp_all
/-- A slice of structs of k whole numbers, opened. -/
theorem open_structs {H : Type} {enc : TypeId × Value → H} {P : Program} {w : World} {t e i : TypeId} {fs : Array Field} {k fuel : Nat} {v : Value} {x : DataW H × List MemPlace} (ht : P.underlying t = some (.slice e)) (he : P.underlying e = some (.struct fs)) (hi : P.underlying i = some (.int .i64))
    (hone : oneCellFields P fs = true) (hty : ∀ (l : Nat) (f : Field), fs[l]? = some f → f.type = i) (hfs : fs.size = k) (hk : P.cellsOf e = k) (hb : P.bytesOf e = 8 * k) (hk0 : 0 < k) (h : DataW.trod enc P w 0 (fun _ => true) true fuel t [v] = some x) (hw : ∀ elems spare, x.1 = .slice elems spare → (elems.length + spare.length) * P.bytesOf e ≤ reachBytes) :
    ∃ (A : Option Addr) (n c : Nat) (f : Nat → Nat → Int), v = .slice A n c ∧ n ≤ 100000000000000 ∧ (0 < n → ∃ b off, A = some ⟨b, off, none⟩ ∧ ∀ j, j < n → ∀ l, l < k → w.cell? ⟨b, off + j * k + l, none⟩ = some (.int .i64 (f j l))) ∧ (∀ j l, j < n → l < k → (Lit.int .i64 (f j l)).wf = true) := by
  rcases open_slice ht h with ⟨hv, _⟩ | ⟨a, len, cap, mm, n, D, Pl, hcs, _, hl, hm, hmm, hx, hel⟩
  · simp at hv
    subst hv
    exact ⟨none, 0, 0, fun _ _ => 0, rfl, by omega, fun h => by omega, fun _ _ h => by omega⟩
  · simp only [List.cons.injEq, and_true] at hcs
    subst hcs
    simp only [if_true] at hmm
    subst hmm
    have hlen : len ≤ 100000000000000 := by
      have := hw _ _ (by rw [hx])
      rw [hb] at this
      simp only [List.length_map, List.length_range, reachBytes] at this
      have h2 : len * 8 ≤ (len + (mm - len)) * (8 * k) := by
        rw [show (len + (mm - len)) * (8 * k) = ((len + (mm - len)) * k) * 8 by rw [Nat.mul_comm 8 k, Nat.mul_assoc]]
        refine Nat.mul_le_mul_right 8 (Nat.le_trans (Nat.le_add_right _ (mm - len)) ?_)
        exact Nat.le_mul_of_pos_right _ hk0
      omega
    have key : ∀ j, j < len → ∃ g : Nat → Int, ∀ l, l < k → w.cell? (a.add (j * k + l)) = some (.int .i64 (g l)) ∧ (Lit.int .i64 (g l)).wf = true := by
      intro j hj
      obtain ⟨cs', hcl, htr⟩ := hel j (by omega)
      rw [hk] at hcl
      obtain ⟨ys, n', _, _, hlen2, hyl, hf⟩ := DataW.trod_struct he htr
      obtain ⟨_, hcsl, hat⟩ := World.cells?_some hcl
      have h1 : ∀ l, l < k → ∃ z, w.cell? (a.add (j * k + l)) = some (.int .i64 z) ∧ (Lit.int .i64 z).wf = true := by
        intro l hl2
        have hfl : fs[l]? = some (fs[l]'(by omega)) := Array.getElem?_eq_getElem (by omega)
        obtain ⟨ho, hc1⟩ := hone_of hone l _ hfl
        have h3 := hf l _ hfl
        rw [ho, hc1, hty l _ hfl, List.drop_eq_getElem_cons (by omega), List.take_succ_cons, List.take_zero] at h3
        rw [List.getElem?_eq_getElem (by omega)] at h3
        obtain ⟨z, hz1, _, hz3⟩ := DataW.trod_int hi h3
        refine ⟨z, ?_, hz3⟩
        have := hat _ hl2
        rw [← Go.Deep.add_add, this, List.getElem?_eq_getElem (by omega)]
        simp only [List.cons.injEq, and_true] at hz1
        rw [hz1]
      classical
      refine ⟨fun l => if hl2 : l < k then Classical.choose (h1 l hl2) else 0, fun l hl2 => ?_⟩
      simp only [hl2, dif_pos]
      exact Classical.choose_spec (h1 l hl2)
    classical
    refine ⟨some a, len, mm, fun j => if hj : j < len then Classical.choose (key j hj) else fun _ => 0, rfl, hlen, fun h0 => ?_, fun j l hj hl2 => ?_⟩
    · obtain ⟨b, off, spot⟩ := a
      have h5 := (Classical.choose_spec (key 0 h0) 0 hk0).1
      have hspot : spot = none := by simpa [Addr.add] using World.cell?_spot h5
      subst hspot
      refine ⟨b, off, rfl, fun j hj l hl2 => ?_⟩
      simp only [hj, dif_pos]
      have := (Classical.choose_spec (key j hj) l hl2).1
      rw [add_pl] at this
      rw [show off + j * k + l = off + (j * k + l) by omega]
      exact this
    · simp only [hj, dif_pos]
      exact (Classical.choose_spec (key j hj) l hl2).2

end Go.Proofs.Ytogedbednfbkmaa
