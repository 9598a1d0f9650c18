/- From a walk to a law's row where package-level variables are laid: the variables' contents (Env), a world that meets the condition. Conditions: those that each theorem names. -/
import Derived.Test.YtmpdobpnnejmmaaDoorLe
import Derived.Test.YtmpdobpnnejmmaaDoorCards
import Derived.Test.YtmpdobpnnejmmaaDoorTie
import Derived.ProofKit
import Derived.SizedLaws
import Derived.OpenShut
import Derived.Deep.DeepHandedRow
import Derived.Deep.DeepWitnessRowRef
import Derived.Deep.DeepLaidRun
import Derived.Lib.LaidTab
import Derived.Lib.LaidU8
import Derived.Deep.Slices
import Derived.Deep.Fields
namespace Go.Proofs.YtmpdobpnnejmmaaDoor
open Go.ChangeShapes Go.WideShapes Go.ChangeAt Go.RowKit Go.Deep

theorem own_ : ownKnob Tryd.prog.godebug = none := by kernel_rfl
theorem laid_ : laidOutB Tryd.prog = true := by kernel_rfl

theorem below_trodAll {H : Type} {enc : TypeId × Value → H} {P : Program} (hl : laidOutB P = true) {W W' : World} (hb : Below W.heap.size W W') :
    ∀ {ts : List TypeId} {vs : List Value} {ds : List (DataW H)} {ps : List MemPlace}, (∀ t ∈ ts, P.readableRec t = true ∧ t < P.types.size) → DataW.TrodAll enc P W 0 (fun _ => true) true ts vs ds ps → (∀ x ∈ ps, x.block < W.heap.size) →
      DataW.TrodAll enc P W' 0 (fun b => decide (b < W.heap.size)) true ts vs ds ps
  | [], _, _, _, _, h, _ => by
    obtain ⟨rfl, rfl, rfl⟩ := trodAll_nil h
    exact trodAll_mk0
  | t :: ts, _, _, _, ht, h, hlt => by
    obtain ⟨v, vs, d, ds, p, q, rfl, rfl, rfl, h1, h2⟩ := trodAll_cons h
    exact trodAll_cons_mk (Below.trod hl (ht t (by simp)).1 (ht t (by simp)).2 h1 hb (fun x hx => hlt x (by simp [hx])))
      (below_trodAll hl hb (fun u hu => ht u (by simp [hu])) h2 (fun x hx => hlt x (by simp [hx])))
theorem trodAll_ds {H : Type} {enc : TypeId × Value → H} {P : Program} {W : World} : ∀ {ts : List TypeId} {vs : List Value} {ds : List (DataW H)} {ps : List MemPlace}, DataW.TrodAll enc P W 0 (fun _ => true) true ts vs ds ps → ds.length = ts.length
  | [], _, _, _, h => by
    obtain ⟨rfl, rfl, rfl⟩ := trodAll_nil h
    rfl
  | t :: ts, _, _, _, h => by
    obtain ⟨v, vs, d, ds, p, q, rfl, rfl, rfl, _, h2⟩ := trodAll_cons h
    simp [trodAll_ds h2]

/-- An array of texts that reads as the table holds its texts. -/
theorem strs_of_tab {H : Type} {enc : TypeId × Value → H} {P : Program} {w : World} {base : Nat} {sp : Nat → Bool} {held : Bool} {fuel : Nat} {t e : TypeId} {n : Nat} {cs : List Value} {l : List (List UInt8)} {p : List MemPlace}
    (ht : P.underlying t = some (.array n e)) (he : P.underlying e = some .string) (hce : P.cellsOf e = 1) (hct : P.cellsOf t = n)
    (h : DataW.trod enc P w base sp held fuel t cs = some (.agg (l.map fun k => .lit (.string k)), p)) : cs = l.map fun k => Value.string (st k) := by
  cases fuel with
  | zero => simp [DataW.trod] at h
  | succ fuel =>
    simp only [DataW.trod, ht, hce, hct, Nat.mul_one] at h
    split at h
    · rename_i hl
      obtain ⟨xs, hm, hx⟩ := Option.map_eq_some_iff.1 h
      have hxs : xs.map (·.1) = l.map fun k => (DataW.lit (.string k) : DataW H) := by
        have := congrArg Prod.fst hx
        simpa using this
      have hxl : xs.length = n := by simpa using Lib.mapM_length hm
      have hzl : l.length = n := by
        have := congrArg List.length hxs
        simp at this
        omega
      apply List.ext_getElem?
      intro i
      by_cases hi : i < n
      · obtain ⟨b, hb, hf⟩ := Lib.mapM_at hm i i (by simp [hi])
        obtain ⟨z, hc, rfl, _⟩ := DataW.trod_string he hf
        have h1 : cs[i]? = some (.string z) := by
          have := congrArg (·[0]?) hc
          simpa [List.getElem?_take, List.getElem?_drop] using this
        have h2 : (xs.map (·.1))[i]? = some (DataW.lit (.string z.data.toList) : DataW H) := by simp [hb]
        rw [hxs] at h2
        simp only [List.getElem?_map, Option.map_eq_some_iff, DataW.lit.injEq, Lit.string.injEq] at h2
        obtain ⟨z', hz', e⟩ := h2
        subst e
        rw [h1, List.getElem?_map, hz']
        rfl
      · rw [List.getElem?_eq_none (by omega), List.getElem?_eq_none (by simp; omega)]
    · cases h

def laidL : List (String × DataW Unit) := Rows.lexCutsRow.laid
/-- What the row's list gives. -/
theorem env_of {W : World} (h0 : laidMetH Tryd.prog laidL W) : Env W := by
  have h : laidMet Tryd.prog laidL W := h0
  have hm : ∀ i (n : String) (d : DataW Unit), laidL[i]? = some (n, d) → Lib.VarReads Tryd.prog W n d := fun i n d hi => Lib.laidMet.reads h (List.mem_of_getElem? hi)
  obtain ⟨g1, t1, c1, f1, p1, e1, y1, v1, r1⟩ := hm 2 "internal/strconv.uint64pow10" Rows.laid_internal_strconv_uint64pow10 rfl
  obtain ⟨g2, t2, c2, f2, p2, e2, y2, v2, r2⟩ := hm 3 "strconv.ErrRange" Rows.laid_strconv_ErrRange rfl
  obtain ⟨g3, t3, c3, f3, p3, e3, y3, v3, r3⟩ := hm 4 "strconv.ErrSyntax" Rows.laid_strconv_ErrSyntax rfl
  obtain ⟨g4, t4, c4, f4, p4, e4, y4, v4, r4⟩ := hm 5 "armillary/lex.keys" Rows.laid_armillary_lex_keys rfl
  obtain ⟨g5, t5, c5, f5, p5, e5, y5, v5, r5⟩ := hm 6 "armillary/lex.signs" Rows.laid_armillary_lex_signs rfl
  obtain rfl := Option.some.inj ((show Tryd.prog.globalNamed "internal/strconv.uint64pow10" = some 5 by kernel_rfl).symm.trans e1)
  obtain rfl := Option.some.inj ((show Tryd.prog.globalNamed "strconv.ErrRange" = some 4 by kernel_rfl).symm.trans e2)
  obtain rfl := Option.some.inj ((show Tryd.prog.globalNamed "strconv.ErrSyntax" = some 3 by kernel_rfl).symm.trans e3)
  obtain rfl := Option.some.inj ((show Tryd.prog.globalNamed "armillary/lex.keys" = some 0 by kernel_rfl).symm.trans e4)
  obtain rfl := Option.some.inj ((show Tryd.prog.globalNamed "armillary/lex.signs" = some 1 by kernel_rfl).symm.trans e5)
  obtain rfl := Option.some.inj ((show (Tryd.prog.globals[5]?).map (·.type) = some 112 by kernel_rfl).symm.trans y1)
  obtain rfl := Option.some.inj ((show (Tryd.prog.globals[4]?).map (·.type) = some 76 by kernel_rfl).symm.trans y2)
  obtain rfl := Option.some.inj ((show (Tryd.prog.globals[3]?).map (·.type) = some 76 by kernel_rfl).symm.trans y3)
  obtain rfl := Option.some.inj ((show (Tryd.prog.globals[0]?).map (·.type) = some 50 by kernel_rfl).symm.trans y4)
  obtain rfl := Option.some.inj ((show (Tryd.prog.globals[1]?).map (·.type) = some 60 by kernel_rfl).symm.trans y5)
  have q1 := Lib.cells_of_tab (zs := Lib.pow10Tab) Tryd.underlying112 Tryd.underlying93 (by kernel_rfl) (by kernel_rfl) r1
  obtain ⟨_, u2, x2, q2, _, _⟩ := iface_of_trod Tryd.underlying76 r2
  obtain ⟨_, u3, x3, q3, _, _⟩ := iface_of_trod Tryd.underlying76 r3
  have q4 := strs_of_tab (l := Lx.keysL) Tryd.underlying50 Tryd.underlying9 (by kernel_rfl) (by kernel_rfl) r4
  have q5 := strs_of_tab (l := Lx.signsL) Tryd.underlying60 Tryd.underlying9 (by kernel_rfl) (by kernel_rfl) r5
  have arr : ∀ (c : Array Value) (l : List Value), c.toList = l → c = l.toArray := fun c l e => by rw [← e]
  rw [arr _ _ q1] at v1
  rw [arr _ _ q2] at v2
  rw [arr _ _ q3] at v3
  rw [arr _ _ q4] at v4
  rw [arr _ _ q5] at v5
  exact ⟨v4, v5, v1, ⟨u3, x3, v3⟩, ⟨u2, x2, v2⟩⟩

noncomputable def low : Nat := (World.holding Tryd.prog default ⟨#[], #[], []⟩).heap.size
def tabV (d : DataW Unit) : Array Value := match d with
  | .agg l => (l.map fun x => match x with
    | .lit (.int k z) => Value.int k z
    | .lit (.string k) => .string (st k)
    | _ => .bool false).toArray
  | .iface _ (.ptr (.agg [.lit (.string k)])) => #[.string (st k)]
  | _ => #[]
/-- A world that meets the condition. -/
noncomputable def laidWorld (os : Os) : World :=
  let w0 := World.holding Tryd.prog os ⟨#[.cells (tabV Rows.laid_strconv_ErrRange) 109, .cells (tabV Rows.laid_strconv_ErrSyntax) 109], #[], []⟩
  let put (h : Array Obj) (g : Nat) (cs : Array Value) : Array Obj := h.modify g fun
    | .cells _ t frozen => .cells cs t frozen
    | o => o
  let h1 := put w0.heap 6 (tabV Rows.laid_math_bits_deBruijn32tab)
  let h2 := put h1 7 (tabV Rows.laid_math_bits_deBruijn64tab)
  let h3 := put h2 5 (tabV Rows.laid_internal_strconv_uint64pow10)
  let h4 := put h3 4 #[.iface 107 (.pointer (some ⟨low, 0, none⟩))]
  let h5 := put h4 3 #[.iface 107 (.pointer (some ⟨low + 1, 0, none⟩))]
  let h6 := put h5 0 (tabV Rows.laid_armillary_lex_keys)
  let h7 := put h6 1 (tabV Rows.laid_armillary_lex_signs)
  { w0 with heap := h7 }
set_option maxRecDepth 100000 in
theorem laid_met (os : Os) (args : Array Value) : laidMetH Tryd.prog laidL ((laidWorld os).forCall (fun _ _ => 0) ⟨#[], args, []⟩).memory :=
  (laidMet_of_run3 8 (by kernel_rfl) (by kernel_rfl) (by kernel_rfl) : laidMet Tryd.prog laidL _)

set_option maxRecDepth 100000 in
theorem law_row {os : Os} (started : os.Started) {H : Type} {enc : TypeId × Value → H} {F : Stop.Interp} {n : Nat} {f : Func} {s : ChangeSpec} {ts : List TypeId} {b : TypeId}
    (hni : Tryd.prog.inits.idxOf? n = none) (hfn : Tryd.prog.funcs[n]? = some f) (hts : f.params.toList = ts) (hrt : f.resultTypes = #[b]) (hub : Tryd.prog.underlying b = some .bool)
    (hread : ∀ t ∈ ts, Tryd.prog.readableRec t = true ∧ t < Tryd.prog.types.size) (hv : s.vars = [])
    (hs : ∀ ds : List (DataW H), ds.length = ts.length → s.fn H ds = { results := [.lit (.bool true)], args := ds })
    (hwit : ∃ (w : World) (tape : Tape) (i : Input), w.os = os ∧ (w.forCall tape i).Shaped Tryd.checked.prog ∧ i.vars = [] ∧ Input.okWide Tryd.checked.prog (w.forCall tape i) .any w.heap.size n i ∧
      (OpenSpec.ofChange s).preRow enc Tryd.checked.prog f [] false laidL (w.forCall tape i).memory i.args ∧ ({} : Assume).holds Tryd.checked.prog (lone (Frame.enter Tryd.checked.prog n i.args .normal) [] (w.forCall tape i)))
    (walk : ∀ (W : World) (base : Nat) (args : Array Value) (ds : List (DataW H)) (p : List MemPlace), Env W → (∀ (j : Nat) t v, ts[j]? = some t → args[j]? = some v → Value.okWide Tryd.prog W .any base t v) →
      DataW.TrodAll enc Tryd.prog W 0 (fun _ => true) true ts args.toList ds p → (DataW.weightsEach Tryd.prog ts ds).all (· ≤ reachBytes) = true →
      Calls Tryd.prog n args W fun e w' => e = .returned (.bool true) ∧ Below W.heap.size W w') :
    ReturnsInHanded {} Tryd.checked os n .any ((OpenSpec.ofChange s).preRow enc Tryd.prog f [] false laidL) (((OpenSpec.ofChange s).at F).post enc Tryd.prog f false true false false) := by
  refine returnsInHanded_of_row (C := Tryd.checked) (s := OpenSpec.ofChange s) own_ started hni hfn hwit ?_
  intro W base args ds gs before hval hW _ _ hsz hL _ _
  have hW' := hW
  obtain ⟨p, q, hA, hV, rfl, _, _⟩ := hW
  have hA2 : DataW.TrodAll enc Tryd.prog W 0 (fun _ => true) true f.params.toList args.toList ds p := hA
  have hV2 : DataW.TrodVars enc Tryd.prog W (fun _ => true) s.vars gs q := hV
  rw [hv] at hV2
  obtain ⟨rfl, rfl⟩ := trodVars_none hV2
  rw [hts] at hA2
  have hsz2 : (DataW.weightsEach Tryd.prog ts ds).all (· ≤ reachBytes) = true := by
    have hsz3 : (DataW.weightsEach Tryd.prog (f.params.toList ++ s.plain.varTypes Tryd.prog) (ds ++ [])).all (· ≤ reachBytes) = true := hsz
    have hpv : s.plain.varTypes Tryd.prog = [] := by
      show s.vars.filterMap _ = []
      rw [hv]; rfl
    rw [hpv, hts, List.append_nil, List.append_nil] at hsz3
    exact hsz3
  have hval1 : ∀ (j : Nat) t v, f.params[j]? = some t → args[j]? = some v → Value.okWide Tryd.prog W .any base t v := hval
  have hval2 : ∀ (j : Nat) t v, ts[j]? = some t → args[j]? = some v → Value.okWide Tryd.prog W .any base t v := by
    intro j t v h1 h2
    have h3 : f.params[j]? = some t := by
      rw [← Array.getElem?_toList, hts]
      exact h1
    exact hval1 j t v h3 h2
  have hlen := trodAll_ds hA2
  refine (walk W base args ds p (env_of hL) hval2 hA2 hsz2).mono fun e W' ⟨he, hb⟩ => ?_
  subst he
  have hlt : ∀ x ∈ p, x.block < W.heap.size := fun x hx => hW'.lt x (by simp [hx])
  have hargs := below_trodAll laid_ hb hread hA2 hlt
  refine ⟨_, rfl, ds, [], p ++ [], [], p ++ [], [], hW', ?_, ?_, ?_, hb.frame _, fun h => by cases h⟩
  · show DataW.TrodAll enc Tryd.prog W' _ _ _ f.resultTypes.toList _ (s.fn H (ds ++ [])).results []
    rw [List.append_nil, hs ds hlen, hrt]
    exact trodAll_mk1 (shut_bool hub _)
  · show DataW.TrodAll enc Tryd.prog W' 0 _ true f.params.toList args.toList (s.fn H (ds ++ [])).args (p ++ [])
    rw [List.append_nil, hs ds hlen, hts, List.append_nil]
    exact hargs
  · show DataW.TrodVars enc Tryd.prog W' _ s.vars (s.fn H (ds ++ [])).vars []
    rw [hv, List.append_nil, hs ds hlen]; rfl
end Go.Proofs.YtmpdobpnnejmmaaDoor
