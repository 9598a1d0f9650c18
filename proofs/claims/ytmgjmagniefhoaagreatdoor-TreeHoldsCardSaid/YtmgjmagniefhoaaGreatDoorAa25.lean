/- The argument Seed, opened: a struct of one slice of numbers. Conditions: those that each theorem names. -/
import Derived.Test.YtmgjmagniefhoaaGreatDoorAa24
import Derived.Test.YtmgjmagniefhoaaGreatDoorAa20
namespace Go.Proofs.YtmgjmagniefhoaaGreatDoor
open Go.ChangeShapes Go.WideShapes Go.ChangeAt Go.RowKit Go.Deep

theorem shape_lt {w : World} {b : Nat} {x : TypeId × Nat} (h : w.shape? b = some x) : b < w.heap.size := by
  unfold World.shape? at h
  cases e : w.heap[b]? with
  | none => rw [e] at h; simp at h
  | some o => exact (Array.getElem?_eq_some_iff.1 e).1

/-- What an argument that is a Seed says. -/
def SeedAt (w : World) (sv : Value) (N : List Int) : Prop :=
  RowAt w sv N.length (ints N) ∧ (∀ A n c, sv = .slice A n c → n ≤ c ∧ c ≤ 100000000000000) ∧ ∀ b off q n c, sv = .slice (some ⟨b, off, q⟩) n c → b < w.heap.size

theorem add_pl' (b off j : Nat) : (⟨b, off, none⟩ : Addr).add j = ⟨b, off + j, none⟩ := by unfold Addr.add; split <;> simp_all
set_option maxRecDepth 100000 in
theorem open_seed {H : Type} {enc : TypeId × Value → H} {w : World} {base : Nat} {v : Value} {d : DataW H} {p : List MemPlace} (hok : Value.okWide Tryz.prog w .any base 24 v)
    (h : DataW.Trod enc Tryz.prog w 0 (fun _ => true) true 24 v d p)
    (hw : ∀ n ∈ d.weights Tryz.prog 24, n ≤ reachBytes) : ∃ sv N, v = .agg #[sv] ∧ SeedAt w sv N := by
  obtain ⟨fuel, h⟩ := h
  unfold Value.okWide at hok
  rw [Tryz.underlying24] at hok
  obtain ⟨cs, rfl, hcs, ts, hts, _, hcell⟩ := hok
  have hcs1 : cs.size = 1 := hcs.trans (by kernel_rfl)
  obtain ⟨sv, rfl⟩ : ∃ sv, cs = #[sv] := by
    obtain ⟨l⟩ := cs
    match l, hcs1 with
    | [sv], _ => exact ⟨sv, rfl⟩
  have hts1 : ts = [22] := Option.some.inj (hts.symm.trans (by kernel_rfl))
  subst hts1
  obtain ⟨u, hu, hsv⟩ := hcell 0 sv rfl
  have hu1 : u = 22 := (Option.some.inj hu).symm
  subst hu1
  refine ⟨sv, ?_⟩
  obtain ⟨ys, n', _, hx, _, hyl, hf⟩ := DataW.trod_struct Tryz.underlying24 h
  have f0 := hf 0 _ rfl
  match ys, hyl with
  | [y0], _ =>
    have g0 : DataW.trod enc Tryz.prog w 0 (fun _ => true) true n' 22 [sv] = some y0 := f0
    have hd : d = .agg [y0.1] := congrArg Prod.fst hx
    subst hd
    rcases open_slice1 Tryz.underlying22 (by kernel_rfl) g0 with ⟨hv, _⟩ | ⟨a, len, cap, mm, n, V, D, Pl, hcs, _, hl2, hm, hmm, hy, hel⟩
    · simp at hv
      subst hv
      refine ⟨[], rfl, RowAt.nil w, fun A n c e => ?_, fun b off q n c e => by cases e⟩
      injection e with _ e2 e3
      omega
    · simp only [List.cons.injEq, and_true] at hcs
      subst hcs
      simp only [if_true] at hmm
      subst hmm
      have hcap : mm ≤ 100000000000000 := by
        have := hw ((len + (mm - len)) * Tryz.prog.bytesOf 3) (by
          rw [hy]
          simp only [DataW.weights, Tryz.underlying24, DataW.weightsEach, List.map_cons, List.map_nil, Tryz.underlying22, List.append_nil, List.length_map, List.length_range]
          exact List.mem_cons_self)
        rw [show Tryz.prog.bytesOf 3 = 8 by kernel_rfl] at this
        simp only [reachBytes] at this
        omega
      unfold Cell.okWide at hsv
      rw [Tryz.underlying22] at hsv
      have hsv2 : Cell.ok Tryz.prog w .any base 22 (.slice (some a) len mm) := hsv
      unfold Cell.ok at hsv2
      rw [Tryz.underlying22] at hsv2
      obtain ⟨_, _, _, hsp, row, cells, hsh, _⟩ := hsv2
      obtain ⟨b, off, spot⟩ := a
      obtain rfl : spot = none := hsp
      have hlt := shape_lt hsh
      have key : ∀ j : Fin len, ∃ z : Int, V j = .int .i64 z := fun ⟨j, hj⟩ => by
        obtain ⟨z, e, _, _⟩ := DataW.trod_int (k := .i64) Tryz.underlying3 (hel j (by omega)).2
        simp only [List.cons.injEq, and_true] at e
        exact ⟨z, e⟩
      obtain ⟨f, hf⟩ := Classical.skolem.1 key
      have hlf : (List.ofFn f).length = len := List.length_ofFn
      refine ⟨List.ofFn f, rfl, ⟨_, _, by rw [hlf], (fun h => by cases h), fun b' off' q' e => ?_⟩, fun A n c e => ?_, fun b' off' q' n c e => ?_⟩
      · injection e with e
        injection e with e1 e2 e3
        subst e1 e2 e3
        refine ⟨rfl, fun j u hu => ?_⟩
        have hj : j < len := by
          have := (List.getElem?_eq_some_iff.1 hu).1
          simpa [ints] using this
        rw [ints_at (by rw [hlf]; exact hj)] at hu
        have h6 := (hel j (by omega)).1
        rw [add_pl'] at h6
        rw [h6, ← hu, hf ⟨j, hj⟩, List.getElem_ofFn]
      · injection e with _ e2 e3
        omega
      · injection e with e _ _
        injection e with e
        injection e with e1 _ _
        rw [← e1]; exact hlt
end Go.Proofs.YtmgjmagniefhoaaGreatDoor
