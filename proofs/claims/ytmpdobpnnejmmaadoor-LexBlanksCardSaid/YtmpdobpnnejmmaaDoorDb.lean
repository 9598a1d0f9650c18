/- LexBlanks holds: for every input the law returns true and the input reads as it did. Conditions: none. -/
import Derived.Test.YtmpdobpnnejmmaaDoorDa
import Derived.Test.YtmpdobpnnejmmaaDoorLr
namespace Go.Proofs.YtmpdobpnnejmmaaDoor
open Go.ChangeShapes Go.WideShapes Go.ChangeAt Go.RowKit
open Go.ChangeMaps (open_string)

theorem open_ints_ {H : Type} {enc : TypeId × Value → H} {w : World} {fuel : Nat} {v : Value} {x : DataW H × List MemPlace} (h : DataW.trod enc Tryd.prog w 0 (fun _ => true) true fuel 36 [v] = some x) (hw : ∀ elems spare, x.1 = .slice elems spare → (elems.length + spare.length) * Tryd.prog.bytesOf 3 ≤ reachBytes) :
    ∃ xs : List Int, LsAt (fun z => [.int .i64 z]) 1 w v xs ∧ xs.length ≤ 100000000000000 ∧ ∀ x ∈ xs, True :=
  open_list (k := 1) (fun z => [.int .i64 z]) (fun _ => True) Tryd.underlying36 (by kernel_rfl) (by decide) (show 8 ≤ Tryd.prog.bytesOf 3 from by rw [show Tryd.prog.bytesOf 3 = 8 by kernel_rfl]; decide) (fun _ => rfl) (fun fuel cs y hcs htr => by
    match cs, hcs with
    | [v0], _ =>
      obtain ⟨z0, e0, _, _⟩ := DataW.trod_int (k := .i64) (by kernel_rfl) htr
      exact ⟨z0, e0, trivial⟩) h hw

set_option maxRecDepth 100000 in
theorem blanks_said : Rows.LexBlanksSaid :=
  OpenClaim.holds_of_cond 7 Tryd.f7 rfl rfl rfl rfl rfl rfl rfl ⟨rfl, rfl, rfl, rfl, rfl⟩ rfl rfl rfl rfl rfl (by kernel_rfl) Tryd.func7 (by kernel_rfl)
    (of_decide_eq_true (by kernel_rfl)) (by unfold Func.isWrapper; rw [if_neg (of_decide_eq_false (by kernel_rfl))]; exact ⟨rfl, rfl⟩)
    (fun os started H enc _ F => by
      rw [OpenClaim.pre_eq_preRow]
      exact law_row started (F := F) (s := Rows.lexBlanksSpec) (ts := [33, 36]) (b := 4) (by kernel_rfl) Tryd.func7 (by rw [Tryd.params7]) (by kernel_rfl) (by kernel_rfl) (by
          have h1 : Tryd.prog.readableRec 33 = true ∧ 33 < Tryd.prog.types.size := ⟨by kernel_rfl, of_decide_eq_true (by kernel_rfl)⟩
          intro t ht
          have h4 : Tryd.prog.readableRec 36 = true ∧ 36 < Tryd.prog.types.size := ⟨by kernel_rfl, of_decide_eq_true (by kernel_rfl)⟩
          simp only [List.mem_cons, List.not_mem_nil, or_false] at ht
          rcases ht with rfl | rfl
          · exact h1
          · exact h4) rfl
        (fun ds hl => by
          match ds, hl with
          | [d, d1], _ => rfl)
        (witness_row_atRef (enc := enc) (C := Tryd.checked) false (laidWorld os) #[.slice none 0 0, .slice none 0 0] rfl (by kernel_rfl) (by kernel_rfl) (by kernel_rfl)
          (OpenSpec.preRow_of_cond (x := ([.nil, .nil], [], [])) 8 (by kernel_rfl) (by kernel_rfl) (fun k hk => by cases hk) (by kernel_rfl) (laid_met os _)))
        (fun W base args ds p hE h1 h2 hsz => by
          obtain ⟨v, vs, d, ds1, p0, q0, hv, rfl, rfl, h3, r0⟩ := trodAll_cons h2
          obtain ⟨v1, vs1, d1, ds2, p1, q1, rfl, rfl, rfl, h4, r1⟩ := trodAll_cons r0
          obtain ⟨rfl, rfl, rfl⟩ := trodAll_nil r1
          obtain rfl : args = #[v, v1] := by cases args; simp_all
          obtain ⟨a0, len, cap, rfl⟩ := okWide_slice Tryd.underlying33 (h1 0 _ v rfl rfl)
          obtain ⟨a1, len1, cap1, rfl⟩ := okWide_slice Tryd.underlying36 (h1 1 _ v1 rfl rfl)
          obtain ⟨fuel, hf⟩ := h3
          obtain ⟨fuel1, hf1⟩ := h4
          obtain ⟨xs, hx, hn, hq⟩ := open_seeds hf (fun es sp hx => sized_slice hsz (j := 0) (t := 33) (e := 59) rfl (by rw [show d = _ from hx]; rfl) Tryd.underlying33)
          obtain ⟨ys, hy, hm, _⟩ := open_ints_ hf1 (fun es sp hx => sized_slice hsz (j := 1) (t := 36) (e := 3) rfl (by rw [show d1 = _ from hx]; rfl) Tryd.underlying36)
          exact lexBlanks_walk hE hx hn hq hy hm))

/-- No parameter wants a stand-in; the program's own looks are off. -/
theorem blanks_plain (f : FuncId) (fn : Func) (hf : Tryd.pinned.checked.prog.funcNamed "armillary/armillarylaw02.LexBlanks" = some f) (hfn : Tryd.pinned.checked.prog.funcs[f]? = some fn) :
    true = Tryd.pinned.checked.prog.looks [] ∧ ∀ (j : Nat) t, fn.params[j]? = some t → Tryd.pinned.checked.prog.wantsStandIn t = false := by
  obtain rfl : f = 7 := Option.some.inj ((show Tryd.prog.funcNamed "armillary/armillarylaw02.LexBlanks" = some 7 by kernel_rfl).symm.trans hf) |>.symm
  obtain rfl : fn = Tryd.f7 := (Option.some.inj (Tryd.func7.symm.trans hfn)).symm
  refine ⟨by kernel_rfl, fun j t ht => ?_⟩
  rw [Tryd.params7] at ht
  have hm := Array.mem_of_getElem? ht
  simp only [List.mem_toArray, List.mem_cons, List.not_mem_nil, or_false] at hm
  rcases hm with rfl | rfl
  · exact (show Tryd.prog.wantsStandIn 33 = false by kernel_rfl)
  · exact (show Tryd.prog.wantsStandIn 36 = false by kernel_rfl)
theorem blanks_holds : Rows.LexBlanksCardSaid :=
  Claim7.holds_tied_plain_at .later [] _ _ _ _ blanks_said (fun _ h => by cases h) (by kernel_rfl) (fun _ h => by cases h) lexBlanks_row_tie rfl ⟨rfl, rfl⟩ (by kernel_rfl) rfl blanks_plain (by kernel_rfl)
end Go.Proofs.YtmpdobpnnejmmaaDoor
