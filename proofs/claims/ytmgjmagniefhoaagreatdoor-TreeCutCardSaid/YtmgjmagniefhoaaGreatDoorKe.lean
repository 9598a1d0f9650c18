/- TreeCut holds: for every input the law returns true and the input reads as it did. Conditions: none. -/
import Derived.Test.YtmgjmagniefhoaaGreatDoorAb10
import Derived.Test.YtmgjmagniefhoaaGreatDoorAa25
namespace Go.Proofs.YtmgjmagniefhoaaGreatDoor
open Go.ChangeShapes Go.WideShapes Go.ChangeAt Go.RowKit
open Go.ChangeMaps (open_string)

set_option maxRecDepth 100000 in
theorem cut_said : Rows.TreeCutSaid :=
  OpenClaim.holds_of_cond 7 Tryz.f7 rfl rfl rfl rfl rfl rfl rfl ⟨rfl, rfl, rfl, rfl, rfl⟩ rfl rfl rfl rfl rfl (by kernel_rfl) Tryz.func7 (by kernel_rfl)
    (of_decide_eq_true (by kernel_rfl)) (by unfold Func.isWrapper; rw [if_neg (of_decide_eq_false (by kernel_rfl))]; exact ⟨rfl, rfl⟩)
    (fun os started H enc _ F => by
      rw [OpenClaim.pre_eq_preRow]
      exact law_row started (F := F) (s := Rows.treeCutSpec) (ts := [24, 3]) (b := 4) (by kernel_rfl) Tryz.func7 (by rw [Tryz.params7]) (by kernel_rfl) (by kernel_rfl) (by
          have h0 : Tryz.prog.readableRec 24 = true ∧ 24 < Tryz.prog.types.size := ⟨by kernel_rfl, of_decide_eq_true (by kernel_rfl)⟩
          have h1 : Tryz.prog.readableRec 3 = true ∧ 3 < Tryz.prog.types.size := ⟨by kernel_rfl, of_decide_eq_true (by kernel_rfl)⟩
          intro t ht
          simp only [List.mem_cons, List.not_mem_nil, or_false] at ht
          rcases ht with rfl | rfl
          · exact h0
          · exact h1) rfl
        (fun ds hl => by
          match ds, hl with
          | [d0, d1], _ => rfl)
        (witness_row_atRef (enc := enc) (C := Tryz.checked) false (laidWorld os) #[.agg #[.slice none 0 0], .int .i64 0] rfl (by kernel_rfl) (by kernel_rfl) (by kernel_rfl)
          (OpenSpec.preRow_of_cond (x := ([.agg [.nil], .lit (.int .i64 0)], [], [])) 8 (by kernel_rfl) (by kernel_rfl) (fun k hk => by cases hk) (by kernel_rfl) (laid_met os _)))
        (fun W base args ds p hE h1 h2 hsz => by
          obtain ⟨v0, vs0, d0, ds1, p0, q0, hv, rfl, rfl, x0, r0⟩ := trodAll_cons h2
          obtain ⟨v1, vs1, d1, ds2, p1, q1, rfl, rfl, rfl, x1, r1⟩ := trodAll_cons r0
          obtain ⟨rfl, rfl, rfl⟩ := trodAll_nil r1
          obtain rfl : args = #[v0, v1] := by cases args; simp_all
          obtain ⟨sv0, N0, rfl, hs0⟩ := open_seed (h1 0 _ v0 rfl rfl) x0 (fun n hn => by simpa using List.all_eq_true.1 hsz n (DataW.weights_mem_each (j := 0) rfl rfl n hn))
          obtain ⟨k1, rfl, _, _, _⟩ := open_int (k := .i64) (by kernel_rfl) (h1 1 3 v1 rfl rfl) x1
          exact cut_c hE hs0.1 hs0.2.1 hs0.2.2 k1))

/-- No parameter wants a stand-in; the program's own looks are off. -/
theorem cut_plain (f : FuncId) (fn : Func) (hf : Tryz.pinned.checked.prog.funcNamed "armillary/armillarylaw03.TreeCut" = some f) (hfn : Tryz.pinned.checked.prog.funcs[f]? = some fn) :
    true = Tryz.pinned.checked.prog.looks [] ∧ ∀ (j : Nat) t, fn.params[j]? = some t → Tryz.pinned.checked.prog.wantsStandIn t = false := by
  obtain rfl : f = 7 := Option.some.inj ((show Tryz.prog.funcNamed "armillary/armillarylaw03.TreeCut" = some 7 by kernel_rfl).symm.trans hf) |>.symm
  obtain rfl : fn = Tryz.f7 := (Option.some.inj (Tryz.func7.symm.trans hfn)).symm
  refine ⟨by kernel_rfl, fun j t ht => ?_⟩
  rw [Tryz.params7] at ht
  have hm := Array.mem_of_getElem? ht
  simp only [List.mem_toArray, List.mem_cons, List.not_mem_nil, or_false] at hm
  rcases hm with rfl | rfl
  · exact (show Tryz.prog.wantsStandIn 24 = false by kernel_rfl)
  · exact (show Tryz.prog.wantsStandIn 3 = false by kernel_rfl)
theorem cut_holds : Rows.TreeCutCardSaid :=
  Claim7.holds_tied_plain_at .later [] _ _ _ _ cut_said (fun _ h => by cases h) (by kernel_rfl) (fun _ h => by cases h) treeCut_row_tie rfl ⟨rfl, rfl⟩ (by kernel_rfl) rfl cut_plain (by kernel_rfl)
end Go.Proofs.YtmgjmagniefhoaaGreatDoor
