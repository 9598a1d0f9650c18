/- TreeHolds holds: for every input the law returns true and the input reads as it did. Conditions: none. -/
import Derived.Test.YtmgjmagniefhoaaGreatDoorAc09
import Derived.Test.YtmgjmagniefhoaaGreatDoorAc10
namespace Go.Proofs.YtmgjmagniefhoaaGreatDoor
open Go.ChangeShapes Go.WideShapes Go.ChangeAt Go.RowKit
open Go.ChangeMaps (open_string)

set_option maxRecDepth 100000 in
theorem holds_said : Rows.TreeHoldsSaid :=
  OpenClaim.holds_of_cond 5 Tryz.f5 rfl rfl rfl rfl rfl rfl rfl ⟨rfl, rfl, rfl, rfl, rfl⟩ rfl rfl rfl rfl rfl (by kernel_rfl) Tryz.func5 (by kernel_rfl)
    (of_decide_eq_true (by kernel_rfl)) (by unfold Func.isWrapper; rw [if_neg (of_decide_eq_false (by kernel_rfl))]; exact ⟨rfl, rfl⟩)
    (fun os started H enc _ F => by
      rw [OpenClaim.pre_eq_preRow]
      exact law_row started (F := F) (s := Rows.treeHoldsSpec) (ts := [31, 31]) (b := 4) (by kernel_rfl) Tryz.func5 (by rw [Tryz.params5]) (by kernel_rfl) (by kernel_rfl) (by
          have h0 : Tryz.prog.readableRec 31 = true ∧ 31 < Tryz.prog.types.size := ⟨by kernel_rfl, of_decide_eq_true (by kernel_rfl)⟩
          intro t ht
          simp only [List.mem_cons, List.not_mem_nil, or_false] at ht
          rcases ht with rfl | rfl
          · exact h0
          · exact h0) rfl
        (fun ds hl => by
          match ds, hl with
          | [d0, d1], _ => rfl)
        (witness_row_atRef (enc := enc) (C := Tryz.checked) false (laidWorld os) #[.agg #[.string ⟨#[]⟩, .slice none 0 0, .slice none 0 0, .slice none 0 0, .slice none 0 0], .agg #[.string ⟨#[]⟩, .slice none 0 0, .slice none 0 0, .slice none 0 0, .slice none 0 0]] rfl (by kernel_rfl) (by kernel_rfl) (by kernel_rfl)
          (OpenSpec.preRow_of_cond (x := ([.agg [.lit (.string []), .nil, .nil, .nil, .nil], .agg [.lit (.string []), .nil, .nil, .nil, .nil]], [], [])) 8 (by kernel_rfl) (by kernel_rfl) (fun k hk => by cases hk) (by kernel_rfl) (laid_met os _)))
        (fun W base args ds p hE h1 h2 hsz => by
          obtain ⟨v0, vs0, d0, ds1, p0, q0, hv, rfl, rfl, x0, r0⟩ := trodAll_cons h2
          obtain ⟨v1, vs1, d1, ds2, p1, q1, rfl, rfl, rfl, x1, r1⟩ := trodAll_cons r0
          obtain ⟨rfl, rfl, rfl⟩ := trodAll_nil r1
          obtain rfl : args = #[v0, v1] := by cases args; simp_all
          obtain ⟨iv0, tv0, fv0, nv0, m0, fx0, nx0, rfl, hm0⟩ := open_module (h1 0 _ v0 rfl rfl) x0 (fun n hn => by simpa using List.all_eq_true.1 hsz n (DataW.weights_mem_each (j := 0) rfl rfl n hn))
          obtain ⟨iv1, tv1, fv1, nv1, m1, fx1, nx1, rfl, hm1⟩ := open_module (h1 1 _ v1 rfl rfl) x1 (fun n hn => by simpa using List.all_eq_true.1 hsz n (DataW.weights_mem_each (j := 1) rfl rfl n hn))
          exact holds_c hE hm0 hm1))

/-- No parameter wants a stand-in; the program's own looks are off. -/
theorem holds_plain (f : FuncId) (fn : Func) (hf : Tryz.pinned.checked.prog.funcNamed "armillary/armillarylaw03.TreeHolds" = some f) (hfn : Tryz.pinned.checked.prog.funcs[f]? = some fn) :
    true = Tryz.pinned.checked.prog.looks [] ∧ ∀ (j : Nat) t, fn.params[j]? = some t → Tryz.pinned.checked.prog.wantsStandIn t = false := by
  obtain rfl : f = 5 := Option.some.inj ((show Tryz.prog.funcNamed "armillary/armillarylaw03.TreeHolds" = some 5 by kernel_rfl).symm.trans hf) |>.symm
  obtain rfl : fn = Tryz.f5 := (Option.some.inj (Tryz.func5.symm.trans hfn)).symm
  refine ⟨by kernel_rfl, fun j t ht => ?_⟩
  rw [Tryz.params5] at ht
  have hm := Array.mem_of_getElem? ht
  simp only [List.mem_toArray, List.mem_cons, List.not_mem_nil, or_false] at hm
  rcases hm with rfl | rfl
  · exact (show Tryz.prog.wantsStandIn 31 = false by kernel_rfl)
  · exact (show Tryz.prog.wantsStandIn 31 = false by kernel_rfl)
theorem holds_holds : Rows.TreeHoldsCardSaid :=
  Claim7.holds_tied_plain_at .later [] _ _ _ _ holds_said (fun _ h => by cases h) (by kernel_rfl) (fun _ h => by cases h) treeHolds_row_tie rfl ⟨rfl, rfl⟩ (by kernel_rfl) rfl holds_plain (by kernel_rfl)
end Go.Proofs.YtmgjmagniefhoaaGreatDoor
