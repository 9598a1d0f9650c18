/- TreeBlanks holds: for every input the law returns true and the input reads as it did. Conditions: none. -/
import Derived.Test.YtmgjmagniefhoaaGreatDoorAa24
import Derived.Test.YtmgjmagniefhoaaGreatDoorAa25
namespace Go.Proofs.YtmgjmagniefhoaaGreatDoor
open Go.ChangeShapes Go.WideShapes Go.ChangeAt Go.RowKit
open Go.ChangeMaps (open_string)

set_option maxRecDepth 100000 in
theorem blanks_said : Rows.TreeBlanksSaid :=
  OpenClaim.holds_of_cond 8 Tryz.f8 rfl rfl rfl rfl rfl rfl rfl ⟨rfl, rfl, rfl, rfl, rfl⟩ rfl rfl rfl rfl rfl (by kernel_rfl) Tryz.func8 (by kernel_rfl)
    (of_decide_eq_true (by kernel_rfl)) (by unfold Func.isWrapper; rw [if_neg (of_decide_eq_false (by kernel_rfl))]; exact ⟨rfl, rfl⟩)
    (fun os started H enc _ F => by
      rw [OpenClaim.pre_eq_preRow]
      exact law_row started (F := F) (s := Rows.treeBlanksSpec) (ts := [24, 9]) (b := 4) (by kernel_rfl) Tryz.func8 (by rw [Tryz.params8]) (by kernel_rfl) (by kernel_rfl) (by
          have h1 : Tryz.prog.readableRec 24 = true ∧ 24 < Tryz.prog.types.size := ⟨by kernel_rfl, of_decide_eq_true (by kernel_rfl)⟩
          intro t ht
          have h4 : Tryz.prog.readableRec 9 = true ∧ 9 < Tryz.prog.types.size := ⟨by kernel_rfl, of_decide_eq_true (by kernel_rfl)⟩
          simp only [List.mem_cons, List.not_mem_nil, or_false] at ht
          rcases ht with rfl | rfl
          · exact h1
          · exact h4) rfl
        (fun ds hl => by
          match ds, hl with
          | [d, d1], _ => rfl)
        (witness_row_atRef (enc := enc) (C := Tryz.checked) false (laidWorld os) #[.agg #[.slice none 0 0], .string ⟨#[]⟩] rfl (by kernel_rfl) (by kernel_rfl) (by kernel_rfl)
          (OpenSpec.preRow_of_cond (x := ([.agg [.nil], .lit (.string [])], [], [])) 8 (by kernel_rfl) (by kernel_rfl) (fun k hk => by cases hk) (by kernel_rfl) (laid_met os _)))
        (fun W base args ds p hE h1 h2 hsz => by
          obtain ⟨v, vs, d, ds1, p0, q0, hv, rfl, rfl, h3, r0⟩ := trodAll_cons h2
          obtain ⟨v1, vs1, d1, ds2, p1, q1, rfl, rfl, rfl, h4, r1⟩ := trodAll_cons r0
          obtain ⟨rfl, rfl, rfl⟩ := trodAll_nil r1
          obtain rfl : args = #[v, v1] := by cases args; simp_all
          obtain ⟨t, rfl, ht⟩ := open_string Tryz.underlying9 (h1 1 _ v1 rfl rfl) h4
          obtain ⟨sv, N, rfl, hs⟩ := open_seed (h1 0 _ v rfl rfl) h3 (fun n hn => by simpa using List.all_eq_true.1 hsz n (DataW.weights_mem_each (j := 0) rfl rfl n hn))
          have hl := sized_string hsz (j := 1) (t := 9) rfl (by rw [ht.1]; rfl)
          rw [Array.length_toList] at hl
          have hl2 : t.size ≤ reachBytes := hl
          exact blanks_c hE hs.1 hs.2.1 hs.2.2 t (Nat.le_trans hl2 (by decide))))

/-- No parameter wants a stand-in; the program's own looks are off. -/
theorem blanks_plain (f : FuncId) (fn : Func) (hf : Tryz.pinned.checked.prog.funcNamed "armillary/armillarylaw03.TreeBlanks" = some f) (hfn : Tryz.pinned.checked.prog.funcs[f]? = some fn) :
    true = Tryz.pinned.checked.prog.looks [] ∧ ∀ (j : Nat) t, fn.params[j]? = some t → Tryz.pinned.checked.prog.wantsStandIn t = false := by
  obtain rfl : f = 8 := Option.some.inj ((show Tryz.prog.funcNamed "armillary/armillarylaw03.TreeBlanks" = some 8 by kernel_rfl).symm.trans hf) |>.symm
  obtain rfl : fn = Tryz.f8 := (Option.some.inj (Tryz.func8.symm.trans hfn)).symm
  refine ⟨by kernel_rfl, fun j t ht => ?_⟩
  rw [Tryz.params8] at ht
  have hm := Array.mem_of_getElem? ht
  simp only [List.mem_toArray, List.mem_cons, List.not_mem_nil, or_false] at hm
  rcases hm with rfl | rfl
  · exact (show Tryz.prog.wantsStandIn 24 = false by kernel_rfl)
  · exact (show Tryz.prog.wantsStandIn 9 = false by kernel_rfl)
theorem blanks_holds : Rows.TreeBlanksCardSaid :=
  Claim7.holds_tied_plain_at .later [] _ _ _ _ blanks_said (fun _ h => by cases h) (by kernel_rfl) (fun _ h => by cases h) treeBlanks_row_tie rfl ⟨rfl, rfl⟩ (by kernel_rfl) rfl blanks_plain (by kernel_rfl)
end Go.Proofs.YtmgjmagniefhoaaGreatDoor
