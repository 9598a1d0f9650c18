/- LexKnown holds: for every input the law returns true and the input reads as it did. Conditions: none. -/
import Derived.Test.YtmpdobpnnejmmaaDoorEa
import Derived.Test.YtmpdobpnnejmmaaDoorLr
namespace Go.Proofs.YtmpdobpnnejmmaaDoor
open Go.ChangeShapes Go.WideShapes Go.ChangeAt Go.RowKit

set_option maxRecDepth 100000 in
theorem known_said : Rows.LexKnownSaid :=
  OpenClaim.holds_of_cond 9 Tryd.f9 rfl rfl rfl rfl rfl rfl rfl ⟨rfl, rfl, rfl, rfl, rfl⟩ rfl rfl rfl rfl rfl (by kernel_rfl) Tryd.func9 (by kernel_rfl)
    (of_decide_eq_true (by kernel_rfl)) (by unfold Func.isWrapper; rw [if_neg (of_decide_eq_false (by kernel_rfl))]; exact ⟨rfl, rfl⟩)
    (fun os started H enc _ F => by
      rw [OpenClaim.pre_eq_preRow]
      exact law_row started (F := F) (s := Rows.lexKnownSpec) (ts := []) (b := 4) (by kernel_rfl) Tryd.func9 (by rw [Tryd.params9]) (by kernel_rfl) (by kernel_rfl) (by
          intro t ht
          simp at ht) rfl
        (fun ds hl => by
          match ds, hl with
          | [], _ => rfl)
        (witness_row_atRef (enc := enc) (C := Tryd.checked) false (laidWorld os) #[] rfl (by kernel_rfl) (by kernel_rfl) (by kernel_rfl)
          (OpenSpec.preRow_of_cond (x := ([], [], [])) 8 (by kernel_rfl) (by kernel_rfl) (fun k hk => by cases hk) (by kernel_rfl) (laid_met os _)))
        (fun W base args ds p hE _ h2 _ => by
          obtain ⟨hv, _, _⟩ := trodAll_nil h2
          obtain rfl : args = #[] := by simpa using hv
          exact lexKnown_walk hE))

/-- No parameter wants a stand-in; the program's own looks are off. -/
theorem known_plain (f : FuncId) (fn : Func) (hf : Tryd.pinned.checked.prog.funcNamed "armillary/armillarylaw02.LexKnown" = some f) (hfn : Tryd.pinned.checked.prog.funcs[f]? = some fn) :
    true = Tryd.pinned.checked.prog.looks [] ∧ ∀ (j : Nat) t, fn.params[j]? = some t → Tryd.pinned.checked.prog.wantsStandIn t = false := by
  obtain rfl : f = 9 := Option.some.inj ((show Tryd.prog.funcNamed "armillary/armillarylaw02.LexKnown" = some 9 by kernel_rfl).symm.trans hf) |>.symm
  obtain rfl : fn = Tryd.f9 := (Option.some.inj (Tryd.func9.symm.trans hfn)).symm
  refine ⟨by kernel_rfl, fun j t ht => ?_⟩
  rw [Tryd.params9] at ht
  simp at ht
theorem known_holds : Rows.LexKnownCardSaid :=
  Claim7.holds_tied_plain_at .later [] _ _ _ _ known_said (fun _ h => by cases h) (by kernel_rfl) (fun _ h => by cases h) lexKnown_row_tie rfl ⟨rfl, rfl⟩ (by kernel_rfl) rfl known_plain (by kernel_rfl)
end Go.Proofs.YtmpdobpnnejmmaaDoor
