/- LexBack holds: for every input the law returns true and the input reads as it did. Conditions: none. -/
import Derived.Test.YtmpdobpnnejmmaaDoorBd
import Derived.Test.YtmpdobpnnejmmaaDoorLr
namespace Go.Proofs.YtmpdobpnnejmmaaDoor
open Go.ChangeShapes Go.WideShapes Go.ChangeAt Go.RowKit
open Go.ChangeMaps (open_string)

set_option maxRecDepth 100000 in
theorem backl_said : Rows.LexBackSaid :=
  OpenClaim.holds_of_cond 6 Tryd.f6 rfl rfl rfl rfl rfl rfl rfl ⟨rfl, rfl, rfl, rfl, rfl⟩ rfl rfl rfl rfl rfl (by kernel_rfl) Tryd.func6 (by kernel_rfl)
    (of_decide_eq_true (by kernel_rfl)) (by unfold Func.isWrapper; rw [if_neg (of_decide_eq_false (by kernel_rfl))]; exact ⟨rfl, rfl⟩)
    (fun os started H enc _ F => by
      rw [OpenClaim.pre_eq_preRow]
      exact law_row started (F := F) (s := Rows.lexBackSpec) (ts := [33]) (b := 4) (by kernel_rfl) Tryd.func6 (by rw [Tryd.params6]) (by kernel_rfl) (by kernel_rfl) (by
          have h1 : Tryd.prog.readableRec 33 = true ∧ 33 < Tryd.prog.types.size := ⟨by kernel_rfl, of_decide_eq_true (by kernel_rfl)⟩
          intro t ht
          simp only [List.mem_cons, List.not_mem_nil, or_false] at ht
          subst ht
          exact h1) rfl
        (fun ds hl => by
          match ds, hl with
          | [d], _ => rfl)
        (witness_row_atRef (enc := enc) (C := Tryd.checked) false (laidWorld os) #[.slice none 0 0] rfl (by kernel_rfl) (by kernel_rfl) (by kernel_rfl)
          (OpenSpec.preRow_of_cond (x := ([.nil], [], [])) 8 (by kernel_rfl) (by kernel_rfl) (fun k hk => by cases hk) (by kernel_rfl) (laid_met os _)))
        (fun W base args ds p hE h1 h2 hsz => by
          obtain ⟨v, d, hv, rfl, h3⟩ := trodAll_one h2
          obtain rfl : args = #[v] := by cases args; simp_all
          obtain ⟨a0, len, cap, rfl⟩ := okWide_slice Tryd.underlying33 (h1 0 _ v rfl rfl)
          obtain ⟨fuel, hf⟩ := h3
          obtain ⟨xs, hx, hn, hq⟩ := open_seeds hf (fun es sp hx => sized_slice hsz (j := 0) (t := 33) (e := 59) rfl (by rw [show d = _ from hx]; rfl) Tryd.underlying33)
          exact lexBack_walk hE hx hn hq))

/-- No parameter wants a stand-in; the program's own looks are off. -/
theorem backl_plain (f : FuncId) (fn : Func) (hf : Tryd.pinned.checked.prog.funcNamed "armillary/armillarylaw02.LexBack" = some f) (hfn : Tryd.pinned.checked.prog.funcs[f]? = some fn) :
    true = Tryd.pinned.checked.prog.looks [] ∧ ∀ (j : Nat) t, fn.params[j]? = some t → Tryd.pinned.checked.prog.wantsStandIn t = false := by
  obtain rfl : f = 6 := Option.some.inj ((show Tryd.prog.funcNamed "armillary/armillarylaw02.LexBack" = some 6 by kernel_rfl).symm.trans hf) |>.symm
  obtain rfl : fn = Tryd.f6 := (Option.some.inj (Tryd.func6.symm.trans hfn)).symm
  refine ⟨by kernel_rfl, fun j t ht => ?_⟩
  rw [Tryd.params6] at ht
  obtain rfl : t = 33 := by simpa using Array.mem_of_getElem? ht
  exact (show Tryd.prog.wantsStandIn 33 = false by kernel_rfl)
theorem back_holds : Rows.LexBackCardSaid :=
  Claim7.holds_tied_plain_at .later [] _ _ _ _ backl_said (fun _ h => by cases h) (by kernel_rfl) (fun _ h => by cases h) lexBack_row_tie rfl ⟨rfl, rfl⟩ (by kernel_rfl) rfl backl_plain (by kernel_rfl)
end Go.Proofs.YtmpdobpnnejmmaaDoor
