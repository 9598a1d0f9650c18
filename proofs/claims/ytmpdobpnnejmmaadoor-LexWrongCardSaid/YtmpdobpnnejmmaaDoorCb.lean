/- LexWrong holds: for every input the law returns true and the input reads as it did. Conditions: none. -/
import Derived.Test.YtmpdobpnnejmmaaDoorCa
import Derived.Test.YtmpdobpnnejmmaaDoorLr
namespace Go.Proofs.YtmpdobpnnejmmaaDoor
open Go.ChangeShapes Go.WideShapes Go.ChangeAt Go.RowKit
open Go.ChangeMaps (open_string)

set_option maxRecDepth 100000 in
theorem wrongl_said : Rows.LexWrongSaid :=
  OpenClaim.holds_of_cond 8 Tryd.f8 rfl rfl rfl rfl rfl rfl rfl ⟨rfl, rfl, rfl, rfl, rfl⟩ rfl rfl rfl rfl rfl (by kernel_rfl) Tryd.func8 (by kernel_rfl)
    (of_decide_eq_true (by kernel_rfl)) (by unfold Func.isWrapper; rw [if_neg (of_decide_eq_false (by kernel_rfl))]; exact ⟨rfl, rfl⟩)
    (fun os started H enc _ F => by
      rw [OpenClaim.pre_eq_preRow]
      exact law_row started (F := F) (s := Rows.lexWrongSpec) (ts := [33, 3, 3]) (b := 4) (by kernel_rfl) Tryd.func8 (by rw [Tryd.params8]) (by kernel_rfl) (by kernel_rfl) (by
          have h1 : Tryd.prog.readableRec 33 = true ∧ 33 < Tryd.prog.types.size := ⟨by kernel_rfl, of_decide_eq_true (by kernel_rfl)⟩
          intro t ht
          have h4 : Tryd.prog.readableRec 3 = true ∧ 3 < Tryd.prog.types.size := ⟨by kernel_rfl, of_decide_eq_true (by kernel_rfl)⟩
          simp only [List.mem_cons, List.not_mem_nil, or_false] at ht
          rcases ht with rfl | rfl | rfl
          · exact h1
          · exact h4
          · exact h4) rfl
        (fun ds hl => by
          match ds, hl with
          | [d, d1, d2], _ => rfl)
        (witness_row_atRef (enc := enc) (C := Tryd.checked) false (laidWorld os) #[.slice none 0 0, .int .i64 0, .int .i64 0] rfl (by kernel_rfl) (by kernel_rfl) (by kernel_rfl)
          (OpenSpec.preRow_of_cond (x := ([.nil, .lit (.int .i64 0), .lit (.int .i64 0)], [], [])) 8 (by kernel_rfl) (by kernel_rfl) (fun k hk => by cases hk) (by kernel_rfl) (laid_met os _)))
        (fun W base args ds p hE h1 h2 hsz => by
          obtain ⟨v, vs, d, ds1, p0, q0, hv, rfl, rfl, h3, r0⟩ := trodAll_cons h2
          obtain ⟨v1, vs1, d1, ds2, p1, q1, rfl, rfl, rfl, h4, r1⟩ := trodAll_cons r0
          obtain ⟨v2, vs2, d2, ds3, p2, q2, rfl, rfl, rfl, h5, r2⟩ := trodAll_cons r1
          obtain ⟨rfl, rfl, rfl⟩ := trodAll_nil r2
          obtain rfl : args = #[v, v1, v2] := by cases args; simp_all
          obtain ⟨k1, rfl, _, _, _⟩ := open_int (k := .i64) (by kernel_rfl) (h1 1 3 v1 rfl rfl) h4
          obtain ⟨k2, rfl, _, _, _⟩ := open_int (k := .i64) (by kernel_rfl) (h1 2 3 v2 rfl rfl) h5
          obtain ⟨a0, len, cap, rfl⟩ := okWide_slice Tryd.underlying33 (h1 0 _ v rfl rfl)
          obtain ⟨fuel, hf⟩ := h3
          obtain ⟨xs, hx, hn, hq⟩ := open_seeds hf (fun es sp hx => sized_slice hsz (j := 0) (t := 33) (e := 59) rfl (by rw [show d = _ from hx]; rfl) Tryd.underlying33)
          exact lexWrong_walk hE hx hn hq k1 k2))

/-- No parameter wants a stand-in; the program's own looks are off. -/
theorem wrongl_plain (f : FuncId) (fn : Func) (hf : Tryd.pinned.checked.prog.funcNamed "armillary/armillarylaw02.LexWrong" = some f) (hfn : Tryd.pinned.checked.prog.funcs[f]? = some fn) :
    true = Tryd.pinned.checked.prog.looks [] ∧ ∀ (j : Nat) t, fn.params[j]? = some t → Tryd.pinned.checked.prog.wantsStandIn t = false := by
  obtain rfl : f = 8 := Option.some.inj ((show Tryd.prog.funcNamed "armillary/armillarylaw02.LexWrong" = some 8 by kernel_rfl).symm.trans hf) |>.symm
  obtain rfl : fn = Tryd.f8 := (Option.some.inj (Tryd.func8.symm.trans hfn)).symm
  refine ⟨by kernel_rfl, fun j t ht => ?_⟩
  rw [Tryd.params8] at ht
  have hm := Array.mem_of_getElem? ht
  simp only [List.mem_toArray, List.mem_cons, List.not_mem_nil, or_false] at hm
  rcases hm with rfl | rfl | rfl
  · exact (show Tryd.prog.wantsStandIn 33 = false by kernel_rfl)
  · exact (show Tryd.prog.wantsStandIn 3 = false by kernel_rfl)
  · exact (show Tryd.prog.wantsStandIn 3 = false by kernel_rfl)
theorem wrong_holds : Rows.LexWrongCardSaid :=
  Claim7.holds_tied_plain_at .later [] _ _ _ _ wrongl_said (fun _ h => by cases h) (by kernel_rfl) (fun _ h => by cases h) lexWrong_row_tie rfl ⟨rfl, rfl⟩ (by kernel_rfl) rfl wrongl_plain (by kernel_rfl)
end Go.Proofs.YtmpdobpnnejmmaaDoor
