/- LexCuts: the walk. Conditions: those that each theorem names. -/
import Derived.Test.YtmpdobpnnejmmaaDoorWa
import Derived.Test.YtmpdobpnnejmmaaDoorRi
namespace Go.Proofs.YtmpdobpnnejmmaaDoor
open Go.RowKit Go.Maps

theorem ref_WordsU (w : World) (s : ByteArray) (hs : s.size ≤ 1000000000) : Calls Tryd.prog 11 #[.string s] w fun e w' => ∃ v, WsAt w' v (wordsR s).1 ∧ e = .returned (.tuple #[v, .int .i64 (wordsR s).2.1, .int .i64 (wordsR s).2.2]) ∧ Below w.heap.size w w' :=
  (ref_Words w s hs).mono fun _ _ h => words_uni h

theorem ref_same {w : World} {a b : Value} {xs : List Lx.Wd} (ha : WsAt w a xs) (hb : WsAt w b xs) (hla : xs.length ≤ 1000000) : Calls Tryd.prog 12 #[a, b] w fun e w' => e = .returned (.bool true) ∧ Below w.heap.size w w' :=
  (ref_Same ha hb hla).mono fun e w' h => by rw [decide_eq_true rfl] at h; exact h
set_option maxHeartbeats 4000000 in
set_option maxRecDepth 100000 in
theorem lexCuts_walk {w : World} (hv : Env w) (s : ByteArray) : Calls Tryd.prog 3 #[.string s] w fun e w' => e = .returned (.bool true) ∧ Below w.heap.size w w' := by
  have HV := hid_ hv
  clear hv
  obtain ⟨n, hn, hn1, hn2⟩ : ∃ n : Nat, n = min s.size 2000 ∧ n ≤ s.size ∧ n ≤ 2000 := ⟨_, rfl, Nat.min_le_left _ _, Nat.min_le_right _ _⟩
  have e0 : min (s.size : Int) 2000 = (n : Int) := by omega
  go_enter Tryd.func3, Tryd.ntmps3
  go_wp2_with fail
  obtain ⟨T, eT⟩ : ∃ T, T = s.extract 0 (min s.size 2000) := ⟨_, rfl⟩
  have hT : T.size ≤ 2000 := by rw [eT, ByteArray.size_extract]; omega
  rw [← eT]
  clear eT e0 hn hn1 hn2
  have hT2 : T.size ≤ 1000000000 := by omega
  have hfew : (wordsR T).1.length ≤ 1000000 := by have := wordsR_few T; omega
  have HF := hid_ hfew
  clear hfew
  refine (lex_WordsU HV.out T hT2).mono ?_
  rintro e w2 ⟨v, hws, rfl, hb2⟩
  have HB2 := hid_ hb2
  have HA := hid_ hws
  clear hb2 hws
  go_wp2_with fail
  refine (ref_WordsU w2 T hT2).mono ?_
  rintro e w3 ⟨v3, hws3, rfl, hb3⟩
  have HS := hid_ (ref_same (HA.out.below hb3) hws3 HF.out)
  have HB3 := hid_ (HB2.out.trans (hb3.mono HB2.out.size))
  clear hb3 hws3
  go_wp2_with fail
  refine HS.out.mono ?_
  rintro e w4 ⟨rfl, hb4⟩
  have HB4 := hid_ (HB3.out.trans (hb4.mono HB3.out.size))
  clear hb4
  go_wp2_with fail
  refine (lex_IsKey (HV.out.below HB4.out) T).mono ?_
  rintro e w5 ⟨rfl, rfl⟩
  go_wp2_with fail
  refine (ref_IsKey w4 T).mono ?_
  rintro e w5 ⟨rfl, hb5⟩
  have HB5 := hid_ (HB4.out.trans (hb5.mono HB4.out.size))
  clear hb5
  go_wp2_with fail
  refine (lex_IsName (HV.out.below HB5.out) T hT2).mono ?_
  rintro e w6 ⟨rfl, hb6⟩
  have HB6 := hid_ (HB5.out.trans (hb6.mono HB5.out.size))
  clear hb6
  go_wp2_with fail
  refine (ref_IsName w6 T hT2).mono ?_
  rintro e w7 ⟨rfl, hb7⟩
  have HB7 := hid_ (HB6.out.trans (hb7.mono HB6.out.size))
  clear hb7
  go_wp2_with fail
  refine (lex_IsType w7 T hT2).mono ?_
  rintro e w8 ⟨rfl, hb8⟩
  have HB8 := hid_ (HB7.out.trans (hb8.mono HB7.out.size))
  clear hb8
  go_wp2_with fail
  refine (ref_IsType w8 T hT2).mono ?_
  rintro e w9 ⟨rfl, rfl⟩
  go_wp2_with fail
  refine (law_works (HV.out.below HB8.out)).mono ?_
  rintro e w10 ⟨rfl, hb10⟩
  have HB10 := hid_ (HB8.out.trans (hb10.mono HB8.out.size))
  clear hb10
  go_wp2_with fail
  go_ret
  exact ⟨rfl, HB10.out⟩
end Go.Proofs.YtmpdobpnnejmmaaDoor
