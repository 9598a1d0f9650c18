/- Words of a made text, some of them, joined again: what is read of it. No program is walked here. -/
import Derived.Test.YtmgjmagniefhoaaGreatDoorAb04
import Derived.Test.YtmgjmagniefhoaaGreatDoorAa19
namespace Go.Proofs.YtmgjmagniefhoaaGreatDoor
open Lx (Bs Wd)
theorem joinL_end {ys : List Wd} {e : Wd} (he : e.kind = 7) : Lx.joinL (ys ++ [e]) = Lx.joinL ys := by
  unfold Lx.joinL
  rw [Lx.parts_end he]
theorem joinL_len {ys : List Wd} (hg : ∀ x ∈ ys, Lx.Good (Lx.strip x)) : (Lx.joinL ys).length ≤ (ys.map fun x => (Lx.shown x.kind x.text).length + 1).sum := by
  rcases Lx.join_is (e := ⟨7, [], 0, 0⟩) hg rfl with ⟨rfl, h⟩ | ⟨x, xs, rfl, h⟩
  · exact Nat.zero_le _
  · rw [joinL_end rfl] at h
    rw [h, List.length_append, Lx.flat_len, List.map_cons, List.sum_cons]
    omega
theorem join_words {ys : List Wd} (hg : ∀ x ∈ ys, Lx.Good (Lx.strip x)) (hs : (ys.map fun x => (Lx.shown x.kind x.text).length + 1).sum ≤ 60000) :
    ∃ ws, wordsR (st (Lx.joinL ys)) = (ws ++ [endW (st (Lx.joinL ys))], 0, 0) ∧ ws.map Tr.kw = ys.map Tr.kw := by
  have hl := joinL_len hg
  have key : ∃ ws, Lx.cut (Lx.joinL ys) = .ok ws ∧ ws.map Tr.kw = ys.map Tr.kw := by
    rcases Lx.join_is (e := ⟨7, [], 0, 0⟩) hg rfl with ⟨rfl, h⟩ | ⟨x, xs, rfl, h⟩
    · exact ⟨[], rfl, rfl⟩
    · rw [joinL_end rfl] at h
      have hge := Lx.sum_ge xs
      have hlen : (x :: xs).length < (Lx.joinL (x :: xs)).length + 1 := by
        obtain ⟨c, r, hc, _⟩ := (hg x List.mem_cons_self).head
        have hc : Lx.shown x.kind x.text = c :: r := hc
        rw [h, List.length_append, Lx.flat_len, hc, List.length_cons, List.length_cons]
        omega
      unfold Lx.cut
      obtain ⟨ws, h1, h2⟩ := Lx.cutF_good (Lx.joinL (x :: xs)).length _ (Lx.joinL (x :: xs)) ((x :: xs).map Lx.strip) ([] :: List.replicate xs.length [32]) (by rw [List.length_map]; exact hlen) (fun y hy => by
          obtain ⟨z, hz, rfl⟩ := List.mem_map.1 hy
          exact hg z hz) (by simp) ⟨[], rfl, .inl rfl, by
          rw [List.map_cons, List.zipWith_cons_cons, List.flatten_cons]
          have hz := Lx.zip_32 (xs.map Lx.strip)
          rw [List.length_map] at hz
          rw [hz, List.map_map, List.append_nil, List.nil_append, h]
          rfl⟩ (fun p hp q hq => by
          obtain ⟨c, r, rfl, a, b, d⟩ := hq
          rcases List.mem_cons.1 hp with rfl | hp
          · exact Lx.skip_on a b d
          · rw [(List.mem_replicate.1 hp).2]
            show Lx.skip false (c :: r) = _
            exact Lx.skip_on a b d) (fun p hp q => by
          rw [List.drop_succ_cons, List.drop_zero] at hp
          rw [(List.mem_replicate.1 hp).2]
          exact .inr ⟨32, q, rfl, .inl rfl⟩)
      refine ⟨ws, h1, ?_⟩
      have h3 : ws.map Tr.kw = ((x :: xs).map Lx.strip).map Tr.kw := h2
      rw [h3, List.map_map]
      rfl
  obtain ⟨ws, h1, h2⟩ := key
  refine ⟨ws, ?_, h2⟩
  unfold wordsR
  rw [if_neg (by rw [st_size]; omega), show bl (st (Lx.joinL ys)) = Lx.joinL ys from bl_st _, h1]
theorem sum_take (l : List Nat) (n : Nat) : (l.take n).sum ≤ l.sum := by
  have h : (l.take n ++ l.drop n).sum = l.sum := by rw [List.take_append_drop]
  rw [List.sum_append] at h
  omega
theorem parse_words {s : ByteArray} {ws : List Wd} (h : wordsR s = (ws ++ [endW s], 0, 0)) : parseR s = match Tr.module_ (ws ++ [endW s]) with
    | .error er => (Tr.Md.none, er.1, er.2)
    | .ok m => (m, 0, 0) := by
  unfold parseR
  rw [h, if_neg (fun h => h rfl)]
  rfl
/-- The words of a made text: they may be, they are joined and read again as it was; some of them are wrong at their end, or read as a module of no more. -/
theorem cut_parse (N : List Int) : ∃ ws, wordsR (st (madeT 0 N)) = (ws ++ [endW (st (madeT 0 N))], 0, 0) ∧ 2 ≤ (ws ++ [endW (st (madeT 0 N))]).length ∧ (ws ++ [endW (st (madeT 0 N))]).length ≤ 8000 ∧ (∀ x ∈ ws ++ [endW (st (madeT 0 N))], x.text.length ≤ 1000) ∧
    (Lx.joinL (ws ++ [endW (st (madeT 0 N))])).length ≤ 20000 ∧ parseR (st (Lx.joinL (ws ++ [endW (st (madeT 0 N))]))) = (madeM N, 0, 0) ∧
    ∀ n, n < (ws ++ [endW (st (madeT 0 N))]).length → (Lx.joinL ((ws ++ [endW (st (madeT 0 N))]).take n)).length ≤ 20000 ∧ ((∃ m1 : Tr.Md, parseR (st (Lx.joinL ((ws ++ [endW (st (madeT 0 N))]).take n))) = (m1, 0, 0) ∧ m1.fns.length ≤ (madeM N).fns.length ∧ m1.nodes.length ≤ (madeM N).nodes.length) ∨
      parseR (st (Lx.joinL ((ws ++ [endW (st (madeT 0 N))]).take n))) = (Tr.Md.none, ((Lx.joinL ((ws ++ [endW (st (madeT 0 N))]).take n)).length : Int), 30)) := by
  obtain ⟨ws, h1, h2⟩ := made_words (p := 0) (by omega) N
  have h0 : (wordsR (st (madeT 0 N))).2.2 = 0 := by rw [h1]
  obtain ⟨_, ws', hc, hw, _, _⟩ := wordsR_ok h0
  have e : ws' = ws := List.append_cancel_right (congrArg Prod.fst (hw.symm.trans h1))
  subst e
  obtain ⟨hg, hsum⟩ := Lx.cutF_strip _ _ _ _ hc
  have hl := madeT_few 0 (by omega) N
  rw [bl_len, st_size] at hsum
  have hsum : (ws'.map fun x => (Lx.shown x.kind x.text).length + 1).sum ≤ 15000 := by omega
  have hge := Lx.sum_ge ws'
  have hfew := madeW_few (p := 0) (by omega) N
  have hlen : ws'.length = (madeW 0 N).length := by rw [← h2, List.length_map]
  have hpos : 9 ≤ (madeW 0 N).length := by
    have : (madeW 0 N).length = (iterW 0 (N.take 120) 3).length := rfl
    rw [this]
    simp only [iterW, List.length_append, List.length_cons]
    omega
  obtain ⟨kA, hA⟩ := made_moduleA (p := 0) (by omega) N (e := endW (st (madeT 0 N))) h2 rfl (d0 := 1 + 1) (by decide)
  refine ⟨ws', h1, by rw [List.length_append]; show 2 ≤ _ + 1; omega, by rw [List.length_append]; show _ + 1 ≤ _; omega, fun x hx => ?_, ?_, ?_, fun n hn => ?_⟩
  · rcases List.mem_append.1 hx with hx | hx
    · have : x.text.length ≤ 20 := (hg x hx).few
      omega
    · rw [List.mem_singleton.1 hx]; exact Nat.zero_le _
  · rw [joinL_end rfl]
    have := joinL_len hg
    omega
  · rw [joinL_end rfl]
    obtain ⟨xs, g1, g2⟩ := join_words hg (by omega)
    obtain ⟨k1, hm⟩ := made_moduleA (p := 0) (by omega) N (ws := xs) (e := endW (st (Lx.joinL ws'))) (by rw [g2, h2]) rfl (d0 := 1) (by decide)
    have p1 : (madeM N).name = [109] := rfl
    have p2 : (madeM N).imports = [[110], [111]] := rfl
    rw [parse_words g1, Tr.module_one, hm]
    generalize madeM N = m at *
    obtain ⟨a, b, c, d, e⟩ := m
    dsimp only at p1 p2 ⊢
    rw [p1, p2]
  · have hn : n ≤ ws'.length := by
      rw [List.length_append] at hn
      have hn : n < ws'.length + 1 := hn
      omega
    rw [List.take_append_of_le_length hn]
    have hgt : ∀ x ∈ ws'.take n, Lx.Good (Lx.strip x) := fun x hx => hg x (List.mem_of_mem_take hx)
    have hst : ((ws'.take n).map fun x => (Lx.shown x.kind x.text).length + 1).sum ≤ 15000 := by
      rw [List.map_take]
      exact Nat.le_trans (sum_take _ _) hsum
    have hjl := joinL_len hgt
    obtain ⟨xs, g1, g2⟩ := join_words hgt (by omega)
    have hxl : xs.length = n := by
      have := congrArg List.length g2
      rw [List.length_map, List.length_map, List.length_take] at this
      omega
    have hcut : Tr.Cutt (ws' ++ [endW (st (madeT 0 N))]) (xs ++ [endW (st (Lx.joinL (ws'.take n)))]) n := by
      refine ⟨fun k hk => ?_, ?_⟩
      · have a1 : (xs.map Tr.kw)[k]? = ((ws'.take n).map Tr.kw)[k]? := by rw [g2]
        rw [List.getElem?_map, List.getElem?_map, List.getElem?_take_of_lt hk, List.getElem?_eq_getElem (show k < xs.length by omega), List.getElem?_eq_getElem (show k < ws'.length by omega)] at a1
        injection a1 with a1
        have b1 : Tr.now (xs ++ [endW (st (Lx.joinL (ws'.take n)))]) k = xs[k]'(by omega) := by
          unfold Tr.now
          rw [List.getD_eq_getElem?_getD, List.getElem?_append_left (show k < xs.length by omega), List.getElem?_eq_getElem (show k < xs.length by omega)]
          rfl
        have b2 : Tr.now (ws' ++ [endW (st (madeT 0 N))]) k = ws'[k]'(by omega) := by
          unfold Tr.now
          rw [List.getD_eq_getElem?_getD, List.getElem?_append_left (show k < ws'.length by omega), List.getElem?_eq_getElem (show k < ws'.length by omega)]
          rfl
        rw [b1, b2]
        unfold Tr.kw at a1
        injection a1 with a1 a2
        injection a2 with a2 a3
        exact ⟨a1, a2, a3⟩
      · have : Tr.now (xs ++ [endW (st (Lx.joinL (ws'.take n)))]) n = endW (st (Lx.joinL (ws'.take n))) := by
          rw [← hxl]
          unfold Tr.now
          rw [List.getD_eq_getElem?_getD, List.getElem?_append_right (Nat.le_refl _), Nat.sub_self]
          rfl
        rw [this]
        rfl
    have hnow : (Tr.now (xs ++ [endW (st (Lx.joinL (ws'.take n)))]) n).pos = ((Lx.joinL (ws'.take n)).length : Int) := by
      have : Tr.now (xs ++ [endW (st (Lx.joinL (ws'.take n)))]) n = endW (st (Lx.joinL (ws'.take n))) := by
        rw [← hxl]
        unfold Tr.now
        rw [List.getD_eq_getElem?_getD, List.getElem?_append_right (Nat.le_refl _), Nat.sub_self]
        rfl
      rw [this]
      show ((st (Lx.joinL (ws'.take n))).size : Int) = _
      rw [st_size]
    have h7 : ∀ k, k < n → (Tr.now (ws' ++ [endW (st (madeT 0 N))]) k).kind ≠ 7 := fun k hk => by
      have b2 : Tr.now (ws' ++ [endW (st (madeT 0 N))]) k = ws'[k]'(by omega) := by
        unfold Tr.now
        rw [List.getD_eq_getElem?_getD, List.getElem?_append_left (show k < ws'.length by omega), List.getElem?_eq_getElem (show k < ws'.length by omega)]
        rfl
      rw [b2]
      exact (hg _ (List.getElem_mem _)).k7
    refine ⟨by omega, ?_⟩
    rw [parse_words g1]
    rcases Tr.module_rel hcut (by rw [List.length_append, hxl]; omega) h7 hA with ⟨m1, e1, e2, e3⟩ | e1
    · rw [e1]
      exact .inl ⟨m1, rfl, e2, e3⟩
    · rw [e1, hnow]
      exact .inr rfl
end Go.Proofs.YtmgjmagniefhoaaGreatDoor
