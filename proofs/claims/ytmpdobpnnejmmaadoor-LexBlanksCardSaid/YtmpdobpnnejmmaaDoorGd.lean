/- Words that may be: cut out of a text again. No program is walked here. -/
import Derived.Test.YtmpdobpnnejmmaaDoorPl
import Derived.Test.YtmpdobpnnejmmaaDoorJa
namespace Go.Proofs.YtmpdobpnnejmmaaDoor
namespace Lx

/-- What ends a word: the end, or a blank. -/
def Ends (r : Bs) : Prop := r = [] ∨ ∃ c r', r = c :: r' ∧ (c = 32 ∨ c = 10)
/-- A word that may be: what stands for it in a text is cut into it. -/
structure Good (x : Wd) : Prop where
  pos : x.pos = 0
  k7 : x.kind ≠ 7
  tne : x.text ≠ []
  few : x.text.length ≤ 20
  n35 : 35 ∉ shown x.kind x.text
  word : ∀ r, Ends r → word? (shown x.kind x.text ++ r) = some (x.kind, x.text, x.num, (shown x.kind x.text).length)
theorem Good.head {x : Wd} (h : Good x) : ∃ c r, shown x.kind x.text = c :: r ∧ c ≠ 32 ∧ c ≠ 10 ∧ c ≠ 35 := by
  have hw := h.word [] (.inl rfl)
  rw [List.append_nil] at hw
  cases hs : shown x.kind x.text with
  | nil => rw [hs] at hw; cases hw
  | cons c r =>
    have h35 := h.n35
    rw [hs] at hw h35
    refine ⟨c, r, rfl, ?_, ?_, fun e => h35 (by rw [e]; exact List.mem_cons_self)⟩
    · rintro rfl; cases hw
    · rintro rfl; cases hw
theorem ends_goes {r : Bs} (h : Ends r) : r.takeWhile goes = [] := by
  rcases h with rfl | ⟨c, r', rfl, rfl | rfl⟩ <;> rfl
theorem run_ends {t r : Bs} (ht : t.all goes = true) (h : Ends r) : (t ++ r).takeWhile goes = t := by
  rw [List.takeWhile_append_of_pos (fun a ha => List.all_eq_true.1 ht a ha), ends_goes h, List.append_nil]
theorem goes_sign {c : UInt8} (h : goes c = true) (l : Bs) : sign? (c :: l) = none := by
  cases hs : sign? (c :: l) with
  | none => rfl
  | some g =>
    exfalso
    have h3 : g.isPrefixOf (c :: l) = true := List.find?_some (p := fun g => List.isPrefixOf g (c :: l)) hs
    have h4 : g ∈ signsL := List.mem_of_find?_eq_some hs
    simp only [signsL, List.mem_cons, List.not_mem_nil, or_false] at h4
    rcases h4 with rfl | rfl | rfl | rfl | rfl | rfl | rfl | rfl | rfl | rfl | rfl | rfl | rfl | rfl | rfl | rfl <;>
      (simp only [List.isPrefixOf, Bool.and_eq_true, beq_iff_eq] at h3; rw [← h3.1] at h; exact absurd h (by decide))
theorem goes_35 {t : Bs} (h : t.all goes = true) : 35 ∉ t := fun hm => absurd (List.all_eq_true.1 h 35 hm) (by decide)
theorem goes_39 {c : UInt8} (h : goes c = true) : c ≠ 39 := by rintro rfl; exact absurd h (by decide)
/-- A word of letters and digits. -/
theorem plain_word {c : UInt8} {t : Bs} (ht : (c :: t).all goes = true) {r : Bs} (hr : Ends r) : word? (c :: t ++ r) = (if isKey (c :: t) = true then some (5, c :: t, 0, (c :: t).length) else
        if isName (c :: t) = true then some (1, c :: t, 0, (c :: t).length) else
        if isType (c :: t) = true then some (2, c :: t, 0, (c :: t).length) else
        if 0 ≤ number (c :: t) then some (3, c :: t, number (c :: t), (c :: t).length) else none) := by
  have hc : goes c = true := List.all_eq_true.1 ht c List.mem_cons_self
  have hr2 := run_ends ht hr
  unfold word?
  rw [List.cons_append] at hr2 ⊢
  rw [goes_sign hc]
  dsimp only
  rw [if_neg (goes_39 hc), hr2]
/-- Letters and digits, small. -/
def low (c : UInt8) : Bool := small c || digit c
theorem low_goes {c : UInt8} (h : low c = true) : goes c = true := by unfold low at h; unfold goes; rw [Bool.or_eq_true] at h; rcases h with h | h <;> simp [h]
theorem low_all {u : Bs} (h : u.all low = true) : u.all goes = true := List.all_eq_true.2 fun a ha => low_goes (List.all_eq_true.1 h a ha)
theorem low_tag {u : Bs} (h : u.all low = true) : (u.all fun c => small c || digit c || score c) = true := List.all_eq_true.2 fun a ha => by
  have := List.all_eq_true.1 h a ha
  unfold low at this
  rw [this]; rfl
theorem low_typ {u : Bs} (h : u.all low = true) : (u.all fun c => small c || great c || digit c) = true := List.all_eq_true.2 fun a ha => by
  have := List.all_eq_true.1 h a ha
  unfold low at this
  rw [Bool.or_eq_true] at this
  rcases this with h | h <;> simp [h]
theorem good_name {u : Bs} (h : u.all low = true) (hl : u.length ≤ 14) : Good ⟨1, 110 :: 95 :: u, 0, 0⟩ := by
  have hg : (110 :: 95 :: u).all goes = true := by
    rw [List.all_cons, List.all_cons, low_all h]; rfl
  have hs : shown 1 (110 :: 95 :: u) = 110 :: 95 :: u := rfl
  have hk : isKey (110 :: 95 :: u) = false := by
    unfold isKey keysL
    simp
  have ht : tagged (110 :: 95 :: u) = true := by
    unfold tagged formed
    have := low_tag h
    simp only [List.all_cons, this, List.length_cons, Bool.and_true, Bool.and_eq_true, decide_eq_true_eq]
    exact ⟨⟨by omega, by decide⟩, by decide⟩
  have hn : isName (110 :: 95 :: u) = true := by unfold isName; rw [ht, hk]; rfl
  refine ⟨rfl, by show (1 : Int) ≠ 7; decide, by simp, by simp only [List.length_cons]; omega, ?_, fun r hr => ?_⟩
  · show 35 ∉ shown 1 (110 :: 95 :: u)
    rw [hs]; exact goes_35 hg
  · show word? (shown 1 (110 :: 95 :: u) ++ r) = some (1, 110 :: 95 :: u, 0, (shown 1 (110 :: 95 :: u)).length)
    rw [hs, plain_word hg hr, hk, if_neg (by decide), if_pos hn]
theorem good_type {u : Bs} (h : u.all low = true) (hl : u.length ≤ 14) : Good ⟨2, 84 :: u, 0, 0⟩ := by
  have hg : (84 :: u).all goes = true := by
    rw [List.all_cons, low_all h]; rfl
  have hs : shown 2 (84 :: u) = 84 :: u := rfl
  have hk : isKey (84 :: u) = false := by
    unfold isKey keysL
    simp
  have hn : isName (84 :: u) = false := by
    unfold isName tagged formed
    simp only [show small 84 = false from rfl, Bool.and_false, Bool.false_and]
  have ht : isType (84 :: u) = true := by
    unfold isType formed
    have := low_typ h
    simp only [List.all_cons, this, List.length_cons, Bool.and_true, Bool.and_eq_true, decide_eq_true_eq]
    exact ⟨⟨by omega, by decide⟩, by decide⟩
  refine ⟨rfl, by show (2 : Int) ≠ 7; decide, by simp, by simp only [List.length_cons]; omega, ?_, fun r hr => ?_⟩
  · show 35 ∉ shown 2 (84 :: u)
    rw [hs]; exact goes_35 hg
  · show word? (shown 2 (84 :: u) ++ r) = some (2, 84 :: u, 0, (shown 2 (84 :: u)).length)
    rw [hs, plain_word hg hr, hk, hn, if_neg (by decide), if_neg (by decide), if_pos ht]
theorem good_tag {u : Bs} (h : u.all low = true) (hl : u.length ≤ 14) : Good ⟨4, 116 :: u, 0, 0⟩ := by
  have hg : (116 :: u).all goes = true := by
    rw [List.all_cons, low_all h]; rfl
  have hs : shown 4 (116 :: u) = 39 :: 116 :: u := rfl
  have ht : tagged (116 :: u) = true := by
    unfold tagged formed
    have := low_tag h
    simp only [List.all_cons, this, List.length_cons, Bool.and_true, Bool.and_eq_true, decide_eq_true_eq]
    exact ⟨⟨by omega, by decide⟩, by decide⟩
  refine ⟨rfl, by show (4 : Int) ≠ 7; decide, by simp, by simp only [List.length_cons]; omega, ?_, fun r hr => ?_⟩
  · show 35 ∉ shown 4 (116 :: u)
    rw [hs]
    intro hm
    rcases List.mem_cons.1 hm with h1 | h1
    · exact absurd h1 (by decide)
    · exact goes_35 hg h1
  · show word? (shown 4 (116 :: u) ++ r) = some (4, 116 :: u, 0, (shown 4 (116 :: u)).length)
    have hr2 := run_ends hg hr
    rw [hs, List.cons_append]
    unfold word?
    rw [show sign? (39 :: (116 :: u ++ r)) = none from rfl]
    dsimp only
    rw [if_pos rfl, hr2, if_pos ht]
    rfl
theorem digit_first {t : Bs} (h : t.all digit = true) (hne : t ≠ []) : isKey t = false ∧ isName t = false ∧ isType t = false ∧ ∃ c r, t = c :: r := by
  cases t with
  | nil => exact absurd rfl hne
  | cons c r =>
    have hc : digit c = true := List.all_eq_true.1 h c List.mem_cons_self
    have hd := digit_iff.1 hc
    have hsm : small c = false := by unfold small; exact decide_eq_false (by omega)
    have hgr : great c = false := by unfold great; exact decide_eq_false (by omega)
    refine ⟨?_, ?_, ?_, c, r, rfl⟩
    · cases hk : isKey (c :: r) with
      | false => rfl
      | true =>
        exfalso
        unfold isKey at hk
        obtain ⟨k, hm, he⟩ := List.any_eq_true.1 hk
        have he2 : k = c :: r := of_decide_eq_true he
        subst he2
        simp only [keysL, List.mem_cons, List.not_mem_nil, or_false, List.cons.injEq] at hm
        rcases hm with h | h | h | h | h | h | h | h | h | h | h | h | h | h | h | h | h | h <;> (rw [h.1] at hc; exact absurd hc (by decide))
    · unfold isName tagged formed
      simp only [hsm, Bool.and_false, Bool.false_and]
    · unfold isType formed
      simp only [hgr, Bool.and_false, Bool.false_and]
theorem good_num {n : Nat} (h : n ≤ 2147483647) (hlen : (Lib.decDigits n).length ≤ 20) : Good ⟨3, Lib.decDigits n, n, 0⟩ := by
  obtain ⟨d1, d2, d3, d4⟩ := dec_facts n
  have hnum : number (Lib.decDigits n) = n := number_of (by omega) (by omega) (by unfold Lib.itoa; rw [if_neg (by omega)]; simp)
  have hg : (Lib.decDigits n).all goes = true := List.all_eq_true.2 fun a ha => by
    have := List.all_eq_true.1 d2 a ha
    unfold goes
    simp [this]
  obtain ⟨f1, f2, f3, c, r, f4⟩ := digit_first d2 d1
  have hs : shown 3 (Lib.decDigits n) = Lib.decDigits n := rfl
  refine ⟨rfl, by show (3 : Int) ≠ 7; decide, d1, hlen, ?_, fun q hr => ?_⟩
  · show 35 ∉ shown 3 (Lib.decDigits n)
    rw [hs]; exact goes_35 hg
  · show word? (shown 3 (Lib.decDigits n) ++ q) = some (3, Lib.decDigits n, (n : Int), (shown 3 (Lib.decDigits n)).length)
    rw [hs]
    rw [f4] at f1 f2 f3 hg hnum ⊢
    rw [plain_word hg hr, f1, f2, f3, if_neg (by decide), if_neg (by decide), if_neg (by decide), hnum, if_pos (by omega)]
theorem good_key {t : Bs} (h : t ∈ keysL) : Good ⟨5, t, 0, 0⟩ := by
  have hk : isKey t = true := List.any_eq_true.2 ⟨t, h, decide_eq_true rfl⟩
  have h2 : t.all goes = true ∧ t.length ≤ 20 := by
    simp only [keysL, List.mem_cons, List.not_mem_nil, or_false] at h
    rcases h with rfl | rfl | rfl | rfl | rfl | rfl | rfl | rfl | rfl | rfl | rfl | rfl | rfl | rfl | rfl | rfl | rfl | rfl <;> exact ⟨by decide, by decide⟩
  have hs : shown 5 t = t := rfl
  refine ⟨rfl, by show (5 : Int) ≠ 7; decide, isKey_ne hk, h2.2, ?_, fun r hr => ?_⟩
  · show 35 ∉ shown 5 t
    rw [hs]; exact goes_35 h2.1
  · show word? (shown 5 t ++ r) = some (5, t, 0, (shown 5 t).length)
    rw [hs]
    cases t with
    | nil => exact absurd rfl (isKey_ne hk)
    | cons c t => rw [plain_word h2.1 hr, if_pos hk]
theorem good_sign {t : Bs} (h : t ∈ signsL) : Good ⟨6, t, 0, 0⟩ := by
  have hs : shown 6 t = t := rfl
  simp only [signsL, List.mem_cons, List.not_mem_nil, or_false] at h
  refine ⟨rfl, by show (6 : Int) ≠ 7; decide, ?_, ?_, ?_, fun r hr => ?_⟩
  · rcases h with rfl | rfl | rfl | rfl | rfl | rfl | rfl | rfl | rfl | rfl | rfl | rfl | rfl | rfl | rfl | rfl <;> exact List.cons_ne_nil _ _
  · rcases h with rfl | rfl | rfl | rfl | rfl | rfl | rfl | rfl | rfl | rfl | rfl | rfl | rfl | rfl | rfl | rfl <;> decide
  · rcases h with rfl | rfl | rfl | rfl | rfl | rfl | rfl | rfl | rfl | rfl | rfl | rfl | rfl | rfl | rfl | rfl <;> decide
  · show word? (shown 6 t ++ r) = some (6, t, 0, (shown 6 t).length)
    rw [hs]
    have hsg : sign? (t ++ r) = some t := by
      rcases hr with rfl | ⟨c, r', rfl, rfl | rfl⟩ <;> rcases h with rfl | rfl | rfl | rfl | rfl | rfl | rfl | rfl | rfl | rfl | rfl | rfl | rfl | rfl | rfl | rfl <;> rfl
    unfold word?
    rw [hsg]

/-- The words of a text that is made of words, each behind blanks. -/
theorem cutF_good (n : Nat) : ∀ (f : Nat) (l : Bs) (xs : List Wd) (pads : List Bs), xs.length < f → (∀ x ∈ xs, Good x) → pads.length = xs.length →
    (∃ tail : Bs, skip false tail = [] ∧ Ends tail ∧ l = (List.zipWith (fun p x => p ++ shown x.kind x.text) pads xs).flatten ++ tail) →
    (∀ p ∈ pads, ∀ q, (∃ c r, q = c :: r ∧ c ≠ 32 ∧ c ≠ 10 ∧ c ≠ 35) → skip false (p ++ q) = q) → (∀ p ∈ pads.drop 1, ∀ q, Ends (p ++ q)) →
    ∃ ws, cutF n f l = .ok ws ∧ ws.map (fun x => (x.kind, x.text, x.num)) = xs.map (fun x => (x.kind, x.text, x.num))
  | 0, _, _, _, h, _, _, _, _, _ => absurd h (Nat.not_lt_zero _)
  | f + 1, l, [], pads, _, _, hp, ⟨tail, ht, _, hl⟩, _, _ => by
    have e : pads = [] := List.length_eq_zero_iff.1 hp
    subst e
    simp at hl
    subst hl
    refine ⟨[], ?_, rfl⟩
    unfold cutF
    rw [ht]
  | f + 1, l, x :: xs, [], _, _, hp, _, _, _ => by simp at hp
  | f + 1, l, x :: xs, p :: pads, hf, hg, hp, ⟨tail, ht, hte, hl⟩, hsk, hen => by
    have hx := hg x List.mem_cons_self
    obtain ⟨c, r, hc, hc2⟩ := hx.head
    obtain ⟨rest, hrest⟩ : ∃ rest, rest = (List.zipWith (fun p x => p ++ shown x.kind x.text) pads xs).flatten ++ tail := ⟨_, rfl⟩
    have hl2 : l = p ++ (shown x.kind x.text ++ rest) := by
      rw [hl, hrest, List.zipWith_cons_cons, List.flatten_cons]
      simp only [List.append_assoc]
    have hends : Ends rest := by
      rw [hrest]
      cases pads with
      | nil => simp; exact hte
      | cons q pads =>
        cases xs with
        | nil => simp at hp
        | cons y ys =>
          rw [List.zipWith_cons_cons, List.flatten_cons]
          simp only [List.append_assoc]
          exact hen q (by simp) _
    have hskip : skip false l = shown x.kind x.text ++ rest := by
      rw [hl2]
      exact hsk p List.mem_cons_self _ ⟨c, r ++ rest, by rw [hc]; rfl, hc2⟩
    have hword := hx.word rest hends
    obtain ⟨ws, h1, h2⟩ := cutF_good n f rest xs pads (by simpa using hf) (fun y hy => hg y (List.mem_cons_of_mem _ hy)) (by simpa using hp) ⟨tail, ht, hte, hrest⟩
      (fun q hq => hsk q (List.mem_cons_of_mem _ hq)) (fun q hq => hen q (by
        simp only [List.drop_succ_cons, List.drop_zero]
        exact List.mem_of_mem_drop hq))
    refine ⟨⟨x.kind, x.text, x.num, n - (shown x.kind x.text ++ rest).length⟩ :: ws, ?_, ?_⟩
    · unfold cutF
      rw [hskip]
      have e2 : shown x.kind x.text ++ rest = c :: (r ++ rest) := by rw [hc]; rfl
      rw [e2] at hword ⊢
      dsimp only
      rw [hword]
      dsimp only
      have e3 : (c :: (r ++ rest)).drop (shown x.kind x.text).length = rest := by rw [← e2, List.drop_left]
      rw [e3, h1]
    · rw [List.map_cons, List.map_cons, h2]
end Lx
end Go.Proofs.YtmpdobpnnejmmaaDoor
