/- What stands in these texts of the proof: Na Nb Nc. Conditions: those that each theorem names. -/
import Derived.Test.YtmgjmagniefhoaaGreatDoorAa21
import Derived.Test.YtmgjmagniefhoaaGreatDoorAa07
import Derived.Test.YtmgjmagniefhoaaGreatDoorAa08
import Derived.Test.YtmgjmagniefhoaaGreatDoorAa22
import Derived.Test.YtmgjmagniefhoaaGreatDoorAa06
/- The words of a text that is put together of pieces. No program is walked here. -/
namespace Go.Proofs.YtmgjmagniefhoaaGreatDoor
open Lx (Bs Wd)
/-- A word without its place: kind, text, number. -/
abbrev Kw := Int × Bs × Int
/-- The words of a text's head, and what is left behind them. -/
inductive Cuts : Bs → List Kw → Bs → Prop
  | done (l : Bs) : Cuts l [] l
  | step {l r z : Bs} {c : UInt8} {k : Int} {t : Bs} {m : Int} {len : Nat} {ws : List Kw} (h1 : Lx.skip false l = c :: r) (h2 : Lx.word? (c :: r) = some (k, t, m, len)) (h3 : Cuts ((c :: r).drop len) ws z) : Cuts l ((k, t, m) :: ws) z
theorem Cuts.trans {l r z : Bs} {ws vs : List Kw} (h : Cuts l ws r) (h2 : Cuts r vs z) : Cuts l (ws ++ vs) z := by
  induction h with
  | done l => exact h2
  | step a b _ ih => exact .step a b (ih h2)
theorem Cuts.blank {l z : Bs} {w : Kw} {ws : List Kw} (h : Cuts l (w :: ws) z) : Cuts (32 :: l) (w :: ws) z := by
  cases h with
  | step a b c => exact .step (l := 32 :: l) (show Lx.skip false (32 :: l) = _ from a) b c
theorem Cuts.cutF {l r : Bs} {ws : List Kw} (h : Cuts l ws r) (n : Nat) : ∀ f, Lx.skip false r = [] → ws.length < f → ∃ xs, Lx.cutF n f l = .ok xs ∧ xs.map Tr.kw = ws := by
  induction h with
  | done l =>
    intro f hr hf
    obtain ⟨f, rfl⟩ : ∃ g, f = g + 1 := ⟨f - 1, by simp only [List.length_nil] at hf; omega⟩
    refine ⟨[], ?_, rfl⟩
    unfold Lx.cutF
    rw [hr]
  | @step l r z c k t m len ws a b _ ih =>
    intro f hr hf
    obtain ⟨f, rfl⟩ : ∃ g, f = g + 1 := ⟨f - 1, by omega⟩
    obtain ⟨xs, h1, h2⟩ := ih f hr (by simp only [List.length_cons] at hf; omega)
    refine ⟨⟨k, t, m, (n : Int) - ((c :: r).length : Int)⟩ :: xs, ?_, ?_⟩
    · unfold Lx.cutF
      rw [a]
      simp only []
      rw [b]
      simp only []
      rw [h1]
    · rw [List.map_cons, h2]
      rfl
theorem Cuts.few {l r : Bs} {ws : List Kw} (h : Cuts l ws r) : ws.length + r.length ≤ l.length := by
  induction h with
  | done l => simp
  | @step l r z c k t m len ws a b _ ih =>
    obtain ⟨_, _, h3, h4⟩ := Lx.good_word b
    have hl := skip_le false l
    rw [a] at hl
    rw [List.length_drop] at ih
    simp only [List.length_cons] at *
    omega
/-- What ends a word of letters. -/
def Stop (r : Bs) : Prop := r.takeWhile Lx.goes = []
theorem stop_cons {c : UInt8} {r : Bs} (h : Lx.goes c = false) : Stop (c :: r) := by
  unfold Stop
  rw [List.takeWhile_cons, h]
  rfl
theorem runs_stop {t r : Bs} (ht : t.all Lx.goes = true) (h : Stop r) : (t ++ r).takeWhile Lx.goes = t := by
  rw [List.takeWhile_append_of_pos (fun a ha => List.all_eq_true.1 ht a ha), h, List.append_nil]
/-- A word of letters and digits. -/
theorem plain_stop {c : UInt8} {t : Bs} (ht : (c :: t).all Lx.goes = true) {r : Bs} (hr : Stop r) : Lx.word? (c :: t ++ r) = (if Lx.isKey (c :: t) = true then some (5, c :: t, 0, (c :: t).length) else
        if Lx.isName (c :: t) = true then some (1, c :: t, 0, (c :: t).length) else
        if Lx.isType (c :: t) = true then some (2, c :: t, 0, (c :: t).length) else
        if 0 ≤ Lx.number (c :: t) then some (3, c :: t, Lx.number (c :: t), (c :: t).length) else none) := by
  have hc : Lx.goes c = true := List.all_eq_true.1 ht c List.mem_cons_self
  have hr2 := runs_stop ht hr
  unfold Lx.word?
  rw [List.cons_append] at hr2 ⊢
  rw [Lx.goes_sign hc]
  dsimp only
  rw [if_neg (Lx.goes_39 hc), hr2]
theorem tag_stop {c : UInt8} {t : Bs} (ht : (c :: t).all Lx.goes = true) (hg : Lx.tagged (c :: t) = true) {r : Bs} (hr : Stop r) : Lx.word? (39 :: (c :: t ++ r)) = some (4, c :: t, 0, (c :: t).length + 1) := by
  have hr2 := runs_stop ht hr
  have hs : Lx.sign? (39 :: (c :: t ++ r)) = none := rfl
  unfold Lx.word?
  rw [hs]
  dsimp only
  rw [if_pos rfl, hr2, if_pos hg]
/-- A text that begins with a byte that is no blank. -/
theorem skip_on {c : UInt8} {r : Bs} (h32 : c ≠ 32) (h10 : c ≠ 10) (h35 : c ≠ 35) : Lx.skip false (c :: r) = c :: r := by
  show (if c = 32 ∨ c = 10 then _ else if c = 35 then _ else _) = _
  rw [if_neg (by rintro (h | h); exact h32 h; exact h10 h), if_neg h35]
theorem drop_app {c : UInt8} {t r : Bs} : (c :: t ++ r).drop (c :: t).length = r := List.drop_left
theorem goes_not {c : UInt8} (h : Lx.goes c = true) : c ≠ 32 ∧ c ≠ 10 ∧ c ≠ 35 := by
  refine ⟨?_, ?_, ?_⟩ <;> (rintro rfl; exact absurd h (by decide))
/-- One word of letters, and what is behind it. -/
theorem cuts_plain {c : UInt8} {t : Bs} {k m : Int} (ht : (c :: t).all Lx.goes = true) (hk : (if Lx.isKey (c :: t) = true then some (5, c :: t, 0, (c :: t).length) else
        if Lx.isName (c :: t) = true then some (1, c :: t, 0, (c :: t).length) else
        if Lx.isType (c :: t) = true then some (2, c :: t, 0, (c :: t).length) else
        if 0 ≤ Lx.number (c :: t) then some (3, c :: t, Lx.number (c :: t), (c :: t).length) else none) = some (k, c :: t, m, (c :: t).length)) {r : Bs} (hr : Stop r) : Cuts (c :: t ++ r) [(k, c :: t, m)] r := by
  obtain ⟨a, b, d⟩ := goes_not (List.all_eq_true.1 ht c List.mem_cons_self)
  refine .step (c := c) (r := t ++ r) (len := (c :: t).length) (skip_on a b d) ((plain_stop ht hr).trans hk) ?_
  show Cuts ((c :: t ++ r).drop (c :: t).length) [] r
  rw [drop_app]
  exact .done r
theorem cuts_tag {c : UInt8} {t : Bs} (ht : (c :: t).all Lx.goes = true) (hg : Lx.tagged (c :: t) = true) {r : Bs} (hr : Stop r) : Cuts ([39] ++ (c :: t ++ r)) [(4, c :: t, 0)] r := by
  refine .step (c := 39) (r := c :: t ++ r) (len := (c :: t).length + 1) rfl (tag_stop ht hg hr) ?_
  show Cuts ((c :: t ++ r).drop (c :: t).length) [] r
  rw [drop_app]
  exact .done r
theorem lett_all {c : Nat} (h : c < 8) {P : UInt8 → Prop} (h0 : P 97) (h1 : P 98) (h2 : P 99) (h3 : P 100) (h4 : P 101) (h5 : P 102) (h6 : P 103) (h7 : P 104) : P (lett c) := by
  have h : c = 0 ∨ c = 1 ∨ c = 2 ∨ c = 3 ∨ c = 4 ∨ c = 5 ∨ c = 6 ∨ c = 7 := by omega
  rcases h with rfl | rfl | rfl | rfl | rfl | rfl | rfl | rfl
  · exact h0
  · exact h1
  · exact h2
  · exact h3
  · exact h4
  · exact h5
  · exact h6
  · exact h7
theorem cuts_lett {c : Nat} (h : c < 8) {r : Bs} (hr : Stop r) : Cuts ([lett c] ++ r) [(1, [lett c], 0)] r := by
  refine lett_all (P := fun x => Cuts ([x] ++ r) [(1, [x], 0)] r) h ?_ ?_ ?_ ?_ ?_ ?_ ?_ ?_ <;> exact cuts_plain (by decide) (by decide) hr
theorem cuts_ltag {c : Nat} (h : c < 8) {r : Bs} (hr : Stop r) : Cuts ([39] ++ ([lett c] ++ r)) [(4, [lett c], 0)] r := by
  refine lett_all (P := fun x => Cuts ([39] ++ ([x] ++ r)) [(4, [x], 0)] r) h ?_ ?_ ?_ ?_ ?_ ?_ ?_ ?_ <;> exact cuts_tag (by decide) (by decide) hr
theorem cuts_ltyp {c : Nat} (h : c < 8) {r : Bs} (hr : Stop r) : Cuts ([84] ++ ([lett c] ++ r)) [(2, [84, lett c], 0)] r := by
  refine lett_all (P := fun x => Cuts ([84] ++ ([x] ++ r)) [(2, [84, x], 0)] r) h ?_ ?_ ?_ ?_ ?_ ?_ ?_ ?_ <;> exact cuts_plain (c := 84) (by decide) (by decide) hr
theorem cuts_prim (k : Nat) {r : Bs} (hr : Stop r) : Cuts (primT k ++ r) [(5, primT k, 0)] r := by
  match k with
  | 0 => exact cuts_plain (by decide) (by decide) hr
  | 1 => exact cuts_plain (by decide) (by decide) hr
  | 2 => exact cuts_plain (by decide) (by decide) hr
  | n + 3 => exact cuts_plain (c := 98) (t := [111, 111, 108]) (by decide) (by decide) hr
def sg (c : UInt8) : Kw := (6, [c], 0)
/-- A sign of one byte that begins no other one. -/
theorem cuts_sg {c : UInt8} (h : c ∈ ([124, 123, 125, 40, 41, 91, 93, 44, 46, 43] : List UInt8)) (r : Bs) : Cuts ([c] ++ r) [sg c] r := by
  simp only [List.mem_cons, List.not_mem_nil, or_false] at h
  rcases h with rfl | rfl | rfl | rfl | rfl | rfl | rfl | rfl | rfl | rfl <;> exact .step (len := 1) rfl rfl (.done r)
theorem cuts_colons (r : Bs) : Cuts ([58, 58] ++ r) [(6, [58, 58], 0)] r := .step (len := 2) rfl rfl (.done r)
theorem cuts_colon (r : Bs) : Cuts ([58, 32] ++ r) [sg 58] (32 :: r) := .step (len := 1) rfl rfl (.done _)
/-- Letters that may be. -/
def TyA.ok : TyA → Prop
  | .prim _ => True
  | .tag c => c < 8
  | .name c => c < 8
  | .pair a b => a.ok ∧ b.ok
  | .away c => c < 8
  | .uni a b => a.ok ∧ b.ok
def TyA.words : TyA → List Kw
  | .prim k => [(5, primT k, 0)]
  | .tag c => [(4, [lett c], 0)]
  | .name c => [(2, [84, lett c], 0)]
  | .pair a b => [sg 123, (1, [97], 0), sg 58] ++ (a.words ++ ([sg 44, (1, [98], 0), sg 58] ++ (b.words ++ [sg 125])))
  | .away c => [(1, [lett c], 0), (6, [58, 58], 0), (2, [84], 0)]
  | .uni a b => a.words ++ ([sg 124, sg 40] ++ (b.words ++ [sg 124, (5, [110, 117, 108, 108], 0), sg 41]))
theorem TyA.words_ne : ∀ t : TyA, ∃ w ws, t.words = w :: ws
  | .prim _ => ⟨_, _, rfl⟩
  | .tag _ => ⟨_, _, rfl⟩
  | .name _ => ⟨_, _, rfl⟩
  | .pair _ _ => ⟨_, _, rfl⟩
  | .away _ => ⟨_, _, rfl⟩
  | .uni a b => by
    obtain ⟨w, ws, h⟩ := a.words_ne
    unfold words
    rw [h]
    exact ⟨_, _, rfl⟩
theorem Cuts.blank_ne {l z : Bs} {ws : List Kw} (h : Cuts l ws z) (hn : ∃ w vs, ws = w :: vs) : Cuts (32 :: l) ws z := by
  obtain ⟨w, vs, rfl⟩ := hn
  exact h.blank
theorem typ_cuts : ∀ (t : TyA), t.ok → ∀ r, Stop r → Cuts (t.text ++ r) t.words r
  | .prim k, _, r, hr => cuts_prim k hr
  | .tag c, h, r, hr => by
    show Cuts (([39] ++ [lett c]) ++ r) _ r
    rw [List.append_assoc]
    exact cuts_ltag h hr
  | .name c, h, r, hr => by
    show Cuts (([84] ++ [lett c]) ++ r) _ r
    rw [List.append_assoc]
    exact cuts_ltyp h hr
  | .pair a b, h, r, hr => by
    have e : (TyA.pair a b).text ++ r = [123, 97, 58, 32] ++ (a.text ++ ([44, 32, 98, 58, 32] ++ (b.text ++ ([125] ++ r)))) := by
      simp only [TyA.text, List.append_assoc]
    rw [e]
    unfold TyA.words
    refine Cuts.trans (r := 32 :: (a.text ++ ([44, 32, 98, 58, 32] ++ (b.text ++ ([125] ++ r))))) (.step (len := 1) rfl rfl (.step (len := 1) rfl rfl (.step (len := 1) rfl rfl (.done _)))) ?_
    refine Cuts.trans (((typ_cuts a h.1 _ (stop_cons (by decide))).blank_ne a.words_ne)) ?_
    refine Cuts.trans (r := 32 :: (b.text ++ ([125] ++ r))) (.step (len := 1) rfl rfl (.step (len := 1) rfl rfl (.step (len := 1) rfl rfl (.done _)))) ?_
    refine Cuts.trans (((typ_cuts b h.2 _ (stop_cons (by decide))).blank_ne b.words_ne)) ?_
    exact cuts_sg (by decide) r
  | .away c, h, r, hr => by
    show Cuts (([lett c] ++ [58, 58, 84]) ++ r) _ r
    rw [List.append_assoc]
    refine (cuts_lett h (stop_cons (by decide))).trans ((cuts_colons ([84] ++ r)).trans ?_)
    exact cuts_plain (by decide) (by decide) hr
  | .uni a b, h, r, hr => by
    have e : (TyA.uni a b).text ++ r = a.text ++ ([32, 124, 32, 40] ++ (b.text ++ ([32, 124, 32, 110, 117, 108, 108, 41] ++ r))) := by
      simp only [TyA.text, List.append_assoc]
    rw [e]
    unfold TyA.words
    refine Cuts.trans (typ_cuts a h.1 _ (stop_cons (by decide))) ?_
    refine Cuts.trans (r := b.text ++ ([32, 124, 32, 110, 117, 108, 108, 41] ++ r)) (.step (len := 1) rfl rfl (.step (len := 1) rfl rfl (.done _))) ?_
    refine Cuts.trans (typ_cuts b h.2 _ (stop_cons (by decide))) ?_
    exact .step (len := 1) rfl rfl (.step (len := 4) rfl rfl (.step (len := 1) rfl rfl (.done _)))
/-- Words between brackets. -/
def wrapW (p : Nat) (ws : List Kw) : List Kw := List.replicate p (sg 40) ++ (ws ++ List.replicate p (sg 41))
theorem wrapW_succ (p : Nat) (ws : List Kw) : wrapW (p + 1) ws = [sg 40] ++ (wrapW p ws ++ [sg 41]) := by
  unfold wrapW
  rw [List.replicate_succ, List.replicate_succ']
  simp only [List.append_assoc, List.cons_append, List.nil_append]
theorem wrapP_succ (p : Nat) (x : Bs) : wrapP (p + 1) x = [40] ++ (wrapP p x ++ [41]) := by
  unfold wrapP
  rw [List.replicate_succ, List.replicate_succ']
  simp only [List.append_assoc, List.cons_append, List.nil_append]
theorem cuts_wrap {x : Bs} {ws : List Kw} (h : ∀ r, Stop r → Cuts (x ++ r) ws r) : ∀ (p : Nat) (r : Bs), Stop r → Cuts (wrapP p x ++ r) (wrapW p ws) r
  | 0, r, hr => by
    have e1 : wrapP 0 x = x := by simp [wrapP]
    have e2 : wrapW 0 ws = ws := by simp [wrapW]
    rw [e1, e2]
    exact h r hr
  | p + 1, r, hr => by
    rw [wrapP_succ, wrapW_succ, List.append_assoc, List.append_assoc]
    refine (cuts_sg (by decide) _).trans ((cuts_wrap h p _ (stop_cons (by decide))).trans ?_)
    exact cuts_sg (by decide) r
def ExA.ok : ExA → Prop
  | .num => True
  | .var c => c < 8
  | .tag c => c < 8
  | .null => True
  | .yes => True
  | .empty => True
  | .pair a b => a.ok ∧ b.ok
  | .call c a b => c < 8 ∧ a.ok ∧ b.ok
  | .away c t => c < 8 ∧ t.ok
  | .ite a b c => a.ok ∧ b.ok ∧ c.ok
  | .letx a b => a.ok ∧ b.ok
  | .op a b c => a.ok ∧ b.ok ∧ c.ok
  | .cast a t => a.ok ∧ t.ok
  | .isx => True
def ExA.words (p : Nat) : ExA → List Kw
  | .num => wrapW p [(3, [49], 1)]
  | .var c => wrapW p [(1, [lett c], 0)]
  | .tag c => wrapW p [(4, [lett c], 0)]
  | .null => wrapW p [(5, [110, 117, 108, 108], 0)]
  | .yes => wrapW p [(5, [116, 114, 117, 101], 0)]
  | .empty => wrapW p [sg 123, sg 125]
  | .pair a b => wrapW p ([sg 123, (1, [97], 0), sg 58] ++ (a.words p ++ ([sg 44, (1, [98], 0), sg 58] ++ (b.words p ++ [sg 125]))))
  | .call c a b => wrapW p ([(1, [lett c], 0)] ++ ([sg 40] ++ (a.words p ++ ([sg 44] ++ (b.words p ++ [sg 41])))))
  | .away c t => wrapW p ([(1, [lett c], 0)] ++ ([(6, [58, 58], 0), (1, [102], 0), sg 91] ++ (t.words ++ [sg 93, sg 40, sg 41])))
  | .ite a b c => wrapW p ([sg 40, (5, [105, 102], 0)] ++ (a.words p ++ ([(5, [116, 104, 101, 110], 0)] ++ (b.words p ++ ([(5, [101, 108, 115, 101], 0)] ++ (c.words p ++ [sg 41]))))))
  | .letx a b => wrapW p ([sg 40, (5, [108, 101, 116], 0), (1, [120], 0), sg 61] ++ (a.words p ++ ([(5, [105, 110], 0)] ++ (b.words p ++ [sg 41]))))
  | .op a b c => wrapW p ([sg 40] ++ (a.words p ++ ([sg 43] ++ (b.words p ++ ([(6, [61, 61], 0)] ++ (c.words p ++ [sg 41]))))))
  | .cast a t => wrapW p ([sg 40] ++ (a.words p ++ ([(5, [97, 115], 0)] ++ (t.words ++ [sg 41]))))
  | .isx => wrapW p [sg 40, (1, [120], 0), sg 46, (1, [97], 0), (5, [105, 115], 0), (4, [98], 0), sg 41]
theorem wrapW_ne (p : Nat) {ws : List Kw} (h : ∃ w vs, ws = w :: vs) : ∃ w vs, wrapW p ws = w :: vs := by
  cases p with
  | zero =>
    obtain ⟨w, vs, rfl⟩ := h
    exact ⟨w, vs, by simp [wrapW]⟩
  | succ p => rw [wrapW_succ]; exact ⟨_, _, rfl⟩
theorem ExA.words_ne (p : Nat) (e : ExA) : ∃ w ws, e.words p = w :: ws := by
  cases e <;> (unfold ExA.words; exact wrapW_ne p ⟨_, _, rfl⟩)
theorem expr_cuts (p : Nat) : ∀ (e : ExA), e.ok → ∀ r, Stop r → Cuts (e.text p ++ r) (e.words p) r
  | .num, _, r, hr => cuts_wrap (fun r hr => cuts_plain (by decide) (by decide) hr) p r hr
  | .var c, h, r, hr => cuts_wrap (fun r hr => cuts_lett h hr) p r hr
  | .tag c, h, r, hr => cuts_wrap (fun r hr => by rw [List.append_assoc]; exact cuts_ltag h hr) p r hr
  | .null, _, r, hr => cuts_wrap (fun r hr => cuts_plain (by decide) (by decide) hr) p r hr
  | .yes, _, r, hr => cuts_wrap (fun r hr => cuts_plain (by decide) (by decide) hr) p r hr
  | .empty, _, r, hr => cuts_wrap (fun r hr => .step (len := 1) rfl rfl (.step (len := 1) rfl rfl (.done r))) p r hr
  | .pair a b, h, r, hr => cuts_wrap (fun r hr => by
    simp only [List.append_assoc]
    refine Cuts.trans (r := 32 :: (a.text p ++ ([44, 32, 98, 58, 32] ++ (b.text p ++ ([125] ++ r))))) (.step (len := 1) rfl rfl (.step (len := 1) rfl rfl (.step (len := 1) rfl rfl (.done _)))) ?_
    refine Cuts.trans (((expr_cuts p a h.1 _ (stop_cons (by decide))).blank_ne (a.words_ne p))) ?_
    refine Cuts.trans (r := 32 :: (b.text p ++ ([125] ++ r))) (.step (len := 1) rfl rfl (.step (len := 1) rfl rfl (.step (len := 1) rfl rfl (.done _)))) ?_
    refine Cuts.trans (((expr_cuts p b h.2 _ (stop_cons (by decide))).blank_ne (b.words_ne p))) ?_
    exact cuts_sg (by decide) r) p r hr
  | .call c a b, h, r, hr => cuts_wrap (fun r hr => by
    simp only [List.append_assoc]
    refine Cuts.trans (cuts_lett h.1 (stop_cons (by decide))) ?_
    refine Cuts.trans (cuts_sg (by decide) _) ?_
    refine Cuts.trans (expr_cuts p a h.2.1 _ (stop_cons (by decide))) ?_
    refine Cuts.trans (r := 32 :: (b.text p ++ ([41] ++ r))) (.step (len := 1) rfl rfl (.done _)) ?_
    refine Cuts.trans ((expr_cuts p b h.2.2 _ (stop_cons (by decide))).blank_ne (b.words_ne p)) ?_
    exact cuts_sg (by decide) r) p r hr
  | .away c t, h, r, hr => cuts_wrap (fun r hr => by
    simp only [List.append_assoc]
    refine Cuts.trans (cuts_lett h.1 (stop_cons (by decide))) ?_
    refine Cuts.trans (r := t.text ++ ([93, 40, 41] ++ r)) (.step (len := 2) rfl rfl (.step (len := 1) rfl rfl (.step (len := 1) rfl rfl (.done _)))) ?_
    refine Cuts.trans (typ_cuts t h.2 _ (stop_cons (by decide))) ?_
    exact .step (len := 1) rfl rfl (.step (len := 1) rfl rfl (.step (len := 1) rfl rfl (.done _)))) p r hr
  | .ite a b c, h, r, hr => cuts_wrap (fun r hr => by
    simp only [List.append_assoc]
    refine Cuts.trans (r := 32 :: (a.text p ++ ([32, 116, 104, 101, 110, 32] ++ (b.text p ++ ([32, 101, 108, 115, 101, 32] ++ (c.text p ++ ([41] ++ r))))))) (.step (len := 1) rfl rfl (.step (len := 2) rfl rfl (.done _))) ?_
    refine Cuts.trans ((expr_cuts p a h.1 _ (stop_cons (by decide))).blank_ne (a.words_ne p)) ?_
    refine Cuts.trans (r := 32 :: (b.text p ++ ([32, 101, 108, 115, 101, 32] ++ (c.text p ++ ([41] ++ r))))) (.step (len := 4) rfl rfl (.done _)) ?_
    refine Cuts.trans ((expr_cuts p b h.2.1 _ (stop_cons (by decide))).blank_ne (b.words_ne p)) ?_
    refine Cuts.trans (r := 32 :: (c.text p ++ ([41] ++ r))) (.step (len := 4) rfl rfl (.done _)) ?_
    refine Cuts.trans ((expr_cuts p c h.2.2 _ (stop_cons (by decide))).blank_ne (c.words_ne p)) ?_
    exact cuts_sg (by decide) r) p r hr
  | .letx a b, h, r, hr => cuts_wrap (fun r hr => by
    simp only [List.append_assoc]
    refine Cuts.trans (r := 32 :: (a.text p ++ ([32, 105, 110, 32] ++ (b.text p ++ ([41] ++ r))))) (.step (len := 1) rfl rfl (.step (len := 3) rfl rfl (.step (len := 1) rfl rfl (.step (len := 1) rfl rfl (.done _))))) ?_
    refine Cuts.trans ((expr_cuts p a h.1 _ (stop_cons (by decide))).blank_ne (a.words_ne p)) ?_
    refine Cuts.trans (r := 32 :: (b.text p ++ ([41] ++ r))) (.step (len := 2) rfl rfl (.done _)) ?_
    refine Cuts.trans ((expr_cuts p b h.2 _ (stop_cons (by decide))).blank_ne (b.words_ne p)) ?_
    exact cuts_sg (by decide) r) p r hr
  | .op a b c, h, r, hr => cuts_wrap (fun r hr => by
    simp only [List.append_assoc]
    refine Cuts.trans (cuts_sg (by decide) _) ?_
    refine Cuts.trans (expr_cuts p a h.1 _ (stop_cons (by decide))) ?_
    refine Cuts.trans (r := 32 :: (b.text p ++ ([32, 61, 61, 32] ++ (c.text p ++ ([41] ++ r))))) (.step (len := 1) rfl rfl (.done _)) ?_
    refine Cuts.trans ((expr_cuts p b h.2.1 _ (stop_cons (by decide))).blank_ne (b.words_ne p)) ?_
    refine Cuts.trans (r := 32 :: (c.text p ++ ([41] ++ r))) (.step (len := 2) rfl rfl (.done _)) ?_
    refine Cuts.trans ((expr_cuts p c h.2.2 _ (stop_cons (by decide))).blank_ne (c.words_ne p)) ?_
    exact cuts_sg (by decide) r) p r hr
  | .cast a t, h, r, hr => cuts_wrap (fun r hr => by
    simp only [List.append_assoc]
    refine Cuts.trans (cuts_sg (by decide) _) ?_
    refine Cuts.trans (expr_cuts p a h.1 _ (stop_cons (by decide))) ?_
    refine Cuts.trans (r := 32 :: (t.text ++ ([41] ++ r))) (.step (len := 2) rfl rfl (.done _)) ?_
    refine Cuts.trans ((typ_cuts t h.2 _ (stop_cons (by decide))).blank_ne t.words_ne) ?_
    exact cuts_sg (by decide) r) p r hr
  | .isx, _, r, hr => cuts_wrap (fun r hr => .step (len := 1) rfl rfl (.step (len := 1) rfl rfl (.step (len := 1) rfl rfl (.step (len := 1) rfl rfl (.step (len := 2) rfl rfl (.step (len := 2) rfl rfl (.step (len := 1) rfl rfl (.done r)))))))) p r hr
end Go.Proofs.YtmgjmagniefhoaaGreatDoor

/- The words of a made module. No program is walked here. -/
namespace Go.Proofs.YtmgjmagniefhoaaGreatDoor
open Lx (Bs Wd)
/-- A function of a made module. -/
structure FnA where
  t1 : TyA
  t2 : TyA
  t3 : TyA
  e : ExA
def fnA (N : List Int) : FnA × List Int :=
  (⟨(typA 6 N).1, (typA 6 (typA 6 N).2).1, (typA 6 (typA 6 (typA 6 N).2).2).1, (exprA 6 (typA 6 (typA 6 (typA 6 N).2).2).2).1⟩, (exprA 6 (typA 6 (typA 6 (typA 6 N).2).2).2).2)
def fnsA (N : List Int) : Nat → List FnA × List Int
  | 0 => ([], (typA 6 N).2)
  | i + 1 => ((fnsA N i).1 ++ [(fnA (fnsA N i).2).1], (fnA (fnsA N i).2).2)
theorem iterT_rest (p : Nat) (N : List Int) : ∀ i, (iterT p N i).2 = (fnsA N i).2
  | 0 => rfl
  | i + 1 => by
    show (stepT p i (iterT p N i)).2 = (fnA (fnsA N i).2).2
    rw [← iterT_rest p N i]
    rfl
def fnW (p i : Nat) (F : FnA) : List Kw :=
  [(5, [102, 110], 0)] ++ ([(1, [lett i], 0)] ++ ([sg 91, (2, [65], 0), (6, [60, 58], 0)] ++ (F.t1.words ++ ([sg 93, sg 40, (1, [120], 0), sg 58] ++ (F.t2.words ++ ([sg 44, (1, [121], 0), sg 58, (2, [65], 0), sg 41, sg 58] ++ (F.t3.words ++ ([sg 61] ++ F.e.words p))))))))
def iterW (p : Nat) (N : List Int) : Nat → List Kw
  | 0 => [(5, [109, 111, 100, 117, 108, 101], 0), (1, [109], 0), (5, [105, 109, 112, 111, 114, 116], 0), (1, [110], 0), (5, [105, 109, 112, 111, 114, 116], 0), (1, [111], 0), (5, [116, 121, 112, 101], 0), (2, [84], 0), sg 61] ++ (typA 6 N).1.words
  | i + 1 => iterW p N i ++ fnW p i (fnA (fnsA N i).2).1
theorem leafT_ok (z : Nat) (N : List Int) : (leafT z N).1.ok := by
  have h8 := nextS_lt (n := 8) (by decide) N
  unfold leafT
  split
  · trivial
  · split
    · show (nextS 8 N).1 < 8; omega
    · show (nextS 8 N).1 < 8; omega
theorem typA_ok : ∀ (r : Nat) (N : List Int), (typA r N).1.ok
  | 0, N => leafT_ok _ _
  | r + 1, N => by
    have h8 := nextS_lt (n := 8) (by decide) (nextS 9 N).2
    rw [typA]
    split
    · exact ⟨typA_ok r _, typA_ok r _⟩
    · split
      · show (nextS 8 _).1 < 8; omega
      · split
        · exact ⟨typA_ok r _, typA_ok r _⟩
        · exact leafT_ok _ _
theorem leafE_ok (z : Nat) (N : List Int) : (leafE z N).1.ok := by
  have h8 := nextS_lt (n := 8) (by decide) N
  unfold leafE
  repeat' split
  all_goals first | trivial | (show (nextS 8 N).1 < 8; omega)
theorem exprA_ok : ∀ (r : Nat) (N : List Int), (exprA r N).1.ok
  | 0, N => leafE_ok _ _
  | r + 1, N => by
    have h8 := nextS_lt (n := 8) (by decide) (nextS 14 N).2
    have h8' : (nextS 8 (nextS 14 N).2).1 < 8 := by omega
    have ih := exprA_ok r
    have it := typA_ok r
    rw [exprA]
    unfold bodyE
    repeat' split
    · exact leafE_ok _ _
    · trivial
    · exact ⟨ih _, ih _⟩
    · exact ⟨h8', ih _, ih _⟩
    · exact ⟨h8', it _⟩
    · exact ⟨ih _, ih _, ih _⟩
    · exact ⟨ih _, ih _⟩
    · exact ⟨ih _, ih _, ih _⟩
    · exact ⟨ih _, it _⟩
    · trivial
theorem iter_cuts (p : Nat) (N : List Int) : ∀ i, i ≤ 8 → ∀ r, Cuts ((iterT p N i).1 ++ r) (iterW p N i) (32 :: r)
  | 0, _, r => by
    show Cuts ((([109, 111, 100, 117, 108, 101, 32, 109, 32, 105, 109, 112, 111, 114, 116, 32, 110, 32, 105, 109, 112, 111, 114, 116, 32, 111, 32, 116, 121, 112, 101, 32, 84, 32, 61, 32] ++ (typA 6 N).1.text) ++ [32]) ++ r) _ _
    rw [List.append_assoc, List.append_assoc]
    unfold iterW
    refine Cuts.trans (r := 32 :: ((typA 6 N).1.text ++ ([32] ++ r))) ?_ ((typ_cuts _ (typA_ok 6 N) _ (stop_cons (by decide))).blank_ne (TyA.words_ne _))
    exact .step (len := 6) rfl rfl (.step (len := 1) rfl rfl (.step (len := 6) rfl rfl (.step (len := 1) rfl rfl (.step (len := 6) rfl rfl (.step (len := 1) rfl rfl (.step (len := 4) rfl rfl (.step (len := 1) rfl rfl (.step (len := 1) rfl rfl (.done _)))))))))
  | i + 1, hi, r => by
    have ih := iter_cuts p N i (by omega)
    have h2 := iterT_rest p N i
    show Cuts ((stepT p i (iterT p N i)).1 ++ r) (iterW p N i ++ fnW p i (fnA (fnsA N i).2).1) _
    rw [← h2]
    generalize iterT p N i = S at *
    unfold stepT
    simp only [List.append_assoc]
    refine (ih _).trans ?_
    unfold fnW fnA
    simp only []
    refine Cuts.trans (r := 32 :: ([lett i] ++ _)) (.step (len := 2) rfl rfl (.done _)) ?_
    refine Cuts.trans (Cuts.blank_ne (cuts_lett (by omega) (stop_cons (by decide))) ⟨_, _, rfl⟩) ?_
    refine Cuts.trans (r := 32 :: ((typA 6 S.2).1.text ++ _)) (.step (len := 1) rfl rfl (.step (len := 1) rfl rfl (.step (len := 2) rfl rfl (.done _)))) ?_
    refine Cuts.trans ((typ_cuts _ (typA_ok 6 _) _ (stop_cons (by decide))).blank_ne (TyA.words_ne _)) ?_
    refine Cuts.trans (r := 32 :: ((typA 6 (typA 6 S.2).2).1.text ++ _)) (.step (len := 1) rfl rfl (.step (len := 1) rfl rfl (.step (len := 1) rfl rfl (.step (len := 1) rfl rfl (.done _))))) ?_
    refine Cuts.trans ((typ_cuts _ (typA_ok 6 _) _ (stop_cons (by decide))).blank_ne (TyA.words_ne _)) ?_
    refine Cuts.trans (r := 32 :: ((typA 6 (typA 6 (typA 6 S.2).2).2).1.text ++ _)) (.step (len := 1) rfl rfl (.step (len := 1) rfl rfl (.step (len := 1) rfl rfl (.step (len := 1) rfl rfl (.step (len := 1) rfl rfl (.step (len := 1) rfl rfl (.done _))))))) ?_
    refine Cuts.trans ((typ_cuts _ (typA_ok 6 _) _ (stop_cons (by decide))).blank_ne (TyA.words_ne _)) ?_
    refine Cuts.trans (r := 32 :: ((exprA 6 (typA 6 (typA 6 (typA 6 S.2).2).2).2).1.text p ++ _)) (.step (len := 1) rfl rfl (.done _)) ?_
    exact (expr_cuts p _ (exprA_ok 6 _) _ (stop_cons (by decide))).blank_ne (ExA.words_ne p _)
/-- The words of a made module. -/
def madeW (p : Nat) (N : List Int) : List Kw := iterW p (N.take 120) 3
theorem made_words {p : Nat} (hp : p ≤ 3) (N : List Int) : ∃ ws, wordsR (st (madeT p N)) = (ws ++ [endW (st (madeT p N))], 0, 0) ∧ ws.map Tr.kw = madeW p N := by
  have h := iter_cuts p (N.take 120) 3 (by omega) []
  rw [List.append_nil] at h
  have h : Cuts (madeT p N) (madeW p N) [32] := h
  have hf := h.few
  have hl := madeT_few p hp N
  obtain ⟨ws, h1, h2⟩ := h.cutF (madeT p N).length ((madeT p N).length + 1) rfl (by simp only [List.length_cons, List.length_nil] at hf; omega)
  refine ⟨ws, ?_, h2⟩
  unfold wordsR
  rw [if_neg (by rw [st_size]; omega), show bl (st (madeT p N)) = madeT p N from bl_st _]
  unfold Lx.cut
  rw [h1]
theorem madeW_few {p : Nat} (hp : p ≤ 3) (N : List Int) : (madeW p N).length ≤ 7500 := by
  have h := (iter_cuts p (N.take 120) 3 (by omega) []).few
  rw [List.append_nil] at h
  have hl := madeT_few p hp N
  have h : (madeW p N).length + 1 ≤ (madeT p N).length := h
  omega
end Go.Proofs.YtmgjmagniefhoaaGreatDoor

/- A made type is read. No program is walked here. -/
namespace Go.Proofs.YtmgjmagniefhoaaGreatDoor
open Lx (Bs Wd)
open Tr (Nd leaf plainT plainE partF altF typF fieldsF fieldF failA node room must word fresh deep isW now kw)
/-- Words stand at a place. -/
def At (L : List Wd) (k : Nat) (ws : List Kw) : Prop := ∀ i (h : i < ws.length), kw (now L (k + i)) = ws[i]
section
variable {L : List Wd}
theorem At.app {k : Nat} {a b : List Kw} (h : At L k (a ++ b)) : At L k a ∧ At L (k + a.length) b := by
  refine ⟨fun i hi => ?_, fun i hi => ?_⟩
  · have := h i (by rw [List.length_append]; omega)
    rw [this, List.getElem_append_left hi]
  · have := h (a.length + i) (by rw [List.length_append]; omega)
    rw [Nat.add_assoc, this, List.getElem_append_right (by omega)]
    simp
theorem At.cons {k : Nat} {w : Kw} {ws : List Kw} (h : At L k (w :: ws)) : kw (now L k) = w ∧ At L (k + 1) ws := by
  refine ⟨h 0 (by simp), fun i hi => ?_⟩
  have := h (i + 1) (by simp; omega)
  rw [Nat.add_assoc, Nat.add_comm 1 i, this]
  rfl
theorem kw_parts {k : Nat} {x m : Int} {t : Bs} (h : kw (now L k) = (x, t, m)) : (now L k).kind = x ∧ (now L k).text = t ∧ (now L k).num = m := by
  unfold kw at h
  injection h with h1 h
  injection h with h2 h3
  exact ⟨h1, h2, h3⟩
theorem isW_at {k : Nat} {x m : Int} {t : Bs} (h : kw (now L k) = (x, t, m)) (s : Bs) : isW L s k = ((decide (x = 6) || decide (x = 5)) && decide (t = s)) := by
  obtain ⟨h1, h2, _⟩ := kw_parts h
  unfold isW
  rw [h1, h2]
theorem isW_sg {k : Nat} {c : UInt8} (h : kw (now L k) = sg c) (s : Bs) : isW L s k = decide ([c] = s) := by
  rw [isW_at h]
  rfl
theorem isW_one {k : Nat} {x m : Int} {t : Bs} (h : kw (now L k) = (x, t, m)) (hx : x ≠ 6 ∧ x ≠ 5) (s : Bs) : isW L s k = false := by
  rw [isW_at h, decide_eq_false hx.1, decide_eq_false hx.2]
  rfl
theorem must_at {k : Nat} {s : Bs} (h : isW L s k = true) (M : List Nd) : must L s k M = .ok ((), k + 1, M) := if_pos h
theorem word_at {k : Nat} {x m : Int} {t : Bs} (h : kw (now L k) = (x, t, m)) (M : List Nd) : word L x k M = .ok (t, k + 1, M) := by
  obtain ⟨h1, h2, _⟩ := kw_parts h
  unfold word
  rw [if_pos h1, h2]
theorem fresh_at {k : Nat} {x m : Int} {t : Bs} {l : List Bs} (h : kw (now L k) = (x, t, m)) (hl : t ∉ l) (M : List Nd) : fresh L l x k M = .ok (t, k + 1, M) := by
  obtain ⟨h1, h2, _⟩ := kw_parts h
  unfold fresh
  rw [if_neg (fun h => hl (by rw [← h2]; exact h.2))]
  exact word_at h M
theorem room_at {a b : Int} (h : a < b) (k : Nat) (M : List Nd) : room L a b k M = .ok ((), k, M) := if_neg (by omega)
theorem deep_at {d : Int} (h : d ≤ 60) (k : Nat) (M : List Nd) : deep L d k M = .ok ((), k, M) := if_neg (by omega)
theorem node_at {M : List Nd} (h : M.length < 4000) (n : Nd) (k : Nat) : node L n k M = .ok ((M.length : Int), k, M ++ [n]) := if_neg (by omega)
def put (n : Nd) (M : List Nd) : Int × List Nd := ((M.length : Int), M ++ [n])
def closeT (x : List Int × List Nd) : Int × List Nd := if x.1.length = 1 then (x.1.getD 0 0, x.2) else put ⟨8, 0, [], [], [], x.1⟩ x.2
/-- The parts of a type, put behind what nodes there are. -/
def partsT : TyA → List Nd → List Int × List Nd
  | .prim k, M => ([(M.length : Int)], M ++ [leaf (plainT (primT k)) []])
  | .tag c, M => ([(M.length : Int)], M ++ [leaf 5 [lett c]])
  | .name c, M => ([(M.length : Int)], M ++ [leaf 6 [84, lett c]])
  | .pair a b, M => ([((closeT (partsT b (closeT (partsT a M)).2)).2.length : Int)], (closeT (partsT b (closeT (partsT a M)).2)).2 ++ [⟨7, 0, [], [], [[97], [98]], [(closeT (partsT a M)).1, (closeT (partsT b (closeT (partsT a M)).2)).1]⟩])
  | .away c, M => ([(M.length : Int)], M ++ [⟨6, 0, [lett c], [84], [], []⟩])
  | .uni a b, M => ((partsT a M).1 ++ [(((partsT b (partsT a M).2).2 ++ [leaf 2 []]).length : Int)], ((partsT b (partsT a M).2).2 ++ [leaf 2 []]) ++ [⟨8, 0, [], [], [], (partsT b (partsT a M).2).1 ++ [((partsT b (partsT a M).2).2.length : Int)]⟩])
def typT (t : TyA) (M : List Nd) : Int × List Nd := closeT (partsT t M)
/-- How many parts; how deep; how many nodes at most. -/
def TyA.cnt : TyA → Nat
  | .uni a _ => a.cnt + 1
  | _ => 1
def TyA.h : TyA → Nat
  | .pair a b => max a.h b.h + 1
  | .uni a b => max a.h (b.h + 1)
  | _ => 0
def TyA.size : TyA → Nat
  | .pair a b => a.size + b.size + 3
  | .uni a b => a.size + b.size + 2
  | _ => 1
def TyA.few : TyA → Prop
  | .pair a b => a.few ∧ b.few ∧ a.cnt ≤ 15 ∧ b.cnt ≤ 15
  | .uni a b => a.few ∧ b.few ∧ a.cnt ≤ 15 ∧ b.cnt ≤ 15
  | _ => True
theorem TyA.cnt_pos (t : TyA) : 1 ≤ t.cnt := by cases t <;> (unfold TyA.cnt; omega)
theorem TyA.cnt_le : ∀ t : TyA, t.cnt ≤ t.words.length
  | .prim _ => Nat.le_refl _
  | .tag _ => Nat.le_refl _
  | .name _ => Nat.le_refl _
  | .pair _ _ => by unfold TyA.cnt TyA.words; simp only [List.length_append, List.length_cons]; omega
  | .away _ => by show 1 ≤ 3; omega
  | .uni a b => by
    have := a.cnt_le
    unfold TyA.cnt TyA.words
    simp only [List.length_append, List.length_cons, List.length_nil]
    omega
theorem partsT_len : ∀ (t : TyA) (M : List Nd), (partsT t M).1.length = t.cnt
  | .prim _, _ => rfl
  | .tag _, _ => rfl
  | .name _, _ => rfl
  | .pair _ _, _ => rfl
  | .away _, _ => rfl
  | .uni a b, M => by
    unfold partsT TyA.cnt
    rw [List.length_append, partsT_len a M]
    rfl
theorem closeT_le (x : List Int × List Nd) : (closeT x).2.length ≤ x.2.length + 1 := by
  unfold closeT put
  split
  · exact Nat.le_succ _
  · simp
theorem partsT_le : ∀ (t : TyA) (M : List Nd), (partsT t M).2.length ≤ M.length + t.size
  | .prim _, _ => by unfold partsT TyA.size; simp
  | .tag _, _ => by unfold partsT TyA.size; simp
  | .name _, _ => by unfold partsT TyA.size; simp
  | .pair a b, M => by
    have h1 := partsT_le a M
    have h2 := closeT_le (partsT a M)
    have h3 := partsT_le b (closeT (partsT a M)).2
    have h4 := closeT_le (partsT b (closeT (partsT a M)).2)
    unfold partsT TyA.size
    simp only [List.length_append, List.length_cons, List.length_nil]
    omega
  | .away _, _ => by unfold partsT TyA.size; simp
  | .uni a b, M => by
    have h1 := partsT_le a M
    have h3 := partsT_le b (partsT a M).2
    unfold partsT TyA.size
    simp only [List.length_append, List.length_cons, List.length_nil]
    omega
theorem typT_le (t : TyA) (M : List Nd) : (typT t M).2.length ≤ M.length + t.size + 1 := by
  have h1 := partsT_le t M
  have h2 := closeT_le (partsT t M)
  unfold typT
  omega
/-- One part, and what may stand behind it. -/
def goF (L : List Wd) (f : Nat) (d : Int) (l : List Int) (k : Nat) (M : List Nd) : Tr.An Int := Tr.bind (partF L f d k M) fun n k M => altF L f d (l ++ [n]) k M
theorem goF_part {f : Nat} {d : Int} {l : List Int} {k k' : Nat} {M M' : List Nd} {n : Int} (h : partF L f d k M = .ok (n, k', M')) : goF L f d l k M = altF L f d (l ++ [n]) k' M' := by
  unfold goF
  rw [h]
  rfl
theorem bind_at {α β : Type} {a : Tr.An α} {g : α → Nat → List Nd → Tr.An β} {x : α} {k : Nat} {M : List Nd} (h : a = .ok (x, k, M)) : Tr.bind a g = g x k M := by
  rw [h]
  rfl
theorem typF_go {f : Nat} {d : Int} {k : Nat} {M : List Nd} (hd : d ≤ 60) : typF L (f + 1) d k M = goF L f d [] k M := by
  rw [typF, bind_at (deep_at hd k M)]
  rfl
theorem alt_end {f : Nat} {d : Int} {l : List Int} {k : Nat} {M : List Nd} (h : isW L [124] k = false) (hM : M.length < 4000) : altF L (f + 1) d l k M = .ok ((closeT (l, M)).1, k, (closeT (l, M)).2) := by
  rw [altF, h, if_neg (by simp)]
  unfold closeT put
  split
  · rfl
  · exact node_at hM _ _
theorem alt_on {f : Nat} {d : Int} {l : List Int} {k : Nat} {M : List Nd} (h : isW L [124] k = true) (hl : l.length < 16) : altF L (f + 1) d l k M = goF L f d l (k + 1) M := by
  rw [altF, if_pos h, bind_at (room_at (by omega) (k + 1) M)]
  rfl
/-- A part of a type is read. -/
theorem parts_read : ∀ (t : TyA), t.few → ∀ (k : Nat), At L k t.words → ∀ (f : Nat) (d : Int) (l : List Int) (M : List Nd), 8 * t.words.length ≤ f + 4 → d + t.h ≤ 60 → l.length + t.cnt ≤ 16 → M.length + t.size ≤ 4000 →
    goF L f d l k M = altF L (f - (t.cnt - 1)) d (l ++ (partsT t M).1) (k + t.words.length) (partsT t M).2
  | .prim p, _, k, hA, f, d, l, M, hf, hd, hl, hM => by
    obtain ⟨h1, h2, _⟩ := kw_parts hA.cons.1
    have hf : 8 * 1 ≤ f + 4 := hf
    have hM : M.length + 1 ≤ 4000 := hM
    obtain ⟨f, rfl⟩ : ∃ g, f = g + 1 := ⟨f - 1, by omega⟩
    refine goF_part ?_
    have hp : plainT (primT p) ≠ 0 := by
      match p with
      | 0 => decide
      | 1 => decide
      | 2 => decide
      | n + 3 => exact (by decide : plainT [98, 111, 111, 108] ≠ 0)
    rw [partF]
    rw [if_pos ⟨h1, by rw [h2]; exact hp⟩, h2]
    exact node_at (by omega) _ _
  | .tag c, _, k, hA, f, d, l, M, hf, hd, hl, hM => by
    obtain ⟨h1, h2, _⟩ := kw_parts hA.cons.1
    have hf : 8 * 1 ≤ f + 4 := hf
    have hM : M.length + 1 ≤ 4000 := hM
    obtain ⟨f, rfl⟩ : ∃ g, f = g + 1 := ⟨f - 1, by omega⟩
    refine goF_part ?_
    rw [partF]
    rw [if_neg (fun h => by rw [h1] at h; exact absurd h.1 (by decide)), if_pos h1, h2]
    exact node_at (by omega) _ _
  | .name c, _, k, hA, f, d, l, M, hf, hd, hl, hM => by
    obtain ⟨h1, h2, _⟩ := kw_parts hA.cons.1
    have hf : 8 * 1 ≤ f + 4 := hf
    have hM : M.length + 1 ≤ 4000 := hM
    obtain ⟨f, rfl⟩ : ∃ g, f = g + 1 := ⟨f - 1, by omega⟩
    refine goF_part ?_
    rw [partF]
    rw [if_neg (fun h => by rw [h1] at h; exact absurd h.1 (by decide)), if_neg (fun h => by rw [h1] at h; exact absurd h (by decide)), if_pos h1, h2]
    exact node_at (by omega) _ _
  | .away c, _, k, hA, f, d, l, M, hf, hd, hl, hM => by
    obtain ⟨hA1, hA2⟩ := hA.cons
    obtain ⟨hA2, hA3⟩ := hA2.cons
    obtain ⟨hA3, _⟩ := hA3.cons
    obtain ⟨h1, h2, _⟩ := kw_parts hA1
    have hf : 8 * 3 ≤ f + 4 := hf
    have hM : M.length + 1 ≤ 4000 := hM
    obtain ⟨f, rfl⟩ : ∃ g, f = g + 1 := ⟨f - 1, by omega⟩
    refine goF_part ?_
    rw [partF]
    rw [if_neg (fun h => by rw [h1] at h; exact absurd h.1 (by decide)), if_neg (fun h => by rw [h1] at h; exact absurd h (by decide)), if_neg (fun h => by rw [h1] at h; exact absurd h (by decide)), if_pos h1, h2,
      bind_at (must_at (by rw [isW_at hA2]; rfl) M), bind_at (word_at hA3 M)]
    exact node_at (by omega) _ _
  | .pair a b, hw, k, hA, f, d, l, M, hf, hd, hl, hM => by
    obtain ⟨wa, wb, ca, cb⟩ := hw
    unfold TyA.words at hA hf ⊢
    obtain ⟨hA1, hA⟩ := hA.app
    obtain ⟨hAa, hA⟩ := hA.app
    obtain ⟨hA2, hA⟩ := hA.app
    obtain ⟨hAb, hA3⟩ := hA.app
    obtain ⟨p1, hA1⟩ := hA1.cons
    obtain ⟨p2, hA1⟩ := hA1.cons
    obtain ⟨p3, _⟩ := hA1.cons
    obtain ⟨q1, hA2⟩ := hA2.cons
    obtain ⟨q2, hA2⟩ := hA2.cons
    obtain ⟨q3, _⟩ := hA2.cons
    obtain ⟨z1, _⟩ := hA3.cons
    simp only [List.length_append, List.length_cons, List.length_nil, Nat.zero_add] at *
    unfold TyA.h at hd
    unfold TyA.size at hM
    have m1 := partsT_le a M
    have m2 := closeT_le (partsT a M)
    have m3 := partsT_le b (closeT (partsT a M)).2
    have m4 := closeT_le (partsT b (closeT (partsT a M)).2)
    obtain ⟨f, rfl⟩ : ∃ g, f = g + 6 := ⟨f - 6, by omega⟩
    obtain ⟨h1, h2, _⟩ := kw_parts p1
    refine (goF_part (n := ((closeT (partsT b (closeT (partsT a M)).2)).2.length : Int)) (k' := k + (3 + (a.words.length + (3 + (b.words.length + 1))))) (M' := _) ?_).trans rfl
    rw [partF]
    rw [if_neg (fun h => by rw [h1] at h; exact absurd h.1 (by decide)), if_neg (fun h => by rw [h1] at h; exact absurd h (by decide)), if_neg (fun h => by rw [h1] at h; exact absurd h (by decide)), if_neg (fun h => by rw [h1] at h; exact absurd h (by decide)), if_pos (by rw [isW_sg p1]; rfl)]
    rw [fieldsF, if_neg (by rw [isW_one p2 (by decide)]; decide)]
    have ea := parts_read a wa (k + 1 + 1 + 1) (by rw [show k + 1 + 1 + 1 = k + (1 + 1 + 1) by omega]; exact hAa) (f + 2) (d + 1) [] M (by omega) (by omega) (by simp only [List.length_nil]; omega) (by omega)
    have eb := parts_read b wb (k + (1 + 1 + 1) + a.words.length + 1 + 1 + 1) hAb (f + 1) (d + 1) [] (closeT (partsT a M)).2 (by omega) (by omega) (by simp only [List.length_nil]; omega) (by omega)
    rw [List.nil_append] at ea eb
    have ca1 := a.cnt_le
    have cb1 := b.cnt_le
    have ca0 := a.cnt_pos
    have cb0 := b.cnt_pos
    rw [show f + 2 - (a.cnt - 1) = (f + 1 - (a.cnt - 1)) + 1 by omega, alt_end (by rw [show k + 1 + 1 + 1 + a.words.length = k + (1 + 1 + 1) + a.words.length by omega, isW_sg q1]; decide) (by omega)] at ea
    rw [show f + 1 - (b.cnt - 1) = (f - (b.cnt - 1)) + 1 by omega, alt_end (by rw [isW_sg (by exact z1)]; decide) (by omega)] at eb
    rw [bind_at (x := ([[97], [98]], [(closeT (partsT a M)).1, (closeT (partsT b (closeT (partsT a M)).2)).1])) (k := k + (1 + 1 + 1) + a.words.length + (1 + 1 + 1) + b.words.length) (M := (closeT (partsT b (closeT (partsT a M)).2)).2) ?_]
    · rw [bind_at (must_at (by rw [isW_sg z1]; rfl) _), node_at (by omega)]
      rw [show k + (1 + 1 + 1) + a.words.length + (1 + 1 + 1) + b.words.length + 1 = k + (3 + (a.words.length + (3 + (b.words.length + 1)))) by omega]
      rfl
    · rw [fieldF, bind_at (room_at (by simp only [List.length_nil]; omega) _ _), bind_at (fresh_at p2 (by simp) _), bind_at (must_at (by rw [isW_sg p3]; rfl) _)]
      rw [if_pos rfl, bind_at ((typF_go (by omega)).trans ea)]
      rw [if_pos (by rw [show k + 1 + 1 + 1 + a.words.length = k + (1 + 1 + 1) + a.words.length by omega, isW_sg q1]; rfl)]
      rw [show k + 1 + 1 + 1 + a.words.length = k + (1 + 1 + 1) + a.words.length by omega]
      rw [fieldF, bind_at (room_at (by simp only [List.nil_append, List.length_cons, List.length_nil]; omega) _ _), bind_at (fresh_at q2 (by decide) _), bind_at (must_at (by rw [isW_sg q3]; rfl) _)]
      rw [if_pos rfl, bind_at ((typF_go (by omega)).trans eb)]
      rw [if_neg (by rw [isW_sg (by exact z1)]; decide)]
      rfl
  | .uni a b, hw, k, hA, f, d, l, M, hf, hd, hl, hM => by
    obtain ⟨wa, wb, ca, cb⟩ := hw
    unfold TyA.words at hA hf ⊢
    obtain ⟨hAa, hA⟩ := hA.app
    obtain ⟨hA2, hA⟩ := hA.app
    obtain ⟨hAb, hA3⟩ := hA.app
    obtain ⟨q1, hA2⟩ := hA2.cons
    obtain ⟨q2, _⟩ := hA2.cons
    obtain ⟨z1, hA3⟩ := hA3.cons
    obtain ⟨z2, hA3⟩ := hA3.cons
    obtain ⟨z3, _⟩ := hA3.cons
    simp only [List.length_append, List.length_cons, List.length_nil, Nat.zero_add] at *
    unfold TyA.h at hd
    unfold TyA.size at hM
    unfold TyA.cnt at hl
    have m1 := partsT_le a M
    have m3 := partsT_le b (partsT a M).2
    have ca1 := a.cnt_le
    have cb1 := b.cnt_le
    have ca0 := a.cnt_pos
    have cb0 := b.cnt_pos
    have la := partsT_len a M
    have lb := partsT_len b (partsT a M).2
    rw [parts_read a wa k hAa f d l M (by omega) (by omega) (by omega) (by omega)]
    obtain ⟨g, hg⟩ : ∃ g, f - (a.cnt - 1) = g + 9 := ⟨f - (a.cnt - 1) - 9, by omega⟩
    rw [hg, show g + 9 = (g + 8) + 1 from rfl, alt_on (by rw [isW_sg q1]; rfl) (by rw [List.length_append]; omega)]
    obtain ⟨h1, h2, _⟩ := kw_parts q2
    obtain ⟨y1, y2, _⟩ := kw_parts z2
    refine (goF_part (n := (((partsT b (partsT a M).2).2 ++ [leaf 2 []]).length : Int)) (k' := k + (a.words.length + (1 + 1 + (b.words.length + (1 + 1 + 1))))) (M' := (partsT (.uni a b) M).2) ?_).trans ?_
    · rw [partF]
      rw [if_neg (fun h => by rw [h1] at h; exact absurd h.1 (by decide)), if_neg (fun h => by rw [h1] at h; exact absurd h (by decide)), if_neg (fun h => by rw [h1] at h; exact absurd h (by decide)), if_neg (fun h => by rw [h1] at h; exact absurd h (by decide)), if_neg (by rw [isW_sg q2]; decide), if_pos (by rw [isW_sg q2]; rfl)]
      have eb := parts_read b wb (k + a.words.length + 1 + 1) hAb (g + 6) (d + 1) [] (partsT a M).2 (by omega) (by omega) (by simp only [List.length_nil]; omega) (by omega)
      obtain ⟨g2, hg2⟩ : ∃ g2, g + 6 - (b.cnt - 1) = g2 + 3 := ⟨g + 6 - (b.cnt - 1) - 3, by omega⟩
      rw [List.nil_append, hg2, show g2 + 3 = (g2 + 2) + 1 from rfl, alt_on (by rw [isW_sg (by exact z1)]; rfl) (by omega)] at eb
      rw [bind_at (x := (((partsT b (partsT a M).2).2 ++ [leaf 2 []]).length : Int)) (k := k + a.words.length + (1 + 1) + b.words.length + 1 + 1) (M := (partsT (.uni a b) M).2) ?_]
      · rw [bind_at (must_at (by rw [isW_sg z3]; rfl) _)]
        rw [show k + a.words.length + (1 + 1) + b.words.length + 1 + 1 + 1 = k + (a.words.length + (1 + 1 + (b.words.length + (1 + 1 + 1)))) by omega]
      · rw [typF_go (by omega), eb]
        rw [goF_part (n := ((partsT b (partsT a M).2).2.length : Int)) (k' := k + a.words.length + (1 + 1) + b.words.length + 1 + 1) (M' := (partsT b (partsT a M).2).2 ++ [leaf 2 []]) ?_]
        · rw [show g2 + 2 = (g2 + 1) + 1 from rfl, alt_end (by rw [isW_sg z3]; decide) (by rw [List.length_append]; show (partsT b (partsT a M).2).2.length + 1 < 4000; omega)]
          unfold closeT put
          rw [if_neg (by rw [List.length_append]; show ¬ (partsT b (partsT a M).2).1.length + 1 = 1; omega)]
          rfl
        · rw [partF]
          have y1 : (now L (k + a.words.length + 1 + 1 + b.words.length + 1)).kind = 5 := y1
          have y2 : (now L (k + a.words.length + 1 + 1 + b.words.length + 1)).text = [110, 117, 108, 108] := y2
          rw [if_pos ⟨y1, by rw [y2]; decide⟩, y2]
          exact node_at (by omega) _ _
    · rw [show g + 8 = f - (TyA.cnt (.uni a b) - 1) by unfold TyA.cnt; omega]
      rw [List.append_assoc]
      rfl
/-- A type is read. -/
theorem typ_read (t : TyA) (hw : t.few) (hc : t.cnt ≤ 15) {k : Nat} (hA : At L k t.words) (hn : isW L [124] (k + t.words.length) = false) {f : Nat} {d : Int} {M : List Nd} (hf : 8 * t.words.length ≤ f + 3) (hd : d + t.h ≤ 60) (hM : M.length + t.size + 1 ≤ 4000) :
    typF L f d k M = .ok ((typT t M).1, k + t.words.length, (typT t M).2) := by
  have h1 := t.cnt_le
  have h0 := t.cnt_pos
  have hm := partsT_le t M
  obtain ⟨f, rfl⟩ : ∃ g, f = g + 1 := ⟨f - 1, by omega⟩
  rw [typF_go (by omega), parts_read t hw k hA f d [] M (by omega) hd (by simp only [List.length_nil]; omega) (by omega), List.nil_append]
  rw [show f - (t.cnt - 1) = (f - (t.cnt - 1) - 1) + 1 by omega, alt_end hn (by omega)]
  rfl
end
end Go.Proofs.YtmgjmagniefhoaaGreatDoor
