/- What stands in these texts of the proof: Nd Ne. Conditions: those that each theorem names. -/
import Derived.Test.YtmgjmagniefhoaaGreatDoorAb01
/- A made expression is read. No program is walked here. -/
namespace Go.Proofs.YtmgjmagniefhoaaGreatDoor
open Lx (Bs Wd)
open Tr (Nd leaf plainT plainE partF altF typF fieldsF fieldF failA node room must word fresh deep isW now kw exprF primF atomF sumF dotF namedF callF listF shapeF)
/-- The nodes of an expression, put behind what there are. -/
def exB : ExA → List Nd → Int × List Nd
  | .num, M => put ⟨11, 1, [], [], [], []⟩ M
  | .var c, M => put (leaf 16 [lett c]) M
  | .tag c, M => put (leaf 12 [lett c]) M
  | .null, M => put (leaf 15 []) M
  | .yes, M => put (leaf 13 []) M
  | .empty, M => put ⟨17, 0, [], [], [], []⟩ M
  | .pair a b, M => put ⟨17, 0, [], [], [[97], [98]], [(exB a M).1, (exB b (exB a M).2).1]⟩ (exB b (exB a M).2).2
  | .call c a b, M => put ⟨19, 0, [], [lett c], [], [(exB a M).1, (exB b (exB a M).2).1]⟩ (exB b (exB a M).2).2
  | .away c t, M => put ⟨19, 1, [lett c], [102], [], [(typT t M).1]⟩ (typT t M).2
  | .ite a b c, M => put ⟨20, 0, [], [], [], [(exB a M).1, (exB b (exB a M).2).1, (exB c (exB b (exB a M).2).2).1]⟩ (exB c (exB b (exB a M).2).2).2
  | .letx a b, M => put ⟨22, 0, [], [120], [], [(exB a M).1, (exB b (exB a M).2).1]⟩ (exB b (exB a M).2).2
  | .op a b c, M => put ⟨23, 0, [], [61, 61], [], [((exB b (exB a M).2).2.length : Int), (exB c ((exB b (exB a M).2).2 ++ [⟨23, 0, [], [43], [], [(exB a M).1, (exB b (exB a M).2).1]⟩])).1]⟩ (exB c ((exB b (exB a M).2).2 ++ [⟨23, 0, [], [43], [], [(exB a M).1, (exB b (exB a M).2).1]⟩])).2
  | .cast a t, M => put ⟨24, 0, [], [], [], [(exB a M).1, (typT t (exB a M).2).1]⟩ (typT t (exB a M).2).2
  | .isx, M => put ⟨21, 0, [], [39, 98], [], [((M ++ [leaf 16 [120]]).length : Int)]⟩ ((M ++ [leaf 16 [120]]) ++ [⟨18, 0, [], [97], [], [(M.length : Int)]⟩])
def ExA.h (p : Nat) : ExA → Nat
  | .pair a b => p + (max (a.h p) (b.h p) + 1)
  | .call _ a b => p + (max (a.h p) (b.h p) + 1)
  | .away _ t => p + (t.h + 1)
  | .ite a b c => p + (max (max (a.h p) (b.h p)) (c.h p) + 2)
  | .letx a b => p + (max (a.h p) (b.h p) + 2)
  | .op a b c => p + (max (max (a.h p) (b.h p)) (c.h p) + 1)
  | .cast a t => p + (max (a.h p) t.h + 1)
  | _ => p + 1
def ExA.size : ExA → Nat
  | .pair a b => a.size + b.size + 1
  | .call _ a b => a.size + b.size + 1
  | .away _ t => t.size + 2
  | .ite a b c => a.size + b.size + c.size + 1
  | .letx a b => a.size + b.size + 1
  | .op a b c => a.size + b.size + c.size + 2
  | .cast a t => a.size + t.size + 2
  | .isx => 3
  | _ => 1
def ExA.few : ExA → Prop
  | .pair a b => a.few ∧ b.few
  | .call _ a b => a.few ∧ b.few
  | .away _ t => t.few ∧ t.cnt ≤ 15
  | .ite a b c => a.few ∧ b.few ∧ c.few
  | .letx a b => a.few ∧ b.few
  | .op a b c => a.few ∧ b.few ∧ c.few
  | .cast a t => a.few ∧ t.few ∧ t.cnt ≤ 15
  | _ => True
theorem put_len (n : Nd) (M : List Nd) : (put n M).2.length = M.length + 1 := by simp [put]
theorem exB_le : ∀ (e : ExA) (M : List Nd), (exB e M).2.length ≤ M.length + e.size
  | .num, M => by unfold exB ExA.size; rw [put_len]; omega
  | .var _, M => by unfold exB ExA.size; rw [put_len]; omega
  | .tag _, M => by unfold exB ExA.size; rw [put_len]; omega
  | .null, M => by unfold exB ExA.size; rw [put_len]; omega
  | .yes, M => by unfold exB ExA.size; rw [put_len]; omega
  | .empty, M => by unfold exB ExA.size; rw [put_len]; omega
  | .pair a b, M => by
    have h1 := exB_le a M
    have h2 := exB_le b (exB a M).2
    unfold exB ExA.size; rw [put_len]; omega
  | .call c a b, M => by
    have h1 := exB_le a M
    have h2 := exB_le b (exB a M).2
    unfold exB ExA.size; rw [put_len]; omega
  | .away c t, M => by
    have h1 := typT_le t M
    unfold exB ExA.size; rw [put_len]; omega
  | .ite a b c, M => by
    have h1 := exB_le a M
    have h2 := exB_le b (exB a M).2
    have h3 := exB_le c (exB b (exB a M).2).2
    unfold exB ExA.size; rw [put_len]; omega
  | .letx a b, M => by
    have h1 := exB_le a M
    have h2 := exB_le b (exB a M).2
    unfold exB ExA.size; rw [put_len]; omega
  | .op a b c, M => by
    have h1 := exB_le a M
    have h2 := exB_le b (exB a M).2
    have h3 := exB_le c ((exB b (exB a M).2).2 ++ [⟨23, 0, [], [43], [], [(exB a M).1, (exB b (exB a M).2).1]⟩])
    rw [List.length_append, List.length_cons, List.length_nil] at h3
    unfold exB ExA.size; rw [put_len]; omega
  | .cast a t, M => by
    have h1 := exB_le a M
    have h2 := typT_le t (exB a M).2
    unfold exB ExA.size; rw [put_len]; omega
  | .isx, M => by unfold exB ExA.size; rw [put_len]; simp only [List.length_append, List.length_cons, List.length_nil]; omega
section
variable {L : List Wd}
/-- What may not stand behind an atom; behind an expression. -/
structure Fol (L : List Wd) (k : Nat) : Prop where
  dot : isW L [46] k = false
  far : isW L [58, 58] k = false
  br : isW L [91] k = false
  par : isW L [40] k = false
structure FolE (L : List Wd) (k : Nat) : Prop where
  plus : isW L [43] k = false
  lt : isW L [60] k = false
  eq : isW L [61, 61] k = false
  is_ : isW L [105, 115] k = false
theorem isW_not {k : Nat} {x m : Int} {t s : Bs} (h : kw (now L k) = (x, t, m)) (ht : t ≠ s) : isW L s k = false := by
  rw [isW_at h, decide_eq_false (p := t = s) ht, Bool.and_false]
theorem fol_at {k : Nat} {x m : Int} {t : Bs} (h : kw (now L k) = (x, t, m)) (ht : t ∉ ([[46], [58, 58], [91], [40]] : List Bs)) : Fol L k := by
  simp only [List.mem_cons, List.not_mem_nil, or_false, not_or] at ht
  obtain ⟨h1, h2, h3, h4⟩ := ht
  exact ⟨isW_not h h1, isW_not h h2, isW_not h h3, isW_not h h4⟩
theorem folE_at {k : Nat} {x m : Int} {t : Bs} (h : kw (now L k) = (x, t, m)) (ht : t ∉ ([[43], [60], [61, 61], [105, 115]] : List Bs)) : FolE L k := by
  simp only [List.mem_cons, List.not_mem_nil, or_false, not_or] at ht
  obtain ⟨h1, h2, h3, h4⟩ := ht
  exact ⟨isW_not h h1, isW_not h h2, isW_not h h3, isW_not h h4⟩
/-- An atom is read. -/
def AtomR (L : List Wd) (ws : List Kw) (h sz : Nat) (B : List Nd → Int × List Nd) : Prop := ∀ k, At L k ws → Fol L (k + ws.length) → ∀ (f : Nat) (d : Int) (M : List Nd), 8 * ws.length ≤ f + 4 → d + h ≤ 60 → M.length + sz ≤ 4000 → atomF L f d k M = .ok ((B M).1, k + ws.length, (B M).2)
/-- Words that an expression may begin with. -/
def okHead (w : Kw) : Prop := (w.1 = 6 ∨ w.1 = 5) → w.2.1 ∉ ([[108, 101, 116], [105, 102], [41], [125]] : List Bs)
def HeadE (ws : List Kw) : Prop := ∃ w vs, ws = w :: vs ∧ okHead w
theorem HeadE.no {ws : List Kw} (h : HeadE ws) {k : Nat} (hA : At L k ws) {s : Bs} (hs : s ∈ ([[108, 101, 116], [105, 102], [41], [125]] : List Bs)) : isW L s k = false := by
  obtain ⟨⟨x, t, m⟩, vs, rfl, hw⟩ := h
  have hk := hA.cons.1
  rw [isW_at hk]
  by_cases hx : x = 6 ∨ x = 5
  · have := hw hx
    rw [decide_eq_false (p := t = s) (fun e => this (by show t ∈ _; rw [e]; exact hs)), Bool.and_false]
  · rw [decide_eq_false (fun e => hx (.inl e)), decide_eq_false (fun e => hx (.inr e))]
    rfl
variable {ws : List Kw} {h sz : Nat} {B : List Nd → Int × List Nd}
theorem prim_of (hR : AtomR L ws h sz B) {k : Nat} (hA : At L k ws) (hF : Fol L (k + ws.length)) {f : Nat} {d : Int} {M : List Nd} (hl : 0 < ws.length) (hf : 8 * ws.length ≤ f + 3) (hd : d + h ≤ 60) (hM : M.length + sz ≤ 4000) : primF L f d k M = .ok ((B M).1, k + ws.length, (B M).2) := by
  obtain ⟨f, rfl⟩ : ∃ g, f = g + 2 := ⟨f - 2, by omega⟩
  rw [primF, bind_at (hR k hA hF (f + 1) d M (by omega) hd hM), dotF, if_neg (by rw [hF.dot]; decide)]
theorem expr_of (hR : AtomR L ws h sz B) (hH : HeadE ws) {k : Nat} (hA : At L k ws) (hF : Fol L (k + ws.length)) (hE : FolE L (k + ws.length)) {f : Nat} {d : Int} {M : List Nd} (hl : 0 < ws.length) (hf : 8 * ws.length ≤ f + 2) (hd : d + h ≤ 60) (hM : M.length + sz ≤ 4000) : exprF L f d k M = .ok ((B M).1, k + ws.length, (B M).2) := by
  obtain ⟨f, rfl⟩ : ∃ g, f = g + 2 := ⟨f - 2, by omega⟩
  rw [exprF, bind_at (deep_at (by omega) k M), if_neg (by rw [hH.no hA (by decide)]; decide), if_neg (by rw [hH.no hA (by decide)]; decide), bind_at (prim_of hR hA hF hl (by omega) hd hM)]
  rw [sumF, if_neg (by rw [hE.plus, hE.lt, hE.eq]; decide), bind_at rfl, if_neg (by rw [hE.is_]; decide)]
theorem wrap_read (hR : AtomR L ws h sz B) (hH : HeadE ws) : ∀ p, AtomR L (wrapW p ws) (p + h) sz B ∧ HeadE (wrapW p ws)
  | 0 => by
    rw [show wrapW 0 ws = ws by simp [wrapW], Nat.zero_add]
    exact ⟨hR, hH⟩
  | p + 1 => by
    obtain ⟨ih, ihH⟩ := wrap_read hR hH p
    rw [wrapW_succ]
    refine ⟨fun k hA hF f d M hf hd hM => ?_, ⟨_, _, rfl, fun _ => by decide⟩⟩
    obtain ⟨hA1, hA⟩ := hA.app
    obtain ⟨hA2, hA3⟩ := hA.app
    obtain ⟨q1, _⟩ := hA1.cons
    obtain ⟨q3, _⟩ := hA3.cons
    have hl : 0 < (wrapW p ws).length := by
      obtain ⟨w, vs, e, _⟩ := ihH
      rw [e]; simp
    simp only [List.length_append, List.length_cons, List.length_nil, Nat.zero_add] at *
    obtain ⟨f, rfl⟩ : ∃ g, f = g + 1 := ⟨f - 1, by omega⟩
    obtain ⟨h1, h2, _⟩ := kw_parts q1
    rw [atomF]
    rw [if_neg (fun h => by rw [h1] at h; exact absurd h.1 (by decide)), if_neg (fun h => by rw [h1] at h; exact absurd h (by decide)), if_neg (fun h => by rw [h1] at h; exact absurd h (by decide)), if_neg (fun h => by rw [h1] at h; exact absurd h (by decide)), if_neg (by rw [isW_sg q1]; decide), if_pos (by rw [isW_sg q1]; rfl)]
    rw [bind_at (expr_of ih ihH hA2 (fol_at q3 (by decide)) (folE_at q3 (by decide)) hl (by omega) (by omega) hM)]
    rw [if_neg (by rw [isW_sg q3]; decide), bind_at (must_at (by rw [isW_sg q3]; rfl) _)]
    rw [show k + 1 + (wrapW p ws).length + 1 = k + (1 + ((wrapW p ws).length + 1)) by omega]
/-- What an atom that is one word gives. -/
theorem one_read {w : Kw} {n : Nd} (hw : ∀ k f d M, kw (now L k) = w → Fol L (k + 1) → 4 ≤ f → atomF L f d k M = node L n (k + 1) M) (h sz : Nat) (hsz : 1 ≤ sz) : AtomR L [w] h sz (put n) := by
  intro k hA hF f d M hf _ hM
  have hf : 8 * 1 ≤ f + 4 := hf
  rw [hw k f d M hA.cons.1 hF (by omega), node_at (by omega)]
  rfl
end
end Go.Proofs.YtmgjmagniefhoaaGreatDoor

/- Made expressions are read, all of them. No program is walked here. -/
namespace Go.Proofs.YtmgjmagniefhoaaGreatDoor
open Lx (Bs Wd)
open Tr (Nd leaf plainT plainE partF altF typF fieldsF fieldF failA node room must word fresh deep isW now kw exprF primF atomF sumF dotF namedF callF listF shapeF)
theorem ExA.len_pos (p : Nat) (e : ExA) : 0 < (e.words p).length := by
  obtain ⟨w, ws, h⟩ := e.words_ne p
  rw [h]
  simp
section
variable {L : List Wd}
theorem num_read : AtomR L [(3, [49], 1)] 1 1 (exB .num) := by
  refine one_read (n := ⟨11, 1, [], [], [], []⟩) (fun k f d M hk _ hf => ?_) 1 1 (Nat.le_refl _)
  obtain ⟨f, rfl⟩ : ∃ g, f = g + 1 := ⟨f - 1, by omega⟩
  obtain ⟨h1, h2, h3⟩ := kw_parts hk
  rw [atomF]
  rw [if_neg (fun h => by rw [h1] at h; exact absurd h.1 (by decide)), if_pos h1, h3]
theorem var_read (c : Nat) : AtomR L [(1, [lett c], 0)] 1 1 (exB (.var c)) := by
  refine one_read (n := leaf 16 [lett c]) (fun k f d M hk hF hf => ?_) 1 1 (Nat.le_refl _)
  obtain ⟨f, rfl⟩ : ∃ g, f = g + 2 := ⟨f - 2, by omega⟩
  obtain ⟨h1, h2, h3⟩ := kw_parts hk
  rw [atomF]
  rw [if_neg (fun h => by rw [h1] at h; exact absurd h.1 (by decide)), if_neg (fun h => by rw [h1] at h; exact absurd h (by decide)), if_neg (fun h => by rw [h1] at h; exact absurd h (by decide)), if_pos h1, h2]
  rw [namedF, if_neg (by rw [hF.far]; decide), if_neg (by rw [hF.br, hF.par]; decide)]
theorem tag_read (c : Nat) : AtomR L [(4, [lett c], 0)] 1 1 (exB (.tag c)) := by
  refine one_read (n := leaf 12 [lett c]) (fun k f d M hk hF hf => ?_) 1 1 (Nat.le_refl _)
  obtain ⟨f, rfl⟩ : ∃ g, f = g + 1 := ⟨f - 1, by omega⟩
  obtain ⟨h1, h2, h3⟩ := kw_parts hk
  rw [atomF]
  rw [if_neg (fun h => by rw [h1] at h; exact absurd h.1 (by decide)), if_neg (fun h => by rw [h1] at h; exact absurd h (by decide)), if_pos h1, h2]
theorem null_read : AtomR L [(5, [110, 117, 108, 108], 0)] 1 1 (exB .null) := by
  refine one_read (n := leaf 15 []) (fun k f d M hk hF hf => ?_) 1 1 (Nat.le_refl _)
  obtain ⟨f, rfl⟩ : ∃ g, f = g + 1 := ⟨f - 1, by omega⟩
  obtain ⟨h1, h2, h3⟩ := kw_parts hk
  rw [atomF]
  rw [if_pos ⟨h1, by rw [h2]; decide⟩, h2]
  rfl
theorem yes_read : AtomR L [(5, [116, 114, 117, 101], 0)] 1 1 (exB .yes) := by
  refine one_read (n := leaf 13 []) (fun k f d M hk hF hf => ?_) 1 1 (Nat.le_refl _)
  obtain ⟨f, rfl⟩ : ∃ g, f = g + 1 := ⟨f - 1, by omega⟩
  obtain ⟨h1, h2, h3⟩ := kw_parts hk
  rw [atomF]
  rw [if_pos ⟨h1, by rw [h2]; decide⟩, h2]
  rfl
/-- An atom that begins with a sign of one byte. -/
theorem atom_brace {k f : Nat} {d : Int} {M : List Nd} (hk : kw (now L k) = sg 123) : atomF L (f + 1) d k M = fieldsF L f false d (k + 1) M := by
  obtain ⟨h1, h2, _⟩ := kw_parts hk
  rw [atomF]
  rw [if_neg (fun h => by rw [h1] at h; exact absurd h.1 (by decide)), if_neg (fun h => by rw [h1] at h; exact absurd h (by decide)), if_neg (fun h => by rw [h1] at h; exact absurd h (by decide)), if_neg (fun h => by rw [h1] at h; exact absurd h (by decide)), if_pos (by rw [isW_sg hk]; rfl)]
theorem atom_par {k f k' : Nat} {d n : Int} {M M' : List Nd} (hk : kw (now L k) = sg 40) (he : exprF L f (d + 1) (k + 1) M = .ok (n, k', M')) (hc : kw (now L k') = sg 41) : atomF L (f + 1) d k M = .ok (n, k' + 1, M') := by
  obtain ⟨h1, h2, _⟩ := kw_parts hk
  rw [atomF]
  rw [if_neg (fun h => by rw [h1] at h; exact absurd h.1 (by decide)), if_neg (fun h => by rw [h1] at h; exact absurd h (by decide)), if_neg (fun h => by rw [h1] at h; exact absurd h (by decide)), if_neg (fun h => by rw [h1] at h; exact absurd h (by decide)), if_neg (by rw [isW_sg hk]; decide), if_pos (by rw [isW_sg hk]; rfl)]
  rw [bind_at he, if_neg (by rw [isW_sg hc]; decide), bind_at (must_at (by rw [isW_sg hc]; rfl) _)]
theorem atom_as {k f k' k2 : Nat} {d n t : Int} {M M' M2 : List Nd} (hk : kw (now L k) = sg 40) (he : exprF L f (d + 1) (k + 1) M = .ok (n, k', M')) (ha : kw (now L k') = (5, [97, 115], 0)) (ht : typF L f (d + 1) (k' + 1) M' = .ok (t, k2, M2)) (hc : kw (now L k2) = sg 41) (h4 : M2.length < 4000) : atomF L (f + 1) d k M = .ok ((M2.length : Int), k2 + 1, M2 ++ [⟨24, 0, [], [], [], [n, t]⟩]) := by
  obtain ⟨h1, h2, _⟩ := kw_parts hk
  rw [atomF]
  rw [if_neg (fun h => by rw [h1] at h; exact absurd h.1 (by decide)), if_neg (fun h => by rw [h1] at h; exact absurd h (by decide)), if_neg (fun h => by rw [h1] at h; exact absurd h (by decide)), if_neg (fun h => by rw [h1] at h; exact absurd h (by decide)), if_neg (by rw [isW_sg hk]; decide), if_pos (by rw [isW_sg hk]; rfl)]
  rw [bind_at he, if_pos (by rw [isW_at ha]; rfl), bind_at ht, bind_at (must_at (by rw [isW_sg hc]; rfl) _), node_at h4]
theorem atom_name {k f : Nat} {d : Int} {M : List Nd} {t : Bs} (hk : kw (now L k) = (1, t, 0)) : atomF L (f + 1) d k M = namedF L f d t (k + 1) M := by
  obtain ⟨h1, h2, _⟩ := kw_parts hk
  rw [atomF]
  rw [if_neg (fun h => by rw [h1] at h; exact absurd h.1 (by decide)), if_neg (fun h => by rw [h1] at h; exact absurd h (by decide)), if_neg (fun h => by rw [h1] at h; exact absurd h (by decide)), if_pos h1, h2]
theorem empty_read : AtomR L [sg 123, sg 125] 1 1 (exB .empty) := by
  intro k hA hF f d M hf _ hM
  obtain ⟨q1, hA⟩ := hA.cons
  obtain ⟨q2, _⟩ := hA.cons
  have hf : 8 * 2 ≤ f + 4 := hf
  obtain ⟨f, rfl⟩ : ∃ g, f = g + 2 := ⟨f - 2, by omega⟩
  rw [atom_brace q1, fieldsF, if_pos (by rw [isW_sg q2]; rfl), node_at (by omega)]
  rfl
theorem pair_read {a b : ExA} {p : Nat} (ha : AtomR L (a.words p) (a.h p) a.size (exB a) ∧ HeadE (a.words p)) (hb : AtomR L (b.words p) (b.h p) b.size (exB b) ∧ HeadE (b.words p)) :
    AtomR L ([sg 123, (1, [97], 0), sg 58] ++ (a.words p ++ ([sg 44, (1, [98], 0), sg 58] ++ (b.words p ++ [sg 125])))) (max (a.h p) (b.h p) + 1) (ExA.pair a b).size (exB (.pair a b)) := by
  intro k hA hF f d M hf hd hM
  obtain ⟨hA1, hA⟩ := hA.app
  obtain ⟨hAa, hA⟩ := hA.app
  obtain ⟨hA2, hA⟩ := hA.app
  obtain ⟨hAb, hA3⟩ := hA.app
  obtain ⟨p1, hA1⟩ := hA1.cons
  obtain ⟨p2, hA1⟩ := hA1.cons
  obtain ⟨p3, _⟩ := hA1.cons
  obtain ⟨q1, hA2⟩ := hA2.cons
  obtain ⟨q2, hA2⟩ := hA2.cons
  obtain ⟨q3, _⟩ := hA2.cons
  obtain ⟨z1, _⟩ := hA3.cons
  have la := a.len_pos p
  have lb := b.len_pos p
  have m1 := exB_le a M
  have m2 := exB_le b (exB a M).2
  simp only [List.length_append, List.length_cons, List.length_nil, Nat.zero_add] at *
  unfold ExA.size at hM
  obtain ⟨f, rfl⟩ : ∃ g, f = g + 6 := ⟨f - 6, by omega⟩
  have ea := expr_of ha.1 ha.2 (k := k + (1 + 1 + 1)) hAa (fol_at q1 (by decide)) (folE_at q1 (by decide)) la (f := f + 3) (d := d + 1) (M := M) (by omega) (by omega) (by omega)
  have eb := expr_of hb.1 hb.2 (k := k + (1 + 1 + 1) + (a.words p).length + (1 + 1 + 1)) hAb (fol_at z1 (by decide)) (folE_at z1 (by decide)) lb (f := f + 2) (d := d + 1) (M := (exB a M).2) (by omega) (by omega) (by omega)
  rw [atom_brace p1, fieldsF, if_neg (by rw [isW_one p2 (by decide)]; decide)]
  rw [bind_at (x := ([[97], [98]], [(exB a M).1, (exB b (exB a M).2).1])) (k := k + (1 + 1 + 1) + (a.words p).length + (1 + 1 + 1) + (b.words p).length) (M := (exB b (exB a M).2).2) ?_]
  · rw [bind_at (must_at (by rw [isW_sg z1]; rfl) _), node_at (by omega)]
    rw [show k + (1 + 1 + 1) + (a.words p).length + (1 + 1 + 1) + (b.words p).length + 1 = k + (1 + 1 + 1 + ((a.words p).length + (1 + 1 + 1 + ((b.words p).length + 1)))) by omega]
    rfl
  · rw [fieldF, bind_at (room_at (by simp only [List.length_nil]; omega) _ _), bind_at (fresh_at p2 (by simp) _), bind_at (must_at (by rw [isW_sg p3]; rfl) _)]
    rw [if_neg (by decide), bind_at ea]
    rw [if_pos (by rw [isW_sg q1]; rfl)]
    rw [fieldF, bind_at (room_at (by simp only [List.nil_append, List.length_cons, List.length_nil]; omega) _ _), bind_at (fresh_at q2 (by decide) _), bind_at (must_at (by rw [isW_sg q3]; rfl) _)]
    rw [if_neg (by decide), show k + (1 + 1 + 1) + (a.words p).length + 1 + 1 + 1 = k + (1 + 1 + 1) + (a.words p).length + (1 + 1 + 1) by omega, bind_at eb]
    rw [if_neg (by rw [isW_sg z1]; decide)]
    rfl
theorem call_read {c : Nat} {a b : ExA} {p : Nat} (ha : AtomR L (a.words p) (a.h p) a.size (exB a) ∧ HeadE (a.words p)) (hb : AtomR L (b.words p) (b.h p) b.size (exB b) ∧ HeadE (b.words p)) :
    AtomR L ([(1, [lett c], 0)] ++ ([sg 40] ++ (a.words p ++ ([sg 44] ++ (b.words p ++ [sg 41]))))) (max (a.h p) (b.h p) + 1) (ExA.call c a b).size (exB (.call c a b)) := by
  intro k hA hF f d M hf hd hM
  obtain ⟨hA0, hA⟩ := hA.app
  obtain ⟨hA1, hA⟩ := hA.app
  obtain ⟨hAa, hA⟩ := hA.app
  obtain ⟨hA2, hA⟩ := hA.app
  obtain ⟨hAb, hA3⟩ := hA.app
  obtain ⟨p0, _⟩ := hA0.cons
  obtain ⟨p1, _⟩ := hA1.cons
  obtain ⟨q1, _⟩ := hA2.cons
  obtain ⟨z1, _⟩ := hA3.cons
  have la := a.len_pos p
  have lb := b.len_pos p
  have m1 := exB_le a M
  have m2 := exB_le b (exB a M).2
  simp only [List.length_append, List.length_cons, List.length_nil, Nat.zero_add] at *
  unfold ExA.size at hM
  obtain ⟨f, rfl⟩ : ∃ g, f = g + 6 := ⟨f - 6, by omega⟩
  have ea := expr_of ha.1 ha.2 (k := k + 1 + 1) hAa (fol_at q1 (by decide)) (folE_at q1 (by decide)) la (f := f + 2) (d := d + 1) (M := M) (by omega) (by omega) (by omega)
  have eb := expr_of hb.1 hb.2 (k := k + 1 + 1 + (a.words p).length + 1) hAb (fol_at z1 (by decide)) (folE_at z1 (by decide)) lb (f := f + 1) (d := d + 1) (M := (exB a M).2) (by omega) (by omega) (by omega)
  rw [atom_name p0, namedF, if_neg (by rw [isW_sg p1]; decide), if_pos (.inr (by rw [isW_sg p1]; rfl)), callF, if_neg (by rw [isW_sg p1]; decide)]
  rw [bind_at rfl, bind_at (must_at (by rw [isW_sg p1]; rfl) _), if_neg (by rw [ha.2.no hAa (by decide)]; decide)]
  rw [bind_at (x := [(exB a M).1, (exB b (exB a M).2).1]) (k := k + 1 + 1 + (a.words p).length + 1 + (b.words p).length) (M := (exB b (exB a M).2).2) ?_]
  · rw [bind_at (must_at (by rw [isW_sg z1]; rfl) _), node_at (by omega)]
    rw [show k + 1 + 1 + (a.words p).length + 1 + (b.words p).length + 1 = k + (1 + (1 + ((a.words p).length + (1 + ((b.words p).length + 1))))) by omega]
    rfl
  · rw [listF, bind_at (room_at (by decide) _ _), if_neg (by decide), bind_at ea, if_pos (by rw [isW_sg q1]; rfl)]
    rw [listF, bind_at (room_at (by decide) _ _), if_neg (by decide), bind_at eb, if_neg (by rw [isW_sg z1]; decide)]
    rfl
theorem away_read {c : Nat} {t : TyA} (ht : t.few) (hc : t.cnt ≤ 15) : AtomR L ([(1, [lett c], 0)] ++ ([(6, [58, 58], 0), (1, [102], 0), sg 91] ++ (t.words ++ [sg 93, sg 40, sg 41]))) (t.h + 1) (ExA.away c t).size (exB (.away c t)) := by
  intro k hA hF f d M hf hd hM
  obtain ⟨hA0, hA⟩ := hA.app
  obtain ⟨hA1, hA⟩ := hA.app
  obtain ⟨hAt, hA3⟩ := hA.app
  obtain ⟨p0, _⟩ := hA0.cons
  obtain ⟨p1, hA1⟩ := hA1.cons
  obtain ⟨p2, hA1⟩ := hA1.cons
  obtain ⟨p3, _⟩ := hA1.cons
  obtain ⟨z1, hA3⟩ := hA3.cons
  obtain ⟨z2, hA3⟩ := hA3.cons
  obtain ⟨z3, _⟩ := hA3.cons
  have m1 := typT_le t M
  have lt := t.cnt_le
  have lp := t.cnt_pos
  simp only [List.length_append, List.length_cons, List.length_nil, Nat.zero_add] at *
  unfold ExA.size at hM
  obtain ⟨f, rfl⟩ : ∃ g, f = g + 6 := ⟨f - 6, by omega⟩
  have et := typ_read t ht hc (k := k + 1 + (1 + 1 + 1)) hAt (by rw [isW_sg z1]; decide) (f := f + 2) (d := d + 1) (M := M) (by omega) (by omega) (by omega)
  rw [atom_name p0, namedF, if_pos (by rw [isW_at p1]; rfl), bind_at (word_at p2 _), callF, if_pos (by rw [isW_sg p3]; rfl)]
  rw [bind_at (x := [(typT t M).1]) (k := k + 1 + (1 + 1 + 1) + t.words.length + 1) (M := (typT t M).2) ?_]
  · rw [bind_at (must_at (by rw [isW_sg z2]; rfl) _), if_pos (by rw [isW_sg z3]; rfl), node_at (by omega)]
    rw [show k + 1 + (1 + 1 + 1) + t.words.length + 1 + 1 + 1 = k + (1 + (1 + 1 + 1 + (t.words.length + (1 + 1 + 1)))) by omega]
    rfl
  · rw [bind_at (x := [(typT t M).1]) (k := k + 1 + (1 + 1 + 1) + t.words.length) (M := (typT t M).2) ?_]
    · rw [bind_at (must_at (by rw [isW_sg z1]; rfl) _)]
    · rw [listF, bind_at (room_at (by decide) _ _), if_pos rfl, bind_at et, if_neg (by rw [isW_sg z1]; decide)]
      rfl
theorem ite_read {a b c : ExA} {p : Nat} (ha : AtomR L (a.words p) (a.h p) a.size (exB a) ∧ HeadE (a.words p)) (hb : AtomR L (b.words p) (b.h p) b.size (exB b) ∧ HeadE (b.words p)) (hc : AtomR L (c.words p) (c.h p) c.size (exB c) ∧ HeadE (c.words p)) :
    AtomR L ([sg 40, (5, [105, 102], 0)] ++ (a.words p ++ ([(5, [116, 104, 101, 110], 0)] ++ (b.words p ++ ([(5, [101, 108, 115, 101], 0)] ++ (c.words p ++ [sg 41])))))) (max (max (a.h p) (b.h p)) (c.h p) + 2) (ExA.ite a b c).size (exB (.ite a b c)) := by
  intro k hA hF f d M hf hd hM
  obtain ⟨hA1, hA⟩ := hA.app
  obtain ⟨hAa, hA⟩ := hA.app
  obtain ⟨hA2, hA⟩ := hA.app
  obtain ⟨hAb, hA⟩ := hA.app
  obtain ⟨hA4, hA⟩ := hA.app
  obtain ⟨hAc, hA3⟩ := hA.app
  obtain ⟨p1, hA1⟩ := hA1.cons
  obtain ⟨p2, _⟩ := hA1.cons
  obtain ⟨q1, _⟩ := hA2.cons
  obtain ⟨r1, _⟩ := hA4.cons
  obtain ⟨z1, _⟩ := hA3.cons
  have la := a.len_pos p
  have lb := b.len_pos p
  have lc := c.len_pos p
  have m1 := exB_le a M
  have m2 := exB_le b (exB a M).2
  have m3 := exB_le c (exB b (exB a M).2).2
  simp only [List.length_append, List.length_cons, List.length_nil, Nat.zero_add] at *
  unfold ExA.size at hM
  obtain ⟨f, rfl⟩ : ∃ g, f = g + 6 := ⟨f - 6, by omega⟩
  have ea := expr_of ha.1 ha.2 (k := k + (1 + 1)) hAa (fol_at q1 (by decide)) (folE_at q1 (by decide)) la (f := f + 4) (d := d + 1 + 1) (M := M) (by omega) (by omega) (by omega)
  have eb := expr_of hb.1 hb.2 (k := k + (1 + 1) + (a.words p).length + 1) hAb (fol_at r1 (by decide)) (folE_at r1 (by decide)) lb (f := f + 4) (d := d + 1 + 1) (M := (exB a M).2) (by omega) (by omega) (by omega)
  have ec := expr_of hc.1 hc.2 (k := k + (1 + 1) + (a.words p).length + 1 + (b.words p).length + 1) hAc (fol_at z1 (by decide)) (folE_at z1 (by decide)) lc (f := f + 4) (d := d + 1 + 1) (M := (exB b (exB a M).2).2) (by omega) (by omega) (by omega)
  rw [atom_par (n := (exB (.ite a b c) M).1) (k' := k + (1 + 1) + (a.words p).length + 1 + (b.words p).length + 1 + (c.words p).length) (M' := (exB (.ite a b c) M).2) p1 ?_ z1]
  · rw [show k + (1 + 1) + (a.words p).length + 1 + (b.words p).length + 1 + (c.words p).length + 1 = k + (1 + 1 + ((a.words p).length + (1 + ((b.words p).length + (1 + ((c.words p).length + 1)))))) by omega]
  · rw [exprF, bind_at (deep_at (by omega) _ _), if_neg (by rw [isW_at p2]; decide), if_pos (by rw [isW_at p2]; rfl)]
    rw [bind_at ea, bind_at (must_at (by rw [isW_at q1]; rfl) _), bind_at eb, bind_at (must_at (by rw [isW_at r1]; rfl) _), bind_at ec, node_at (by omega)]
    rfl
theorem let_read {a b : ExA} {p : Nat} (ha : AtomR L (a.words p) (a.h p) a.size (exB a) ∧ HeadE (a.words p)) (hb : AtomR L (b.words p) (b.h p) b.size (exB b) ∧ HeadE (b.words p)) :
    AtomR L ([sg 40, (5, [108, 101, 116], 0), (1, [120], 0), sg 61] ++ (a.words p ++ ([(5, [105, 110], 0)] ++ (b.words p ++ [sg 41])))) (max (a.h p) (b.h p) + 2) (ExA.letx a b).size (exB (.letx a b)) := by
  intro k hA hF f d M hf hd hM
  obtain ⟨hA1, hA⟩ := hA.app
  obtain ⟨hAa, hA⟩ := hA.app
  obtain ⟨hA2, hA⟩ := hA.app
  obtain ⟨hAb, hA3⟩ := hA.app
  obtain ⟨p1, hA1⟩ := hA1.cons
  obtain ⟨p2, hA1⟩ := hA1.cons
  obtain ⟨p3, hA1⟩ := hA1.cons
  obtain ⟨p4, _⟩ := hA1.cons
  obtain ⟨q1, _⟩ := hA2.cons
  obtain ⟨z1, _⟩ := hA3.cons
  have la := a.len_pos p
  have lb := b.len_pos p
  have m1 := exB_le a M
  have m2 := exB_le b (exB a M).2
  simp only [List.length_append, List.length_cons, List.length_nil, Nat.zero_add] at *
  unfold ExA.size at hM
  obtain ⟨f, rfl⟩ : ∃ g, f = g + 6 := ⟨f - 6, by omega⟩
  have ea := expr_of ha.1 ha.2 (k := k + (1 + 1 + 1 + 1)) hAa (fol_at q1 (by decide)) (folE_at q1 (by decide)) la (f := f + 4) (d := d + 1 + 1) (M := M) (by omega) (by omega) (by omega)
  have eb := expr_of hb.1 hb.2 (k := k + (1 + 1 + 1 + 1) + (a.words p).length + 1) hAb (fol_at z1 (by decide)) (folE_at z1 (by decide)) lb (f := f + 4) (d := d + 1 + 1) (M := (exB a M).2) (by omega) (by omega) (by omega)
  rw [atom_par (n := (exB (.letx a b) M).1) (k' := k + (1 + 1 + 1 + 1) + (a.words p).length + 1 + (b.words p).length) (M' := (exB (.letx a b) M).2) p1 ?_ z1]
  · rw [show k + (1 + 1 + 1 + 1) + (a.words p).length + 1 + (b.words p).length + 1 = k + (1 + 1 + 1 + 1 + ((a.words p).length + (1 + ((b.words p).length + 1)))) by omega]
  · rw [exprF, bind_at (deep_at (by omega) _ _), if_pos (by rw [isW_at p2]; rfl)]
    rw [bind_at (word_at p3 _), bind_at (must_at (by rw [isW_sg p4]; rfl) _), bind_at ea, bind_at (must_at (by rw [isW_at q1]; rfl) _), bind_at eb, node_at (by omega)]
    rfl
theorem op_read {a b c : ExA} {p : Nat} (ha : AtomR L (a.words p) (a.h p) a.size (exB a) ∧ HeadE (a.words p)) (hb : AtomR L (b.words p) (b.h p) b.size (exB b) ∧ HeadE (b.words p)) (hc : AtomR L (c.words p) (c.h p) c.size (exB c) ∧ HeadE (c.words p)) :
    AtomR L ([sg 40] ++ (a.words p ++ ([sg 43] ++ (b.words p ++ ([(6, [61, 61], 0)] ++ (c.words p ++ [sg 41])))))) (max (max (a.h p) (b.h p)) (c.h p) + 1) (ExA.op a b c).size (exB (.op a b c)) := by
  intro k hA hF f d M hf hd hM
  obtain ⟨hA1, hA⟩ := hA.app
  obtain ⟨hAa, hA⟩ := hA.app
  obtain ⟨hA2, hA⟩ := hA.app
  obtain ⟨hAb, hA⟩ := hA.app
  obtain ⟨hA4, hA⟩ := hA.app
  obtain ⟨hAc, hA3⟩ := hA.app
  obtain ⟨p1, _⟩ := hA1.cons
  obtain ⟨q1, _⟩ := hA2.cons
  obtain ⟨r1, _⟩ := hA4.cons
  obtain ⟨z1, _⟩ := hA3.cons
  have la := a.len_pos p
  have lb := b.len_pos p
  have lc := c.len_pos p
  have m1 := exB_le a M
  have m2 := exB_le b (exB a M).2
  have m3 := exB_le c ((exB b (exB a M).2).2 ++ [⟨23, 0, [], [43], [], [(exB a M).1, (exB b (exB a M).2).1]⟩])
  simp only [List.length_append, List.length_cons, List.length_nil, Nat.zero_add] at *
  unfold ExA.size at hM
  obtain ⟨f, rfl⟩ : ∃ g, f = g + 6 := ⟨f - 6, by omega⟩
  have ea := prim_of ha.1 (k := k + 1) hAa (fol_at q1 (by decide)) (f := f + 4) (d := d + 1) (M := M) la (by omega) (by omega) (by omega)
  have eb := prim_of hb.1 (k := k + 1 + (a.words p).length + 1) hAb (fol_at r1 (by decide)) (f := f + 3) (d := d + 1) (M := (exB a M).2) lb (by omega) (by omega) (by omega)
  have ec := prim_of hc.1 (k := k + 1 + (a.words p).length + 1 + (b.words p).length + 1) hAc (fol_at z1 (by decide)) (f := f + 2) (d := d + 1) (M := (exB b (exB a M).2).2 ++ [⟨23, 0, [], [43], [], [(exB a M).1, (exB b (exB a M).2).1]⟩]) lc (by omega) (by omega) (by simp only [List.length_append, List.length_cons, List.length_nil]; omega)
  obtain ⟨t1, t2, _⟩ := kw_parts q1
  obtain ⟨u1, u2, _⟩ := kw_parts r1
  rw [atom_par (n := (exB (.op a b c) M).1) (k' := k + 1 + (a.words p).length + 1 + (b.words p).length + 1 + (c.words p).length) (M' := (exB (.op a b c) M).2) p1 ?_ z1]
  · rw [show k + 1 + (a.words p).length + 1 + (b.words p).length + 1 + (c.words p).length + 1 = k + (1 + ((a.words p).length + (1 + ((b.words p).length + (1 + ((c.words p).length + 1)))))) by omega]
  · rw [exprF, bind_at (deep_at (by omega) _ _), if_neg (by rw [ha.2.no hAa (by decide)]; decide), if_neg (by rw [ha.2.no hAa (by decide)]; decide)]
    rw [bind_at ea, sumF, if_pos (by rw [isW_sg q1]; rfl), bind_at eb, bind_at (node_at (by omega) _ _), t2]
    rw [sumF, if_pos (by rw [isW_at r1, isW_at r1, isW_at r1]; rfl), bind_at ec, bind_at (node_at (by omega) _ _)]
    rw [sumF, if_neg (by rw [isW_sg z1, isW_sg z1, isW_sg z1]; decide), bind_at rfl, if_neg (by rw [isW_sg z1]; decide), u2]
    rfl
theorem cast_read {a : ExA} {t : TyA} {p : Nat} (ha : AtomR L (a.words p) (a.h p) a.size (exB a) ∧ HeadE (a.words p)) (ht : t.few) (hc : t.cnt ≤ 15) :
    AtomR L ([sg 40] ++ (a.words p ++ ([(5, [97, 115], 0)] ++ (t.words ++ [sg 41])))) (max (a.h p) t.h + 1) (ExA.cast a t).size (exB (.cast a t)) := by
  intro k hA hF f d M hf hd hM
  obtain ⟨hA1, hA⟩ := hA.app
  obtain ⟨hAa, hA⟩ := hA.app
  obtain ⟨hA2, hA⟩ := hA.app
  obtain ⟨hAt, hA3⟩ := hA.app
  obtain ⟨p1, _⟩ := hA1.cons
  obtain ⟨q1, _⟩ := hA2.cons
  obtain ⟨z1, _⟩ := hA3.cons
  have la := a.len_pos p
  have m1 := exB_le a M
  have m2 := typT_le t (exB a M).2
  simp only [List.length_append, List.length_cons, List.length_nil, Nat.zero_add] at *
  unfold ExA.size at hM
  obtain ⟨f, rfl⟩ : ∃ g, f = g + 6 := ⟨f - 6, by omega⟩
  have ea := expr_of ha.1 ha.2 (k := k + 1) hAa (fol_at q1 (by decide)) (folE_at q1 (by decide)) la (f := f + 5) (d := d + 1) (M := M) (by omega) (by omega) (by omega)
  have et := typ_read t ht hc (k := k + 1 + (a.words p).length + 1) hAt (by rw [isW_sg z1]; decide) (f := f + 5) (d := d + 1) (M := (exB a M).2) (by omega) (by omega) (by omega)
  rw [atom_as p1 ea q1 et z1 (by omega)]
  rw [show k + 1 + (a.words p).length + 1 + t.words.length + 1 = k + (1 + ((a.words p).length + (1 + (t.words.length + 1)))) by omega]
  rfl
theorem isx_read : AtomR L [sg 40, (1, [120], 0), sg 46, (1, [97], 0), (5, [105, 115], 0), (4, [98], 0), sg 41] 1 3 (exB .isx) := by
  intro k hA hF f d M hf hd hM
  obtain ⟨p1, hA⟩ := hA.cons
  obtain ⟨p2, hA⟩ := hA.cons
  obtain ⟨p3, hA⟩ := hA.cons
  obtain ⟨p4, hA⟩ := hA.cons
  obtain ⟨p5, hA⟩ := hA.cons
  obtain ⟨p6, hA⟩ := hA.cons
  obtain ⟨p7, _⟩ := hA.cons
  have hf : 8 * 7 ≤ f + 4 := hf
  obtain ⟨f, rfl⟩ : ∃ g, f = g + 9 := ⟨f - 9, by omega⟩
  obtain ⟨h1, h2, _⟩ := kw_parts p6
  have hx : atomF L (f + 6) (d + 1) (k + 1) M = .ok ((M.length : Int), k + 1 + 1, M ++ [leaf 16 [120]]) := by
    rw [show f + 6 = (f + 5) + 1 from rfl, atom_name p2, show f + 5 = (f + 4) + 1 from rfl, namedF, if_neg (by rw [isW_sg p3]; decide), if_neg (by rw [isW_sg p3, isW_sg p3]; decide), node_at (by omega)]
  rw [atom_par (f := f + 8) (n := (exB .isx M).1) (k' := k + 6) (M' := (exB .isx M).2) p1 ?_ p7]
  · rfl
  · rw [exprF, bind_at (deep_at (by omega) _ _), if_neg (by rw [isW_one p2 (by decide)]; decide), if_neg (by rw [isW_one p2 (by decide)]; decide)]
    rw [bind_at (x := (((M ++ [leaf 16 [120]]).length : Nat) : Int)) (k := k + 4) (M := (M ++ [leaf 16 [120]]) ++ [⟨18, 0, [], [97], [], [(M.length : Int)]⟩]) ?_]
    · rw [sumF, if_neg (by rw [isW_at (k := k + 4) p5, isW_at (k := k + 4) p5, isW_at (k := k + 4) p5]; decide), bind_at rfl, if_pos (by rw [isW_at (k := k + 4) p5]; rfl)]
      unfold shapeF
      have e1 : ((M ++ [leaf 16 [120]]) ++ [(⟨18, 0, [], [97], [], [(M.length : Int)]⟩ : Nd)]).getD (((M ++ [leaf 16 [120]]).length : Nat) : Int).toNat (leaf 0 []) = ⟨18, 0, [], [97], [], [(M.length : Int)]⟩ := by
        rw [Int.toNat_natCast, List.getD_eq_getElem?_getD, List.getElem?_append_right (Nat.le_refl _), Nat.sub_self]
        rfl
      have e2 : ((M ++ [leaf 16 [120]]) ++ [(⟨18, 0, [], [97], [], [(M.length : Int)]⟩ : Nd)]).getD (M.length : Int).toNat (leaf 0 []) = leaf 16 [120] := by
        rw [Int.toNat_natCast, List.getD_eq_getElem?_getD, List.append_assoc, List.getElem?_append_right (Nat.le_refl _), Nat.sub_self]
        rfl
      rw [e1]
      simp only [List.getD_cons_zero]
      rw [e2, if_neg (by decide)]
      have h1 : (now L (k + 4 + 1)).kind = 4 := h1
      have h2 : (now L (k + 4 + 1)).text = [98] := h2
      rw [if_pos h1, h2, node_at (by simp only [List.length_append, List.length_cons, List.length_nil]; omega)]
      rfl
    · rw [show f + 7 = (f + 6) + 1 from rfl, primF, bind_at hx, show f + 6 = (f + 5) + 1 from rfl, dotF, if_pos (by rw [isW_sg p3]; rfl), bind_at (word_at p4 _), bind_at (node_at (by rw [List.length_append]; show M.length + 1 < 4000; omega) _ _)]
      rw [show f + 5 = (f + 4) + 1 from rfl, dotF, if_neg (by rw [isW_at p5]; decide)]
/-- Each expression is read. -/
theorem core_read (p : Nat) : ∀ e : ExA, e.few → AtomR L (e.words p) (e.h p) e.size (exB e) ∧ HeadE (e.words p)
  | .num, _ => wrap_read num_read ⟨_, _, rfl, fun h => by decide⟩ p
  | .var c, _ => wrap_read (var_read c) ⟨_, _, rfl, fun h => absurd h (show ¬((1 : Int) = 6 ∨ (1 : Int) = 5) by decide)⟩ p
  | .tag c, _ => wrap_read (tag_read c) ⟨_, _, rfl, fun h => absurd h (show ¬((4 : Int) = 6 ∨ (4 : Int) = 5) by decide)⟩ p
  | .null, _ => wrap_read null_read ⟨_, _, rfl, fun h => by decide⟩ p
  | .yes, _ => wrap_read yes_read ⟨_, _, rfl, fun h => by decide⟩ p
  | .empty, _ => wrap_read empty_read ⟨_, _, rfl, fun h => by decide⟩ p
  | .pair a b, h => wrap_read (pair_read (core_read p a h.1) (core_read p b h.2)) ⟨_, _, rfl, fun h => by decide⟩ p
  | .call c a b, h => wrap_read (call_read (core_read p a h.1) (core_read p b h.2)) ⟨_, _, rfl, fun h => absurd h (show ¬((1 : Int) = 6 ∨ (1 : Int) = 5) by decide)⟩ p
  | .away c t, h => wrap_read (away_read h.1 h.2) ⟨_, _, rfl, fun h => absurd h (show ¬((1 : Int) = 6 ∨ (1 : Int) = 5) by decide)⟩ p
  | .ite a b c, h => wrap_read (ite_read (core_read p a h.1) (core_read p b h.2.1) (core_read p c h.2.2)) ⟨_, _, rfl, fun h => by decide⟩ p
  | .letx a b, h => wrap_read (let_read (core_read p a h.1) (core_read p b h.2)) ⟨_, _, rfl, fun h => by decide⟩ p
  | .op a b c, h => wrap_read (op_read (core_read p a h.1) (core_read p b h.2.1) (core_read p c h.2.2)) ⟨_, _, rfl, fun h => by decide⟩ p
  | .cast a t, h => wrap_read (cast_read (core_read p a h.1) h.2.1 h.2.2) ⟨_, _, rfl, fun h => by decide⟩ p
  | .isx, _ => wrap_read isx_read ⟨_, _, rfl, fun h => by decide⟩ p
end
end Go.Proofs.YtmgjmagniefhoaaGreatDoor
