/- Numbers of digits, plainly. No program is named here. -/
import Derived.Test.YtmpdobpnnejmmaaDoorLx
import Derived.Lib.AtoiAll
import Derived.Lib.ItoaNum
namespace Go.Proofs.YtmpdobpnnejmmaaDoor.Lx

/-- What digits tell, from acc on. -/
def vals (acc : Nat) (t : List UInt8) : Nat := t.foldl (fun n c => 10 * n + (c.toNat - 48)) acc
theorem vals_cons (acc : Nat) (c : UInt8) (t : List UInt8) : vals acc (c :: t) = vals (10 * acc + (c.toNat - 48)) t := by unfold vals; rw [List.foldl_cons]
theorem vals_snoc (acc : Nat) (t : List UInt8) (c : UInt8) : vals acc (t ++ [c]) = 10 * vals acc t + (c.toNat - 48) := by unfold vals; rw [List.foldl_append, List.foldl_cons, List.foldl_nil]
theorem digit_iff {c : UInt8} : digit c = true ↔ 48 ≤ c.toNat ∧ c.toNat ≤ 57 := by unfold digit; exact decide_eq_true_iff
theorem vals_ge : ∀ (t : List UInt8) (acc : Nat), acc ≤ vals acc t
  | [], _ => Nat.le_refl _
  | c :: t, acc => by
    rw [vals_cons]
    have := vals_ge t (10 * acc + (c.toNat - 48))
    omega
theorem val_is : ∀ (t : List UInt8) (acc : Nat), t.all digit = true → t.foldl (fun (n : Int) c => 10 * n + ((c.toNat : Int) - 48)) (acc : Int) = (vals acc t : Int)
  | [], _, _ => rfl
  | c :: t, acc, h => by
    simp only [List.all_cons, Bool.and_eq_true] at h
    have h1 := digit_iff.1 h.1
    rw [vals_cons, List.foldl_cons, ← val_is t _ h.2]
    congr 1
    omega
theorem val_eq {t : List UInt8} (h : t.all digit = true) : val t = (vals 0 t : Int) := val_is t 0 h
theorem parse_ok : ∀ (t : List UInt8) (acc : Nat), t.all digit = true → vals acc t ≤ 2147483647 → Lib.parseUint10 acc t = .ok (vals acc t)
  | [], _, _, _ => rfl
  | c :: t, acc, h, hv => by
    simp only [List.all_cons, Bool.and_eq_true] at h
    have h1 := digit_iff.1 h.1
    rw [vals_cons] at hv ⊢
    have h2 := vals_ge t (10 * acc + (c.toNat - 48))
    unfold Lib.parseUint10
    rw [if_pos h1, if_neg (by omega), if_neg (by omega), show acc * 10 + (c.toNat - 48) = 10 * acc + (c.toNat - 48) by omega]
    exact parse_ok t _ h.2 hv
theorem dec_canon : ∀ (n : Nat) (t : List UInt8), t.length = n → t ≠ [] → t.all digit = true → (t.head? = some 48 → t.length = 1) → Lib.decDigits (vals 0 t) = t
  | 0, t, hl, h0, _, _ => absurd (List.eq_nil_of_length_eq_zero hl) h0
  | n + 1, t, hl, h0, hd, hc => by
    rcases List.eq_nil_or_concat t with h | ⟨i, c, rfl⟩
    · exact absurd h h0
    · rw [List.concat_eq_append] at *
      simp only [List.all_append, List.all_cons, List.all_nil, Bool.and_true, Bool.and_eq_true] at hd
      have hdc := digit_iff.1 hd.2
      have hcc : UInt8.ofNat (48 + (c.toNat - 48)) = c := by
        rw [show 48 + (c.toNat - 48) = c.toNat by omega]
        exact UInt8.ofNat_toNat
      rw [vals_snoc]
      cases i with
      | nil =>
        show Lib.decDigits (10 * 0 + (c.toNat - 48)) = [c]
        rw [Lib.decDigits, dif_pos (by omega), show 48 + (10 * 0 + (c.toNat - 48)) = 48 + (c.toNat - 48) by omega, hcc]
      | cons a i =>
        have ha : a ≠ 48 := fun e => by
          have := hc (by rw [e]; rfl)
          simp at this
        simp only [List.all_cons, Bool.and_eq_true] at hd
        have hda := digit_iff.1 hd.1.1
        have ha2 : a.toNat ≠ 48 := fun e => ha (UInt8.toNat_inj.1 e)
        have hge : 1 ≤ vals 0 (a :: i) := by
          rw [vals_cons]
          have := vals_ge i (10 * 0 + (a.toNat - 48))
          omega
        have ih := dec_canon n (a :: i) (by simpa using hl) (by simp) (by simp [hd.1]) (fun e => absurd (Option.some.inj e) ha)
        rw [Lib.decDigits, dif_neg (by omega), show (10 * vals 0 (a :: i) + (c.toNat - 48)) / 10 = vals 0 (a :: i) by omega, show (10 * vals 0 (a :: i) + (c.toNat - 48)) % 10 = c.toNat - 48 by omega, hcc, ih]
theorem dec_facts (u : Nat) : Lib.decDigits u ≠ [] ∧ (Lib.decDigits u).all digit = true ∧ ((Lib.decDigits u).head? = some 48 → (Lib.decDigits u).length = 1) ∧ vals 0 (Lib.decDigits u) = u := by
  induction u using Nat.strongRecOn with
  | _ u ih =>
    by_cases h : u < 10
    · rw [Lib.decDigits, dif_pos h]
      have hn : (UInt8.ofNat (48 + u)).toNat = 48 + u := by
        show (48 + u) % 256 = 48 + u
        omega
      refine ⟨by simp, ?_, fun _ => rfl, ?_⟩
      · simp only [List.all_cons, List.all_nil, Bool.and_true]
        exact digit_iff.2 (by omega)
      · rw [vals_cons, hn]
        show 10 * 0 + (48 + u - 48) = u
        omega
    · obtain ⟨h1, h2, h3, h4⟩ := ih (u / 10) (by omega)
      rw [Lib.decDigits, dif_neg h]
      have hn : (UInt8.ofNat (48 + u % 10)).toNat = 48 + u % 10 := by
        show (48 + u % 10) % 256 = 48 + u % 10
        omega
      refine ⟨by simp, ?_, fun e => ?_, ?_⟩
      · rw [List.all_append, h2]
        simp only [List.all_cons, List.all_nil, Bool.and_true, Bool.true_and]
        exact digit_iff.2 (by omega)
      · exfalso
        have e2 : (Lib.decDigits (u / 10)).head? = some 48 := by
          cases hx : Lib.decDigits (u / 10) with
          | nil => exact absurd hx h1
          | cons a l => rw [hx] at e; exact e
        have h5 := h3 e2
        obtain ⟨a, ha⟩ := List.length_eq_one_iff.1 h5
        rw [ha] at e2 h4
        have ea : a = 48 := Option.some.inj e2
        rw [ea, vals_cons] at h4
        have : (0 : Nat) = u / 10 := h4
        omega
      · rw [vals_snoc, h4, hn]
        omega
/-- A number that may be: it is what Atoi tells, and what Itoa writes. -/
theorem number_yes {t : List UInt8} (h : 0 ≤ number t) : Lib.atoiAll t = .ok (number t) ∧ number t ≤ 2147483647 ∧ Lib.itoa (number t) = t := by
  unfold number at *
  split at h
  · rename_i hc
    obtain ⟨h0, hd, hh, hv⟩ := hc
    rw [if_pos ⟨h0, hd, hh, hv⟩]
    rw [val_eq hd] at hv ⊢
    have hv2 : vals 0 t ≤ 2147483647 := by omega
    refine ⟨?_, hv, ?_⟩
    · cases t with
      | nil => exact absurd rfl h0
      | cons c r =>
        have hdc : 48 ≤ c.toNat ∧ c.toNat ≤ 57 := by
          simp only [List.all_cons, Bool.and_eq_true] at hd
          exact digit_iff.1 hd.1
        unfold Lib.atoiAll
        simp only
        rw [if_neg (by omega)]
        have hp : Lib.parseMag (c :: r) = .ok (vals 0 (c :: r)) := by
          unfold Lib.parseMag
          first | exact parse_ok _ _ hd hv2 | (rw [if_neg (by simp)]; exact parse_ok _ _ hd hv2) | (simp only; exact parse_ok _ _ hd hv2)
        rw [hp]
        simp only
        rw [if_neg (by omega), if_neg (by omega), if_neg (by omega)]
    · unfold Lib.itoa
      rw [if_neg (by omega)]
      exact dec_canon _ t rfl h0 hd hh
  · omega
theorem number_of {t : List UInt8} {v : Int} (h0 : 0 ≤ v) (h1 : v ≤ 2147483647) (h : Lib.itoa v = t) : number t = v := by
  unfold Lib.itoa at h
  rw [if_neg (by omega)] at h
  obtain ⟨f1, f2, f3, f4⟩ := dec_facts v.toNat
  rw [h] at f1 f2 f3 f4
  unfold number
  rw [val_eq f2, f4, if_pos ⟨f1, f2, f3, by omega⟩]
  omega
end Go.Proofs.YtmpdobpnnejmmaaDoor.Lx
