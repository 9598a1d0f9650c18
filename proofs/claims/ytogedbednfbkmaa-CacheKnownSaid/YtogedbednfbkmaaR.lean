/- A cache by what it stands for: the words, and New, Has, Len, Size, Level, Counts. Conditions: those that each theorem names. -/
import Derived.Test.YtogedbednfbkmaaP
namespace Go.Proofs.Ytogedbednfbkmaa
open Go.RowKit Go.Maps

/-- What holds of every cache. -/
structure Ok (c : Cs) : Prop where
  gd : Gd c.uses c.S
  room : 1 ≤ c.room ∧ c.room ≤ 1073741824
  lev : 0 ≤ c.level ∧ c.level ≤ 1000000 * c.uses
  fnd : 0 ≤ c.found ∧ c.found ≤ c.uses
  mis : 0 ≤ c.missed
  thr : 0 ≤ c.thrown ∧ c.thrown + c.S.length ≤ c.uses
  sz : (szS c.S : Int) ≤ c.room
/-- Its numbers are small. -/
def Small (c : Cs) : Prop := c.uses ≤ 99000 ∧ c.missed ≤ 1000000
def hdOf (c : Cs) (mb : Nat) : Hd := ⟨c.room, c.level, c.uses, szS c.S, c.found, c.missed, c.thrown, mb⟩
/-- At cb lies a cache that stands for c; F its blocks. -/
structure IsC (F : Nat → Prop) (w : World) (cb : Nat) (c : Cs) : Prop where
  ok : Ok c
  body : ∃ mb L, CX F w w cb (hdOf c mb) L ∧ (L.map Me.e).Perm c.S
/-- What a call on a cache leaves. -/
structure Left (F : Nat → Prop) (w : World) (cb : Nat) (c : Cs) (w' : World) : Prop where
  isC : IsC (fun q => F q ∨ w.heap.size ≤ q) w' cb c
  kp : Kp F w w'

section
variable {F G : Nat → Prop} {w0 w w' : World} {cb mb : Nat} {h : Hd} {c : Cs} {L : List Me} {k : ByteArray}
theorem szE_le {S : List En} {e : En} (h : e ∈ S) : szE e ≤ szS S := by
  induction S with
  | nil => simp at h
  | cons a S ih =>
    rw [szS_cons]
    rcases List.mem_cons.1 h with rfl | h
    · omega
    · have := ih h; omega
theorem CX.rebase (hX : CX F w0 w cb h L) : CX (fun q => F q ∨ w0.heap.size ≤ q) w w cb h L := by
  obtain ⟨sv, D, r, hsv, hM, hI⟩ := hX.body
  exact ⟨Kp.refl _ _, .inl hX.fc, .inl hX.fm, fun m hm => .inl (hX.fe m hm), hX.len, hX.heap, ⟨sv, D, r, fun q hq => .inl (hsv q hq), hM, hI⟩, fun m hm => (hX.vals m hm).mono (fun q hq _ => .inl hq), hX.keys, hX.ok⟩
theorem CX.left (hX : CX F w w' cb (hdOf c mb) L) (ho : Ok c) (hp : (L.map Me.e).Perm c.S) : Left F w cb c w' := ⟨⟨ho, mb, L, hX.rebase, hp⟩, hX.kp⟩
theorem CX.kept {S : Nat → Prop} (hX : CX F w w cb h L) (hk : Kp S w w') (hd : ∀ q, F q → ¬ S q) : CX F w' w' cb h L := by
  obtain ⟨sv, D, r, hsv, hM, hI⟩ := hX.body
  have lt : ∀ q, sv.ownBlock = some q → F q := fun q hq => (hsv q hq).resolve_right (fun x => by
    have := own_lt r.own hq; omega)
  have lg : ∀ m ∈ L, F m.g := fun m hm => (hX.fe m hm).resolve_right (fun x => by
    obtain ⟨i, hi, e⟩ := List.mem_iff_getElem.1 hm
    have := (r.ents i hi).lt
    rw [e] at this; omega)
  refine ⟨Kp.refl _ _, hX.fc, hX.fm, fun m hm => .inl (lg m hm), hX.len, hX.heap, ⟨sv, D, r.kp hk (hd _ hX.fc) (fun m hm => hd _ (lg m hm)) (fun q hq => hd _ (lt q hq)), fun q hq => .inl (lt q hq), map_kp hM hk (hd _ hX.fm), hI⟩, fun m hm => ?_, hX.keys, hX.ok⟩
  refine ((hX.vals m hm).mono (G := F) (fun q hq hl => hq.resolve_right (fun x => by omega))).kp hk (fun q cs hf _ => hd q hf) |>.mono (fun q hq _ => .inl hq)
theorem IsC.kp {S : Nat → Prop} (h : IsC F w cb c) (hk : Kp S w w') (hd : ∀ q, F q → ¬ S q) : IsC F w' cb c := by
  obtain ⟨mb, L, hX, hp⟩ := h.body
  exact ⟨h.ok, mb, L, hX.kept hk hd, hp⟩
theorem IsC.below (h : IsC F w cb c) (hk : Below w.heap.size w w') : IsC F w' cb c := h.kp (Kp.of_below hk fun _ => False) (fun _ _ => id)
theorem IsC.drew (h : IsC F w cb c) : IsC F w.drew cb c := h.below (Below.refl _ w).drew
theorem IsC.mono (h : IsC F w cb c) (hg : ∀ q, F q → q < w.heap.size → G q) : IsC G w cb c := by
  obtain ⟨mb, L, hX, hp⟩ := h.body
  obtain ⟨sv, D, r, hsv, hM, hI⟩ := hX.body
  refine ⟨h.ok, mb, L, ⟨Kp.refl _ _, hg _ hX.fc r.head.lt, hg _ hX.fm hM.lt, fun m hm => .inl ?_, hX.len, hX.heap, ⟨sv, D, r, fun q hq => .inl ?_, hM, hI⟩, fun m hm => (hX.vals m hm).mono (fun q hq hl => .inl (hg q (hq.resolve_right (fun x => by omega)) hl)), hX.keys, hX.ok⟩, hp⟩
  · obtain ⟨i, hi, e⟩ := List.mem_iff_getElem.1 hm
    have := (r.ents i hi).lt
    rw [e] at this
    exact hg _ ((hX.fe m hm).resolve_right (fun x => by omega)) this
  · have := own_lt r.own hq
    exact hg _ ((hsv q hq).resolve_right (fun x => by omega)) this
theorem IsC.blocks (h : IsC F w cb c) : IsC (fun q => F q ∧ q < w.heap.size) w cb c := h.mono (fun _q hq hl => ⟨hq, hl⟩)

theorem key_of {L : List Me} {S : List En} (hp : (L.map Me.e).Perm S) : (∃ m ∈ L, m.e.key = k) ↔ k ∈ S.map En.key := by
  rw [← (hp.map En.key).mem_iff]
  simp
theorem hasE_of {L : List Me} {S : List En} (hp : (L.map Me.e).Perm S) (hm : ∃ m ∈ L, m.e.key = k) : hasE k S = true := hasE_iff.2 ((key_of hp).1 hm)
theorem hasE_no {L : List Me} {S : List En} (hp : (L.map Me.e).Perm S) (hm : ∀ m ∈ L, m.e.key ≠ k) : hasE k S = false := hasE_not.2 (fun h => by
  obtain ⟨m, h1, h2⟩ := (key_of hp).2 h
  exact hm m h1 h2)

set_option maxHeartbeats 1000000 in
theorem has_c (hC : IsC F w cb c) (k : ByteArray) (hk : k.size ≤ maxLen) : Calls Try.prog 16 #[.pointer (some ⟨cb, 0, none⟩), .string k] w fun e w' => e = .returned (.bool (hasE k c.S)) ∧ w = w' := by
  obtain ⟨mb, L, hX, hp⟩ := hC.body
  obtain ⟨sv, D, r, hsv, hM, hI⟩ := hX.body
  have H0 := hid_ (none_c cb _ sv r.head)
  have c7 : w.cell? ⟨cb, 7, none⟩ = some (.map (some mb)) := r.head.cell 7
  rcases look hM hI k hk with ⟨hno, hrun⟩ | ⟨m, hm, he, hrun⟩
  · have hh := hid_ (hasE_no hp hno)
    have hrun' : (Instr.lookup 62 (.map (some mb)) (.string k) false).run Try.prog w = .ok (.pointer none) w := hrun
    clear hX hsv hM hI r hno hp hrun hC
    go_enter Try.func16, Try.ntmps16
    go_wp2_with fail
    refine H0.out.mono ?_
    rintro e w1 ⟨rfl, rfl⟩
    go_wp2
    go_ret
    exact ⟨by rw [hh.out]; rfl, rfl⟩
  · have hh := hid_ (hasE_of hp ⟨m, hm, he⟩)
    have hrun' : (Instr.lookup 62 (.map (some mb)) (.string k) false).run Try.prog w = .ok (.pointer (some ⟨m.g, 0, none⟩)) w := hrun
    clear hX hsv hM hI r hp hrun hC hm
    go_enter Try.func16, Try.ntmps16
    go_wp2_with fail
    refine H0.out.mono ?_
    rintro e w1 ⟨rfl, rfl⟩
    go_wp2
    go_ret
    exact ⟨by rw [hh.out]; rfl, rfl⟩
theorem len_is (hC : IsC F w cb c) : Calls Try.prog 17 #[.pointer (some ⟨cb, 0, none⟩)] w fun e w' => e = .returned (.int .i64 c.S.length) ∧ w = w' := by
  obtain ⟨mb, L, hX, hp⟩ := hC.body
  obtain ⟨sv, D, r, hsv, hM, hI⟩ := hX.body
  have H0 := hid_ (none_c cb _ sv r.head)
  have c7 : w.cell? ⟨cb, 7, none⟩ = some (.map (some mb)) := r.head.cell 7
  have hl := hM.len Try.underlying62 3
  rw [hI.size, show L.length = c.S.length by rw [← hp.length_eq, List.length_map]] at hl
  have HL : (Builtin.len_ #[62] 3 #[.map (some mb)]).run Try.prog w = .ok (.int .i64 c.S.length) w := hl
  clear hX hsv hM hI r hp hC hl
  go_enter Try.func17, Try.ntmps17
  go_wp2_with fail
  refine H0.out.mono ?_
  rintro e w1 ⟨rfl, rfl⟩
  go_wp2
  go_ret
  exact ⟨rfl, rfl⟩
theorem size_is (hC : IsC F w cb c) : Calls Try.prog 20 #[.pointer (some ⟨cb, 0, none⟩)] w fun e w' => e = .returned (.int .i64 (szS c.S)) ∧ w = w' := by
  obtain ⟨mb, L, hX, hp⟩ := hC.body
  obtain ⟨sv, D, r, hsv, hM, hI⟩ := hX.body
  have H0 := hid_ (none_c cb _ sv r.head)
  have c3 : w.cell? ⟨cb, 3, none⟩ = some (.int .i64 (szS c.S)) := r.head.cell 3
  clear hX hsv hM hI r hp hC
  go_enter Try.func20, Try.ntmps20
  go_wp2_with fail
  refine H0.out.mono ?_
  rintro e w1 ⟨rfl, rfl⟩
  go_wp2
  go_ret
  exact ⟨rfl, rfl⟩
theorem level_is (hC : IsC F w cb c) : Calls Try.prog 28 #[.pointer (some ⟨cb, 0, none⟩)] w fun e w' => e = .returned (.int .i64 c.level) ∧ w = w' := by
  obtain ⟨mb, L, hX, hp⟩ := hC.body
  obtain ⟨sv, D, r, hsv, hM, hI⟩ := hX.body
  have H0 := hid_ (none_c cb _ sv r.head)
  have c3 : w.cell? ⟨cb, 1, none⟩ = some (.int .i64 c.level) := r.head.cell 1
  clear hX hsv hM hI r hp hC
  go_enter Try.func28, Try.ntmps28
  go_wp2_with fail
  refine H0.out.mono ?_
  rintro e w1 ⟨rfl, rfl⟩
  go_wp2
  go_ret
  exact ⟨rfl, rfl⟩
theorem counts_is (hC : IsC F w cb c) : Calls Try.prog 22 #[.pointer (some ⟨cb, 0, none⟩)] w fun e w' => e = .returned (.tuple #[.int .i64 c.found, .int .i64 c.missed, .int .i64 c.thrown]) ∧ Below w.heap.size w w' := by
  obtain ⟨mb, L, hX, hp⟩ := hC.body
  obtain ⟨sv, D, r, hsv, hM, hI⟩ := hX.body
  have H0 := hid_ (none_c cb _ sv r.head)
  have c4 : w.cell? ⟨cb, 4, none⟩ = some (.int .i64 c.found) := r.head.cell 4
  have c5 : w.cell? ⟨cb, 5, none⟩ = some (.int .i64 c.missed) := r.head.cell 5
  have c6 : w.cell? ⟨cb, 6, none⟩ = some (.int .i64 c.thrown) := r.head.cell 6
  clear hX hsv hM hI r hp hC
  go_enter Try.func22, Try.ntmps22
  go_wp2_with fail
  refine H0.out.mono ?_
  rintro e w1 ⟨rfl, rfl⟩
  go_wp2
  go_region
  go_wp2
  go_ret3
  exact ⟨rfl, (Below.refl _ _).drew⟩
end
end Go.Proofs.Ytogedbednfbkmaa
