/- Values in memory; slices.Clone of bytes and of a row; an entry's size. Conditions: those that each theorem names. -/
import Derived.Test.YtogedbednfbkmaaE
import Derived.Test.YtogedbednfbkmaaM
import Derived.BigQuiet
import Derived.Laws.Externs
import Derived.MapKept
namespace Go.Proofs.Ytogedbednfbkmaa
open Go.RowKit Go.Maps

/-- Bytes that are read: a slice's address, length and capacity; what they are. -/
structure RdB (w : World) (A : Option Addr) (n c : Nat) (xs : List Int) : Prop where
  len : xs.length = n
  nil : A = none → n = 0 ∧ c = 0
  cells : 0 < n → ∃ b off, A = some ⟨b, off, none⟩ ∧ ∀ j, j < n → w.cell? ⟨b, off + j, none⟩ = some (.int .u8 (xs.getD j 0))
/-- A value that an entry keeps: its block is among F. -/
structure Vl (F : Nat → Prop) (w : World) (v : Value) (xs : List Int) : Prop where
  is_ : ∃ A c, v = .slice A xs.length c ∧ (A = none → xs.length = 0 ∧ c = 0) ∧ xs.length ≤ c ∧ (0 < xs.length → ∃ b cs, A = some ⟨b, 0, none⟩ ∧ F b ∧ Blk w b 5 cs ∧ ∀ j, j < xs.length → w.cell? ⟨b, j, none⟩ = some (.int .u8 (xs.getD j 0)))
theorem Try.info5 : (Try.prog.info? 5).map (fun i => (i.zero, i.size, i.bytes)) = some (some (.int .u8 0), 1, 1) := by kernel_rfl

theorem add_plain (b off j : Nat) : (⟨b, off, none⟩ : Addr).add j = ⟨b, off + j, none⟩ := by unfold Addr.add; split <;> simp_all
theorem map_at {α β : Type} (f : α → β) (xs : List α) (j : Nat) (d : α) (h : j < xs.length) : (xs.map f)[j]? = some (f (xs.getD j d)) := by
  rw [List.getElem?_map, List.getElem?_eq_getElem h, List.getD_eq_getElem?_getD, List.getElem?_eq_getElem h]; rfl
section
variable {F G : Nat → Prop} {w w' : World} {v : Value} {xs : List Int}
theorem RdB.below {A : Option Addr} {n c : Nat} (h : RdB w A n c xs) (hb : Below w.heap.size w w') : RdB w' A n c xs :=
  ⟨h.len, h.nil, fun h0 => by
    obtain ⟨b, off, e, hc⟩ := h.cells h0
    exact ⟨b, off, e, fun j hj => below_cell hb (hc j hj)⟩⟩
theorem Vl.rd (h : Vl F w v xs) : ∃ A c, v = .slice A xs.length c ∧ xs.length ≤ c ∧ RdB w A xs.length c xs := by
  obtain ⟨A, c, hv, h1, hl, h2⟩ := h.is_
  refine ⟨A, c, hv, hl, rfl, h1, fun h0 => ?_⟩
  obtain ⟨b, cs, e, _, _, hc⟩ := h2 h0
  exact ⟨b, 0, e, fun j hj => by rw [Nat.zero_add]; exact hc j hj⟩
theorem Vl.kp {S : Nat → Prop} (h : Vl F w v xs) (hk : Kp S w w') (hd : ∀ q cs, F q → Blk w q 5 cs → ¬ S q) : Vl F w' v xs := by
  obtain ⟨A, c, hv, h1, hl, h2⟩ := h.is_
  refine ⟨A, c, hv, h1, hl, fun h0 => ?_⟩
  obtain ⟨b, cs, e, hf, hB, hc⟩ := h2 h0
  exact ⟨b, cs, e, hf, hB.kp hk (hd b cs hf hB), fun j hj => hk.cell (hc j hj) (hd b cs hf hB)⟩
theorem Vl.mono (h : Vl F w v xs) (hg : ∀ q, F q → q < w.heap.size → G q) : Vl G w v xs := by
  obtain ⟨A, c, hv, h1, hl, h2⟩ := h.is_
  exact ⟨A, c, hv, h1, hl, fun h0 => by
    obtain ⟨b, cs, e, hf, hB, hc⟩ := h2 h0
    exact ⟨b, cs, e, hg b hf hB.lt, hB, hc⟩⟩
theorem Vl.of_own {base : Nat} {n : Nat} {A : Option Addr} {c : Nat} (h : w.ownsRow base 5 1 (.slice A n c) n (xs.map (.int .u8))) (hn : n = xs.length) : Vl (fun q => base ≤ q) w (.slice A n c) xs := by
  subst hn
  obtain ⟨p1, p2, p3, p4, p5⟩ := own_parts h
  refine ⟨A, c, rfl, p1, p2, fun h0 => ?_⟩
  obtain ⟨g, cap, hv, hg, hlt⟩ := World.ownsRow.form h h0
  injection hv with hv1 hv2 hv3
  subst hv1
  rcases h.2 with ⟨hv, _⟩ | ⟨g', cap', cur, hv, hg', hh, _⟩
  · cases hv
  · injection hv with q1 q2 q3
    injection q1 with q1
    injection q1 with q1
    subst q1
    refine ⟨g, cur, rfl, hg', hh, fun j hj => own_cell h j _ (map_at _ xs j 0 hj)⟩

set_option maxHeartbeats 1000000 in
set_option maxRecDepth 100000 in
/-- slices.Clone of bytes. -/
theorem clone_c {A : Option Addr} {n c : Nat} (h : RdB w A n c xs) (hn : n ≤ 100000000000000) (hc : n ≤ c) :
    Calls Try.prog 33 #[.slice A n c] w fun e w' => ∃ A' c', e = .returned (.slice A' n c') ∧ w'.ownsRow w.heap.size 5 1 (.slice A' n c') n (xs.map (.int .u8)) ∧ Below w.heap.size w w' := by
  obtain ⟨i0, hi0, hz0, hz1, hz2⟩ := info_parts Try.info5
  have qT : ∀ (w : World) (a : Option Addr) (n c n' c' : Nat), (binOp .eql 32 (.slice a n c) (.slice none n' c')).run Try.prog w = .ok (.bool a.isNone) w := fun w a n c n' c' => Lib.run_eql_slice_nil w _ _ a n c n' c' Try.underlying32
  cases A with
  | none =>
    obtain ⟨rfl, rfl⟩ := h.nil rfl
    have hx : xs = [] := List.eq_nil_of_length_eq_zero h.len
    subst hx
    go_enter Try.func33, Try.ntmps33
    go_wp2
    go_ret
    exact ⟨none, 0, rfl, World.ownsRow_nil _ _ _ _, Below.refl _ _⟩
  | some ad =>
    have HL := hid_ (show (xs.map (Value.int .u8)).length = n * 1 by rw [List.length_map, h.len, Nat.mul_one])
    have HN := hid_ (show ∀ a2, some ad = some a2 → ∀ j u, (xs.map (Value.int .u8))[j]? = some u → (w.alloc (.cells #[] 5)).cell? (a2.add j) = some u from fun a2 had j u hu => by
      injection had with had
      subst had
      have hj : j < n := by
        have := (List.getElem?_eq_some_iff.1 hu).1
        rw [List.length_map, h.len] at this; exact this
      obtain ⟨b, off, e, hcl⟩ := h.cells (by omega)
      injection e with e
      subst e
      have h1 := hcl j hj
      have h2 : u = .int .u8 (xs.getD j 0) := by
        have hj2 : j < xs.length := by rw [h.len]; exact hj
        rw [map_at _ xs j 0 hj2] at hu
        injection hu with hu
        exact hu.symm
      rw [h2]
      have h3 : (⟨b, off, none⟩ : Addr).add j = ⟨b, off + j, none⟩ := by exact add_plain b off j
      rw [h3]
      exact (World.cell?_alloc_past _ _ _ (World.block_lt_of_cell? w _ h1)).trans h1)
    have HO := hid_ (show (w.alloc (.cells #[] 5)).ownsRow w.heap.size 5 1 (.slice (some ⟨w.heap.size, 0, none⟩) 0 0) 0 [] from ⟨rfl, .inr ⟨w.heap.size, 0, #[], rfl, Nat.le_refl _, heap_alloc_new w _, Nat.le_refl _, Nat.zero_le _, rfl, rfl⟩⟩)
    have H1 := hid_ (show ∀ u ∈ xs.map (Value.int .u8), u.oneCell' = true from fun u hu => by
      obtain ⟨x, _, rfl⟩ := List.mem_map.1 hu
      rfl)
    have HM := hid_ (show 0 + n ≤ maxLen by unfold maxLen; omega)
    clear h
    go_enter Try.func33, Try.ntmps33
    go_wp2_with (first | (at_builtin; refine wpList_append_any rfl (.tmp 5) (.tmp 6) 32 rfl w.heap.size 5 i0 _ 1 1 Try.underlying32 hi0 hz0 hz1 hz2 rfl (by omega) (.slice (some ⟨w.heap.size, 0, none⟩) 0 0) 0 [] rfl HO.out (some ad) n c (xs.map (.int .u8)) rfl HL.out (fun h => by cases h) HN.out H1.out HM.out (by omega) (by simp) ?_; intro A1 c1 w1 hown1 hgrow1 hat; simp only [Nat.zero_add, List.nil_append] at hown1))
    go_ret
    refine ⟨A1, c1, by simp, hown1, (Below.refl _ _).alloc (Nat.le_refl _) _ |>.grown hgrow1 (by simp) (fun k hk => ?_)⟩
    simp [Value.ownBlock] at hk
    omega

set_option maxHeartbeats 1000000 in
set_option maxRecDepth 100000 in
/-- An entry's size. -/
theorem size_c {m : Me} {k : Int} (h : Ent w m k) (hv : Vl F w m.v m.e.val) (hl : m.e.val.length ≤ 2000000000) (hk : m.e.key.size ≤ 2000000000) :
    Calls Try.prog 34 #[ptr m.g] w fun e w' => e = .returned (.int .i64 (szE m.e)) ∧ ∃ n, w' = w.drewN n := by
  obtain ⟨A, c, hv, _⟩ := hv.is_
  have c2 : w.cell? ⟨m.g, 2, none⟩ = some (.string m.e.key) := h.cell 2
  have c3 : w.cell? ⟨m.g, 3, none⟩ = some m.v := h.cell 3
  rw [hv] at c3
  generalize hs : m.e.key.size = ks at *
  generalize hs2 : m.e.val.length = vs at *
  have hz := hid_ (show (szE m.e : Int) = (ks : Int) + (vs : Int) by unfold szE; rw [hs, hs2]; omega)
  have q1 : IntKind.i64.wrap ((ks : Int) + (vs : Int)) = (ks : Int) + (vs : Int) := IntWalk.i64_in _ (by omega)
  clear h hv hs2
  unfold ptr
  go_enter Try.func34, Try.ntmps34
  go_wp2
  go_quiet (fail)
  go_wp2
  go_ret
  exact ⟨by rw [hz.out]; rfl, _, rfl⟩

theorem none_c (cb : Nat) (h : Hd) (sv : Value) (hH : Blk w cb 66 (h.cells sv)) :
    Calls Try.prog 30 #[.pointer (some ⟨cb, 0, none⟩)] w fun e w' => e = .returned (.bool false) ∧ w = w' := by
  have hq : ∀ (w : World) (p : Option Nat), (binOp .eql 62 (.map p) (.map none)).run Try.prog w = .ok (.bool p.isNone) w := fun w p => run_eql_map_nil w _ _ _ p Try.underlying62
  have c7 : w.cell? ⟨cb, 7, none⟩ = some (.map (some h.mb)) := hH.cell 7
  clear hH
  go_enter Try.func30, Try.ntmps30
  go_wp2
  go_ret
  exact ⟨rfl, rfl⟩

/-- An entry as it is once it has been used. -/
def Me.use (x : Me) (h : Hd) : Me := { x with e := { x.e with worth := h.level + x.e.cost, used := h.uses + 1 } }
set_option maxHeartbeats 1000000 in
set_option maxRecDepth 100000 in
theorem use_c (cb : Nat) (h : Hd) (sv : Value) (x : Me) (k : Int) (hH : Blk w cb 66 (h.cells sv)) (hE : Ent w x k) (b1 : 0 ≤ h.uses ∧ h.uses ≤ 1000000000) (b2 : 0 ≤ h.level ∧ h.level ≤ 1000000000000000) (b3 : 0 ≤ x.e.cost ∧ x.e.cost ≤ 1000000) :
    Calls Try.prog 31 #[.pointer (some ⟨cb, 0, none⟩), ptr x.g] w fun e w' => e = .returned (.tuple #[]) ∧ Blk w' cb 66 (({ h with uses := h.uses + 1 } : Hd).cells sv) ∧ Ent w' (x.use h) k ∧ Kp (fun q => q = cb ∨ q = x.g) w w' := by
  have hne : cb ≠ x.g := Blk.ne_ hH hE (by decide)
  have c1 : w.cell? ⟨cb, 1, none⟩ = some (.int .i64 h.level) := hH.cell 1
  have c2 : w.cell? ⟨cb, 2, none⟩ = some (.int .i64 h.uses) := hH.cell 2
  have f2 := hH.frozen 2
  have x0 : w.cell? ⟨x.g, 0, none⟩ = some (.int .i64 x.e.worth) := hE.cell 0
  have x1 : w.cell? ⟨x.g, 1, none⟩ = some (.int .i64 x.e.used) := hE.cell 1
  have x4 : w.cell? ⟨x.g, 4, none⟩ = some (.int .i64 x.e.cost) := hE.cell 4
  have fx0 := hE.frozen 0
  have fx1 := hE.frozen 1
  have hne2 : x.g ≠ cb := fun e => hne e.symm
  have HB := hid_ (((hH.set_ 2 (.int .i64 (h.uses + 1))).far (p := ⟨x.g, 0, none⟩) hne (.int .i64 (h.level + x.e.cost))).far (p := ⟨x.g, 1, none⟩) hne (.int .i64 (h.uses + 1)))
  have HE := hid_ (((hE.far (p := ⟨cb, 2, none⟩) hne2 (.int .i64 (h.uses + 1))).set_ 0 (.int .i64 (h.level + x.e.cost))).set_ 1 (.int .i64 (h.uses + 1)))
  have HK := hid_ ((((Kp.refl (fun q => q = cb ∨ q = x.g) w).setCell (p := ⟨cb, 2, none⟩) (.inl (.inl rfl)) (.int .i64 (h.uses + 1))).setCell (p := ⟨x.g, 0, none⟩) (.inl (.inr rfl)) (.int .i64 (h.level + x.e.cost))).setCell (p := ⟨x.g, 1, none⟩) (.inl (.inr rfl)) (.int .i64 (h.uses + 1)))
  have q1 : IntKind.i64.wrap (h.uses + 1) = h.uses + 1 := IntWalk.i64_in _ (by omega)
  have q2 : IntKind.i64.wrap (h.level + x.e.cost) = h.level + x.e.cost := IntWalk.i64_in _ (by omega)
  clear hH hE b1 b2 b3
  obtain ⟨gx, vx, ⟨kx, ax, cx, wx, ux⟩⟩ := x
  obtain ⟨room, level, uses, size, found, missed, thrown, mb⟩ := h
  simp only at *
  unfold ptr
  go_enter Try.func31, Try.ntmps31
  go_wp2
  go_region
  go_wp2
  go_returns
  exact ⟨rfl, HB.out.drew, HE.out.drew, HK.out.drew⟩
end
end Go.Proofs.Ytogedbednfbkmaa
