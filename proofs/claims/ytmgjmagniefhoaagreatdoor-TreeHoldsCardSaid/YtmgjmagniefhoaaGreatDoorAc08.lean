/- cut: a module of few and short parts. Conditions: those that each theorem names. -/
import Derived.Test.YtmgjmagniefhoaaGreatDoorAc03
import Derived.Test.YtmgjmagniefhoaaGreatDoorAc04
import Derived.Test.YtmgjmagniefhoaaGreatDoorAc02
namespace Go.Proofs.YtmgjmagniefhoaaGreatDoor
open Go.RowKit Go.Maps
section
variable {w0 W W1 w' : World}
/-- The front of a row of the call's own. -/
def OwnP (w : World) (base : Nat) (e : TypeId) (sz : Nat) (v : Value) (n : Nat) (xs : List Value) : Prop := ∃ A N c ys, v = .slice A n c ∧ n ≤ N ∧ w.ownsRow base e sz (.slice A N c) N ys ∧ xs = ys.take (n * sz)
theorem OwnP.of {base sz n : Nat} {e : TypeId} {v : Value} {xs : List Value} (h : W.ownsRow base e sz v n xs) : OwnP W base e sz v n xs := by
  obtain ⟨A, c, rfl⟩ := own_form h
  exact ⟨A, n, c, xs, rfl, Nat.le_refl _, h, by rw [← h.1, List.take_length]⟩
theorem OwnP.kp {S : Nat → Prop} {base sz n : Nat} {e : TypeId} {v : Value} {xs : List Value} (h : OwnP W base e sz v n xs) (hk : Kp S W W1) (hS : ∀ q, S q → q < base ∨ W.heap.size ≤ q ∨ ∃ t, t ≠ e ∧ ∃ cs, Blk W q t cs) : OwnP W1 base e sz v n xs := by
  obtain ⟨A, N, c, ys, rfl, hn, ho, hx⟩ := h
  refine ⟨A, N, c, ys, rfl, hn, own_kp ho hk fun q hq hs => ?_, hx⟩
  have h1 := own_base ho hq
  have h2 := own_lt ho hq
  rcases hS q hs with h | h | ⟨t, hne, cs, hb⟩
  · omega
  · omega
  · exact own_blk_ne ho hb (Ne.symm hne) hq
theorem OwnP.below {base sz n : Nat} {e : TypeId} {v : Value} {xs : List Value} (h : OwnP W base e sz v n xs) (hb : Below W.heap.size W W1) : OwnP W1 base e sz v n xs := h.kp (Kp.of_below hb fun _ => False) fun _ hs => hs.elim
theorem OwnP.base_ {base b sz n : Nat} {e : TypeId} {v : Value} {xs : List Value} (h : OwnP W base e sz v n xs) (hb : b ≤ base) : OwnP W b e sz v n xs := by
  obtain ⟨A, N, c, ys, rfl, hn, ho, hx⟩ := h
  exact ⟨A, N, c, ys, rfl, hn, ownsRow_base ho hb, hx⟩
theorem OwnP.z {base sz n : Nat} {e : TypeId} {v : Value} {xs : List Value} (h : OwnP W base e sz v n xs) : RowZ W v n xs := by
  obtain ⟨A, N, c, ys, rfl, hn, ho, rfl⟩ := h
  obtain ⟨⟨A', c', e, h0, h1⟩, h2⟩ := RowZ.of ho
  injection e with e1 _ e2
  subst e1 e2
  refine ⟨⟨A, c, rfl, fun e => by have := h0 e; omega, fun b off q ha => ⟨(h1 b off q ha).1, fun j u hu => (h1 b off q ha).2 j u ?_⟩⟩, fun n' c' e => ?_⟩
  · rw [List.getElem?_take] at hu
    split at hu
    · exact hu
    · cases hu
  · injection e with e1 _ e3
    subst e1 e3
    exact h2 N c rfl
/-- A shorter front. -/
theorem OwnP.cut {base sz n k c : Nat} {A : Option Addr} {e : TypeId} {xs : List Value} (h : OwnP W base e sz (.slice A n c) n xs) (hk : k ≤ n) : OwnP W base e sz (.slice A k c) k (xs.take (k * sz)) := by
  obtain ⟨A', N, c', ys, e, hn, ho, rfl⟩ := h
  injection e with e1 _ e2
  subst e1 e2
  refine ⟨A, N, c, ys, rfl, by omega, ho, ?_⟩
  rw [List.take_take, Nat.min_eq_left (Nat.mul_le_mul_right sz hk)]
theorem OwnP.form {base sz n : Nat} {e : TypeId} {v : Value} {xs : List Value} (h : OwnP W base e sz v n xs) : ∃ A c, v = .slice A n c := by
  obtain ⟨A, N, c, ys, rfl, _⟩ := h
  exact ⟨A, c, rfl⟩
theorem own_le_cap {base sz n c : Nat} {A : Option Addr} {e : TypeId} {xs : List Value} (h : W.ownsRow base e sz (.slice A n c) n xs) : n ≤ c := by
  rcases h.2 with ⟨hv, h0⟩ | ⟨g', cap', cur, hv, hg, hh, hn, hc, hs, ht⟩
  · omega
  · injection hv with _ _ h3
    omega
/-- The boxes, and the copy's rows. -/
structure CtS (w0 W : World) (B b0 b1 : Nat) (cs : Array Value) (iv tv fv nv : Value) (m : Tr.Md) (fx : List Fx) (nx : List Nx) : Prop where
  bel : Below w0.heap.size w0 W
  a0 : Blk W b0 31 cs
  a1 : Blk W b1 31 zeroM
  hi : Hi B W iv tv fv nv m fx nx
  l0 : w0.heap.size ≤ b0
  l1 : b0 < B
  l2 : b1 ≠ b0
  lB : B ≤ W.heap.size
variable {B b0 b1 : Nat} {cs : Array Value} {iv tv fv nv : Value} {m : Tr.Md} {fx : List Fx} {nx : List Nx}
theorem CtS.below (h : CtS w0 W B b0 b1 cs iv tv fv nv m fx nx) (hb : Below W.heap.size W W1) : CtS w0 W1 B b0 b1 cs iv tv fv nv m fx nx :=
  ⟨h.bel.trans (hb.mono h.bel.size), h.a0.kp (Kp.of_below hb fun _ => False) id, h.a1.kp (Kp.of_below hb fun _ => False) id, h.hi.below hb, h.l0, h.l1, h.l2, Nat.le_trans h.lB hb.size⟩
theorem CtS.store (h : CtS w0 W B b0 b1 cs iv tv fv nv m fx nx) (j : Nat) (u : Value) : CtS w0 (W.setCell ⟨b0, j, none⟩ u) B b0 b1 (cs.setIfInBounds j u) iv tv fv nv m fx nx :=
  have hk := (Kp.refl (fun q => q = b0) W).setCell (p := ⟨b0, j, none⟩) (.inl rfl) u
  ⟨h.bel.setCell (p := ⟨b0, j, none⟩) h.l0 u, h.a0.set_ j u, h.a1.kp hk h.l2, h.hi.kp hk (fun q hq => .inl (by rw [show q = b0 from hq]; exact h.l1)), h.l0, h.l1, h.l2, by simpa [World.setCell] using h.lB⟩
end
/-- The boxes, the copy cut: its nodes' row whole, so many of them meant. -/
structure CuS (w0 W : World) (B b0 b1 : Nat) (nm iv tv fv : Value) (A : Option Addr) (k c : Nat) (im : List (List UInt8)) (ty : List Tr.Vr) (fx : List Fx) (nx : List Nx) : Prop where
  bel : Below w0.heap.size w0 W
  a0 : Blk W b0 31 #[nm, iv, tv, fv, .slice A k c]
  a1 : Blk W b1 31 zeroM
  l0 : w0.heap.size ≤ b0
  l1 : b0 < B
  l2 : b1 ≠ b0
  lB : B ≤ W.heap.size
  i : OwnP W B 9 1 iv im.length (strs im)
  t : OwnP W B 59 2 tv ty.length (flatV ty)
  f : OwnP W B 54 5 fv fx.length (flatF fx)
  n : W.ownsRow B 57 6 (.slice A nx.length c) nx.length (flatN nx)
  hk : k ≤ nx.length
  fo : ∀ x ∈ fx, OwnP W B 67 2 x.2.1 x.1.vars.length (flatV x.1.vars) ∧ OwnP W B 67 2 x.2.2 x.1.params.length (flatV x.1.params)
  no : ∀ x ∈ nx, OwnP W B 9 1 x.2.1 x.1.keys.length (strs x.1.keys) ∧ OwnP W B 3 1 x.2.2 x.1.l.length (ints x.1.l)
theorem flatV_take : ∀ (l : List Tr.Vr) (k : Nat), (flatV l).take (k * 2) = flatV (l.take k)
  | [], k => by simp [flatV]
  | x :: l, 0 => by simp [flatV]
  | x :: l, k + 1 => by
    have e : flatV (x :: l) = [.string (st x.name), .int .i64 x.type] ++ flatV l := rfl
    have e2 : flatV ((x :: l).take (k + 1)) = [.string (st x.name), .int .i64 x.type] ++ flatV (l.take k) := rfl
    rw [e, e2, List.take_append, flatV_take l k |>.symm, List.take_of_length_le (by simp; omega), show (k + 1) * 2 - [Value.string (st x.name), .int .i64 x.type].length = k * 2 by simp; omega]
theorem flatF_take : ∀ (l : List Fx) (k : Nat), (flatF l).take (k * 5) = flatF (l.take k)
  | [], k => by simp [flatF]
  | x :: l, 0 => by simp [flatF]
  | x :: l, k + 1 => by
    have e : flatF (x :: l) = cellF x ++ flatF l := rfl
    have e2 : flatF ((x :: l).take (k + 1)) = cellF x ++ flatF (l.take k) := rfl
    have e5 : (cellF x).length = 5 := rfl
    rw [e, e2, List.take_append, flatF_take l k |>.symm, List.take_of_length_le (by omega), e5, show (k + 1) * 5 - 5 = k * 5 by omega]
theorem flatN_take : ∀ (l : List Nx) (k : Nat), (flatN l).take (k * 6) = flatN (l.take k)
  | [], k => by simp [flatN]
  | x :: l, 0 => by simp [flatN]
  | x :: l, k + 1 => by
    have e : flatN (x :: l) = cellN x.1 x.2.1 x.2.2 ++ flatN l := rfl
    have e2 : flatN ((x :: l).take (k + 1)) = cellN x.1 x.2.1 x.2.2 ++ flatN (l.take k) := rfl
    have e5 : (cellN x.1 x.2.1 x.2.2).length = 6 := rfl
    rw [e, e2, List.take_append, flatN_take l k |>.symm, List.take_of_length_le (by omega), e5, show (k + 1) * 6 - 6 = k * 6 by omega]
section
variable {w0 W W1 : World} {B b0 b1 k c : Nat} {nm iv tv fv : Value} {A : Option Addr} {im : List (List UInt8)} {ty : List Tr.Vr} {fx : List Fx} {nx : List Nx}
theorem CuS.below (h : CuS w0 W B b0 b1 nm iv tv fv A k c im ty fx nx) (hb : Below W.heap.size W W1) : CuS w0 W1 B b0 b1 nm iv tv fv A k c im ty fx nx :=
  ⟨h.bel.trans (hb.mono h.bel.size), h.a0.kp (Kp.of_below hb fun _ => False) id, h.a1.kp (Kp.of_below hb fun _ => False) id, h.l0, h.l1, h.l2, Nat.le_trans h.lB hb.size, h.i.below hb, h.t.below hb, h.f.below hb, own_kp h.n (Kp.of_below hb fun _ => False) (fun _ _ e => e), h.hk, fun x hx => ⟨(h.fo x hx).1.below hb, (h.fo x hx).2.below hb⟩, fun x hx => ⟨(h.no x hx).1.below hb, (h.no x hx).2.below hb⟩⟩
theorem CuS.drew (h : CuS w0 W B b0 b1 nm iv tv fv A k c im ty fx nx) : CuS w0 W.drew B b0 b1 nm iv tv fv A k c im ty fx nx := h.below (Below.refl _ _).drew
theorem CuS.start {ni zi zt zf zn : Nat} {Zi Zm Zt Zf Zn : Option Addr} {zm : Nat} {m : Tr.Md} {kt kf kn : Nat} (h : CtS w0 W B b0 b1 #[nm, .slice Zm im.length zm, .slice Zt m.types.length zt, .slice Zf m.fns.length zf, .slice Zn m.nodes.length zn] (.slice Zi ni zi) (.slice Zt m.types.length zt) (.slice Zf m.fns.length zf) (.slice Zn m.nodes.length zn) m fx nx) (_h0 : w0.heap.size ≤ B)
    (him : W.ownsRow B 9 1 (.slice Zm im.length zm) im.length (strs im)) (h1 : kt ≤ m.types.length) (h2 : kf ≤ m.fns.length) (h3 : kn ≤ m.nodes.length) {WF : World}
    (hF : WF = ((W.setCell ⟨b0, 2, none⟩ (.slice Zt kt zt)).setCell ⟨b0, 3, none⟩ (.slice Zf kf zf)).setCell ⟨b0, 4, none⟩ (.slice Zn kn zn)) :
    CuS w0 WF B b0 b1 nm (.slice Zm im.length zm) (.slice Zt kt zt) (.slice Zf kf zf) Zn kn zn im (m.types.take kt) (fx.take kf) nx := by
  subst hF
  have hfl : fx.length = m.fns.length := by rw [← h.hi.fe, List.length_map]
  have hnl : nx.length = m.nodes.length := by rw [← h.hi.ne, List.length_map]
  have h' := ((h.store 2 (.slice Zt kt zt)).store 3 (.slice Zf kf zf)).store 4 (.slice Zn kn zn)
  have hk : Kp (fun q => q = b0) W (((W.setCell ⟨b0, 2, none⟩ (.slice Zt kt zt)).setCell ⟨b0, 3, none⟩ (.slice Zf kf zf)).setCell ⟨b0, 4, none⟩ (.slice Zn kn zn)) := (((Kp.refl (fun q => q = b0) W).setCell (p := ⟨b0, 2, none⟩) (.inl rfl) _).setCell (p := ⟨b0, 3, none⟩) (.inl rfl) _).setCell (p := ⟨b0, 4, none⟩) (.inl rfl) _
  have e1 : (m.types.take kt).length = kt := by rw [List.length_take]; omega
  have e2 : (fx.take kf).length = kf := by rw [List.length_take]; omega
  refine ⟨h'.bel, h'.a0, h'.a1, h'.l0, h'.l1, h'.l2, h'.lB, .of (own_kp him hk fun q hq e => ?_), ?_, ?_, ?_, by omega, fun x hx => ?_, fun x hx => ?_⟩
  · have := own_base him hq
    have e : q = b0 := e
    have := h.l1
    omega
  · rw [e1, ← flatV_take]
    exact (OwnP.of h'.hi.t).cut h1
  · rw [e2, ← flatF_take]
    exact (OwnP.of h'.hi.f).cut h2
  · rw [hnl]
    exact h'.hi.n
  · have := h'.hi.fo x (List.mem_of_mem_take hx)
    exact ⟨.of this.1, .of this.2⟩
  · have := h'.hi.no x hx
    exact ⟨.of this.1, .of this.2⟩
theorem flatN_set : ∀ (l : List Nx) (i : Nat) (_h : i < l.length) (y : Nx), flatN (l.set i y) = ((((((flatN l).set (i * 6) (.int .i64 y.1.kind)).set (i * 6 + 1) (.int .i64 y.1.num)).set (i * 6 + 2) (.string (st y.1.mod))).set (i * 6 + 3) (.string (st y.1.name))).set (i * 6 + 4) y.2.1).set (i * 6 + 5) y.2.2
  | x :: l, 0, h, y => rfl
  | x :: l, i + 1, h, y => by
    have h' : i < l.length := by simpa using h
    have ih := flatN_set l i h' y
    have e2 : flatN ((x :: l).set (i + 1) y) = cellN x.1 x.2.1 x.2.2 ++ flatN (l.set i y) := rfl
    have e1 : flatN (x :: l) = cellN x.1 x.2.1 x.2.2 ++ flatN l := rfl
    have e5 : (cellN x.1 x.2.1 x.2.2).length = 6 := rfl
    have key : ∀ (xs : List Value) (j : Nat) (v : Value), (cellN x.1 x.2.1 x.2.2 ++ xs).set ((i + 1) * 6 + j) v = cellN x.1 x.2.1 x.2.2 ++ xs.set (i * 6 + j) v := fun xs j v => by
      rw [show (i + 1) * 6 + j = 6 + (i * 6 + j) by omega, List.set_append_right _ _ (by omega), e5, Nat.add_sub_cancel_left]
    rw [e2, ih, e1]
    have k0 := key (flatN l) 0 (.int .i64 y.1.kind)
    simp only [Nat.add_zero] at k0
    rw [k0, key, key, key, key, key]
theorem CuS.setN {g j : Nat} (h : CuS w0 W B b0 b1 nm iv tv fv (some ⟨g, 0, none⟩) k c im ty fx nx) (hj : j < nx.length) {y : Nx} (h1 : OwnP W B 9 1 y.2.1 y.1.keys.length (strs y.1.keys)) (h2 : OwnP W B 3 1 y.2.2 y.1.l.length (ints y.1.l)) {WF : World}
    (hF : WF = (((((W.setCell ⟨g, j * 6, none⟩ (.int .i64 y.1.kind)).setCell ⟨g, j * 6 + 1, none⟩ (.int .i64 y.1.num)).setCell ⟨g, j * 6 + 2, none⟩ (.string (st y.1.mod))).setCell ⟨g, j * 6 + 3, none⟩ (.string (st y.1.name))).setCell ⟨g, j * 6 + 4, none⟩ y.2.1).setCell ⟨g, j * 6 + 5, none⟩ y.2.2) :
    CuS w0 WF B b0 b1 nm iv tv fv (some ⟨g, 0, none⟩) k c im ty fx (nx.set j y) := by
  have hk : Kp (fun q => q = g) W WF := by
    rw [hF]
    exact ((((((Kp.refl (fun q => q = g) W).setCell (p := ⟨g, j * 6, none⟩) (.inl rfl) _).setCell (p := ⟨g, j * 6 + 1, none⟩) (.inl rfl) _).setCell (p := ⟨g, j * 6 + 2, none⟩) (.inl rfl) _).setCell (p := ⟨g, j * 6 + 3, none⟩) (.inl rfl) _).setCell (p := ⟨g, j * 6 + 4, none⟩) (.inl rfl) _).setCell (p := ⟨g, j * 6 + 5, none⟩) (.inl rfl) _
  have hgB : B ≤ g := own_base h.n (k := g) rfl
  obtain ⟨cur, hcur⟩ : ∃ cur, Blk W g 57 cur := by
    rcases h.n.2 with ⟨hv, _⟩ | ⟨g', cap', cur, hv, hg, hh, _⟩
    · cases hv
    · injection hv with hv1
      injection hv1 with hv1
      injection hv1 with hv1
      subst hv1
      exact ⟨cur, hh⟩
  have key : ∀ {e : TypeId} {sz n : Nat} {v : Value} {xs : List Value}, OwnP W B e sz v n xs → 57 ≠ e → OwnP WF B e sz v n xs := fun hr he => hr.kp hk fun q hq => .inr (.inr ⟨_, he, cur, by rw [show q = g from hq]; exact hcur⟩)
  have hb0 : ¬ b0 = g := fun e => own_blk_ne h.n h.a0 (by decide) (by rw [e]; rfl)
  have hb1 : ¬ b1 = g := fun e => own_blk_ne h.n h.a1 (by decide) (by rw [e]; rfl)
  have hlen : (nx.set j y).length = nx.length := List.length_set
  have hsz : WF.heap.size = W.heap.size := by rw [hF]; simp [World.setCell]
  refine ⟨h.bel.trans (hk.toBelow h.bel.size (fun q hq e => ?_)), h.a0.kp hk hb0, h.a1.kp hk hb1, h.l0, h.l1, h.l2, by rw [hsz]; exact h.lB, key h.i (by decide), key h.t (by decide), key h.f (by decide), ?_, by rw [hlen]; exact h.hk, fun x hx => ⟨key (h.fo x hx).1 (by decide), key (h.fo x hx).2 (by decide)⟩, fun x hx => ?_⟩
  · have e : q = g := e
    have := h.l0
    have := h.l1
    omega
  · rw [hlen, flatN_set nx j hj y, hF]
    exact own_set (own_set (own_set (own_set (own_set (own_set h.n _ _) _ _) _ _) _ _) _ _) _ _
  · rcases List.mem_or_eq_of_mem_set hx with hx | rfl
    · exact ⟨key (h.no x hx).1 (by decide), key (h.no x hx).2 (by decide)⟩
    · exact ⟨key h1 (by decide), key h2 (by decide)⟩
theorem OwnP.le_cap {base sz n c : Nat} {A : Option Addr} {e : TypeId} {xs : List Value} (h : OwnP W base e sz (.slice A n c) n xs) : n ≤ c := by
  obtain ⟨A', N, c', ys, e, hn, ho, _⟩ := h
  injection e with _ _ e3
  have := own_le_cap ho
  omega
/-- Done: the box is copied into the result's. -/
theorem CuS.done (h : CuS w0 W B b0 b1 nm iv tv fv A k c im ty fx nx) {nmt : List UInt8} (hz : MdZ ⟨nmt, im, ty, fx.map (·.1), (nx.take k).map (·.1)⟩) (hb : w0.heap.size ≤ b1) (hlt : b1 < B) {WF : World}
    (hF : WF = ((((W.setCell ⟨b1, 0, none⟩ nm).setCell ⟨b1, 1, none⟩ iv).setCell ⟨b1, 2, none⟩ tv).setCell ⟨b1, 3, none⟩ fv).setCell ⟨b1, 4, none⟩ (.slice A k c)) : Blk WF b1 31 #[nm, iv, tv, fv, .slice A k c] ∧ (∀ W', Kp (fun q => q < w0.heap.size) WF W' → MZ W' iv tv fv (.slice A k c) ⟨nmt, im, ty, fx.map (·.1), (nx.take k).map (·.1)⟩ fx (nx.take k)) ∧ Below w0.heap.size w0 WF := by
  have hk : Kp (fun q => q = b1) W WF := by
    rw [hF]
    exact (((((Kp.refl (fun q => q = b1) W).setCell (p := ⟨b1, 0, none⟩) (.inl rfl) nm).setCell (p := ⟨b1, 1, none⟩) (.inl rfl) iv).setCell (p := ⟨b1, 2, none⟩) (.inl rfl) tv).setCell (p := ⟨b1, 3, none⟩) (.inl rfl) fv).setCell (p := ⟨b1, 4, none⟩) (.inl rfl) (.slice A k c)
  have hl0 := h.l0
  have hl1 := h.l1
  have key : ∀ {W' : World} {e : TypeId} {sz n : Nat} {v : Value} {xs : List Value}, Kp (fun q => q < w0.heap.size) WF W' → OwnP W B e sz v n xs → RowZ W' v n xs := fun hk' hr => ((hr.kp hk fun q hq => .inl (by rw [show q = b1 from hq]; exact hlt)).kp hk' fun q hq => .inl (by have hq : q < w0.heap.size := hq; omega)).z
  have hkn := h.hk
  refine ⟨by rw [hF]; exact ((((h.a1.set_ 0 nm).set_ 1 iv).set_ 2 tv).set_ 3 fv).set_ 4 (.slice A k c), fun W' hk' => ⟨hz, rfl, rfl, key hk' h.i, key hk' h.t, by rw [List.length_map]; exact key hk' h.f, ?_, fun x hx => ⟨key hk' (h.fo x hx).1, key hk' (h.fo x hx).2⟩, fun x hx => ⟨key hk' (h.no x (List.mem_of_mem_take hx)).1, key hk' (h.no x (List.mem_of_mem_take hx)).2⟩⟩, h.bel.trans (hk.toBelow h.bel.size (fun q hq e => by have e : q = b1 := e; omega))⟩
  have := key hk' ((OwnP.of h.n).cut hkn)
  rw [flatN_take] at this
  have e : ((nx.take k).map (·.1)).length = k := by rw [List.length_map, List.length_take]; omega
  show RowZ W' (.slice A k c) ((nx.take k).map (·.1)).length (flatN (nx.take k))
  rw [e]
  exact this
end
set_option maxHeartbeats 16000000 in
set_option maxRecDepth 100000 in
theorem cutM_c {w : World} {iv tv fv nv : Value} {m : Tr.Md} {fx : List Fx} {nx : List Nx} (h : MZ0 w iv tv fv nv m fx nx) :
    Calls Tryz.prog 15 #[.agg #[.string (st m.name), iv, tv, fv, nv]] w fun e w' => ∃ iv' tv' fv' nv' m' fx' nx', e = .returned (.agg #[.string (st m'.name), iv', tv', fv', nv']) ∧ (∀ W', Kp (fun q => q < w.heap.size) w' W' → MZ W' iv' tv' fv' nv' m' fx' nx') ∧ Below w.heap.size w w' := by
  obtain ⟨Ai, ci, rfl⟩ := h.i.1.form
  obtain ⟨At, ct, rfl⟩ := h.t.1.form
  obtain ⟨Af, cf, rfl⟩ := h.f.1.form
  obtain ⟨An, cn, rfl⟩ := h.n.1.form
  have HA0 := hid_ ((Blk.new w 31 #[.string (st m.name), .slice Ai m.imports.length ci, .slice At m.types.length ct, .slice Af m.fns.length cf, .slice An m.nodes.length cn]).alloc (.cells zeroM 31))
  have ha1 := Blk.new (w.alloc (.cells #[.string (st m.name), .slice Ai m.imports.length ci, .slice At m.types.length ct, .slice Af m.fns.length cf, .slice An m.nodes.length cn] 31)) 31 zeroM
  rw [alloc_sz] at ha1
  have HA1 := hid_ ha1
  have hW := (below_alloc w (.cells #[.string (st m.name), .slice Ai m.imports.length ci, .slice At m.types.length ct, .slice Af m.fns.length cf, .slice An m.nodes.length cn] 31)).alloc (by simp) (.cells zeroM 31)
  have HW := hid_ hW
  have HM := hid_ (h.below hW)
  have hsz : ((w.alloc (.cells #[.string (st m.name), .slice Ai m.imports.length ci, .slice At m.types.length ct, .slice Af m.fns.length cf, .slice An m.nodes.length cn] 31)).alloc (.cells zeroM 31)).heap.size = w.heap.size + 2 := by rw [alloc_sz, alloc_sz]
  have Hsz := hid_ hsz
  clear h ha1 hW hsz
  go_enter Tryz.func15, Tryz.ntmps15
  go_upto_region 1 with fail
  have HA0 := hid_ HA0.out
  unfold zeroM at HA0 HA1 HW HM Hsz
  generalize (w.alloc (.cells #[.string (st m.name), .slice Ai m.imports.length ci, .slice At m.types.length ct, .slice Af m.fns.length cf, .slice An m.nodes.length cn] 31)).alloc (.cells #[.string ⟨#[]⟩, .slice none 0 0, .slice none 0 0, .slice none 0 0, .slice none 0 0] 31) = W0 at *
  have x0 : W0.cell? ⟨w.heap.size, 0, none⟩ = some (.string (st m.name)) := HA0.out.cell 0
  have x1 : W0.cell? ⟨w.heap.size, 1, none⟩ = some (.slice Ai m.imports.length ci) := HA0.out.cell 1
  have x2 : W0.cell? ⟨w.heap.size, 2, none⟩ = some (.slice At m.types.length ct) := HA0.out.cell 2
  have x3 : W0.cell? ⟨w.heap.size, 3, none⟩ = some (.slice Af m.fns.length cf) := HA0.out.cell 3
  have x4 : W0.cell? ⟨w.heap.size, 4, none⟩ = some (.slice An m.nodes.length cn) := HA0.out.cell 4
  go_wp2_with fail
  refine (rcopy_c HM.out).mono ?_
  rintro e w1 ⟨iv1, tv1, fv1, nv1, fx1, nx1, rfl, hhi, hb⟩
  obtain ⟨Zi, zi, rfl⟩ := own_form hhi.i
  obtain ⟨Zt, zt, rfl⟩ := own_form hhi.t
  obtain ⟨Zf, zf, rfl⟩ := own_form hhi.f
  obtain ⟨Zn, zn, rfl⟩ := own_form hhi.n
  have HC := hid_ (show CtS w w1 W0.heap.size w.heap.size (w.heap.size + 1) _ _ _ _ _ m fx1 nx1 from ⟨HW.out.trans (hb.mono HW.out.size), HA0.out.kp (Kp.of_below hb fun _ => False) id, HA1.out.kp (Kp.of_below hb fun _ => False) id, hhi, Nat.le_refl _, by have := Hsz.out; omega, by omega, hb.size⟩)
  have x0 := below_cell hb x0
  have x1 := below_cell hb x1
  have x2 := below_cell hb x2
  have x3 := below_cell hb x3
  have x4 := below_cell hb x4
  have f0 := HC.out.a0.frozen 0
  have f1 := HC.out.a0.frozen 1
  have f2 := HC.out.a0.frozen 2
  have f3 := HC.out.a0.frozen 3
  have f4 := HC.out.a0.frozen 4
  clear hhi hb
  go_upto_region 2 with fail
  clear x0 x1 x2 x3 x4 f0 f1 f2 f3 f4
  have HC := hid_ (show CtS w (((((w1.setCell ⟨w.heap.size, 0, none⟩ (.string (st m.name))).setCell ⟨w.heap.size, 1, none⟩ (.slice Zi m.imports.length zi)).setCell ⟨w.heap.size, 2, none⟩ (.slice Zt m.types.length zt)).setCell ⟨w.heap.size, 3, none⟩ (.slice Zf m.fns.length zf)).setCell ⟨w.heap.size, 4, none⟩ (.slice Zn m.nodes.length zn)) W0.heap.size w.heap.size (w.heap.size + 1) #[.string (st m.name), .slice Zi m.imports.length zi, .slice Zt m.types.length zt, .slice Zf m.fns.length zf, .slice Zn m.nodes.length zn] (.slice Zi m.imports.length zi) (.slice Zt m.types.length zt) (.slice Zf m.fns.length zf) (.slice Zn m.nodes.length zn) m fx1 nx1 from ((((HC.out.store 0 (.string (st m.name))).store 1 (.slice Zi m.imports.length zi)).store 2 (.slice Zt m.types.length zt)).store 3 (.slice Zf m.fns.length zf)).store 4 (.slice Zn m.nodes.length zn))
  generalize (((((w1.setCell ⟨w.heap.size, 0, none⟩ (.string (st m.name))).setCell ⟨w.heap.size, 1, none⟩ (.slice Zi m.imports.length zi)).setCell ⟨w.heap.size, 2, none⟩ (.slice Zt m.types.length zt)).setCell ⟨w.heap.size, 3, none⟩ (.slice Zf m.fns.length zf)).setCell ⟨w.heap.size, 4, none⟩ (.slice Zn m.nodes.length zn)) = W1 at *
  have x0 : W1.cell? ⟨w.heap.size, 0, none⟩ = some (.string (st m.name)) := HC.out.a0.cell 0
  have f0 := HC.out.a0.frozen 0
  go_wp2_with fail
  refine short_c.mono ?_
  rintro e w2 ⟨rfl, rfl⟩
  obtain ⟨nm, hnm⟩ : ∃ nm, nm = m.name.take 20 := ⟨_, rfl⟩
  rw [← hnm]
  clear hnm
  go_upto_region 3 with fail
  have HC := hid_ (show CtS w (w2.setCell ⟨w.heap.size, 0, none⟩ (.string (st nm))) W0.heap.size w.heap.size (w.heap.size + 1) #[.string (st nm), .slice Zi m.imports.length zi, .slice Zt m.types.length zt, .slice Zf m.fns.length zf, .slice Zn m.nodes.length zn] (.slice Zi m.imports.length zi) (.slice Zt m.types.length zt) (.slice Zf m.fns.length zf) (.slice Zn m.nodes.length zn) m fx1 nx1 from HC.out.store 0 (.string (st nm)))
  clear x0 f0
  generalize w2.setCell ⟨w.heap.size, 0, none⟩ (.string (st nm)) = W2 at *
  have x1 : W2.cell? ⟨w.heap.size, 1, none⟩ = some (.slice Zi m.imports.length zi) := HC.out.a0.cell 1
  go_wp2_with fail
  refine (texts_c (.of HC.out.hi.i) HC.out.hi.sz.s.im).mono ?_
  rintro e w3 ⟨vt, rfl, hown, hb⟩
  have hlt0 : ((m.imports.take 20).map (·.take 20)).length ≤ 20 := by rw [List.length_map, List.length_take]; omega
  generalize (m.imports.take 20).map (·.take 20) = im at *
  obtain ⟨Zm, zm, rfl⟩ := own_form hown
  have hlB := HC.out.lB
  have HC := hid_ (HC.out.below hb)
  have hWsz : W0.heap.size ≤ W2.heap.size := hlB
  have HIm := hid_ (ownsRow_base hown hWsz)
  have f1 := HC.out.a0.frozen 1
  have x1 : w3.cell? ⟨w.heap.size, 1, none⟩ = some (.slice Zi m.imports.length zi) := HC.out.a0.cell 1
  clear hown hb hWsz hlB
  go_upto_region 4 with fail
  have hne0 : W0.heap.size = w.heap.size + 2 := Hsz.out
  have HIm := hid_ (own_kp HIm.out ((Kp.refl (fun q => q = w.heap.size) w3).setCell (p := ⟨w.heap.size, 1, none⟩) (.inl rfl) (.slice Zm im.length zm)) (fun q hq e => by have := own_base HIm.out hq; have e : q = w.heap.size := e; omega))
  have HC := hid_ (show CtS w (w3.setCell ⟨w.heap.size, 1, none⟩ (.slice Zm im.length zm)) W0.heap.size w.heap.size (w.heap.size + 1) #[.string (st nm), .slice Zm im.length zm, .slice Zt m.types.length zt, .slice Zf m.fns.length zf, .slice Zn m.nodes.length zn] (.slice Zi m.imports.length zi) (.slice Zt m.types.length zt) (.slice Zf m.fns.length zf) (.slice Zn m.nodes.length zn) m fx1 nx1 from HC.out.store 1 (.slice Zm im.length zm))
  clear x1 f1 hne0
  generalize w3.setCell ⟨w.heap.size, 1, none⟩ (.slice Zm im.length zm) = W3 at *
  have k2 := own_le_cap HC.out.hi.t
  have k3 := own_le_cap HC.out.hi.f
  have k4 := own_le_cap HC.out.hi.n
  have m2 : 0 ≤ min (m.types.length : Int) 20 ∧ min (m.types.length : Int) 20 ≤ (m.types.length : Int) ∧ min (m.types.length : Int) 20 ≤ (zt : Int) := by omega
  have m3 : 0 ≤ min (m.fns.length : Int) 20 ∧ min (m.fns.length : Int) 20 ≤ (m.fns.length : Int) ∧ min (m.fns.length : Int) 20 ≤ (zf : Int) := by omega
  have m4 : 0 ≤ min (m.nodes.length : Int) 60 ∧ min (m.nodes.length : Int) 60 ≤ (m.nodes.length : Int) ∧ min (m.nodes.length : Int) 60 ≤ (zn : Int) := by omega
  have HP := hid_ (show (fun W' : World => W'.cell? ⟨w.heap.size, 2, none⟩ = some (.slice Zt m.types.length zt) ∧ W'.cell? ⟨w.heap.size, 3, none⟩ = some (.slice Zf m.fns.length zf) ∧ W'.cell? ⟨w.heap.size, 4, none⟩ = some (.slice Zn m.nodes.length zn)) W3.drew from ⟨HC.out.a0.cell 2, HC.out.a0.cell 3, HC.out.a0.cell 4⟩)
  refine wp_regionL (fun W' : World => W'.cell? ⟨w.heap.size, 2, none⟩ = some (.slice Zt m.types.length zt) ∧ W'.cell? ⟨w.heap.size, 3, none⟩ = some (.slice Zf m.fns.length zf) ∧ W'.cell? ⟨w.heap.size, 4, none⟩ = some (.slice Zn m.nodes.length zn)) [22] (by kernel_rfl) ?_
  refine wpAnyL_take0 (i := 0) (v := ?vc0) rfl (by kernel_rfl) (by kernel_rfl) (by kernel_rfl) (by kernel_rfl) (fun _ _ _ h => h) (fun _ => HP.out) (Or.inl ⟨by rfl, ?hyc0⟩) ?restc0
  case hyc0 => (intro w hw; go_simp; with_reducible rfl)
  try simp only [Act.put, List.getElem_toArray, List.getElem_cons_zero, List.setIfInBounds_toArray, List.set_cons_zero, List.set_cons_succ]
  refine wpAnyL_take [1, 22] (i := 1) (v := ?vc1) rfl (by kernel_rfl) (by kernel_rfl) (by kernel_rfl) (by kernel_rfl) (by kernel_rfl) (by kernel_rfl) (fun _ _ _ h => h) HP.out (Or.inl ⟨by rfl, ?hyc1⟩) ?restc1
  case hyc1 => (intro w hw; obtain ⟨hw1, hw2, hw3⟩ := hw; go_simp; with_reducible rfl)
  try simp only [Act.put, List.getElem_toArray, List.getElem_cons_succ, List.getElem_cons_zero, List.setIfInBounds_toArray, List.set_cons_zero, List.set_cons_succ]
  refine wpAnyL_take0 (i := 2) (v := ?vc2) rfl (by kernel_rfl) (by kernel_rfl) (by kernel_rfl) (by kernel_rfl) (fun _ _ _ h => h) (fun _ => HP.out) (Or.inl ⟨by rfl, ?hyc2⟩) ?restc2
  case hyc2 => (intro w hw; go_simp; with_reducible rfl)
  try simp only [Act.put, List.getElem_toArray, List.getElem_cons_succ, List.getElem_cons_zero, List.setIfInBounds_toArray, List.set_cons_zero, List.set_cons_succ]
  refine wpAnyL_take [3, 22] (i := 3) (v := ?vc3) rfl (by kernel_rfl) (by kernel_rfl) (by kernel_rfl) (by kernel_rfl) (by kernel_rfl) (by kernel_rfl) (fun _ _ _ h => h) HP.out (Or.inl ⟨by rfl, ?hyc3⟩) ?restc3
  case hyc3 => (intro w hw; obtain ⟨hw1, hw2, hw3⟩ := hw; go_simp; with_reducible rfl)
  try simp only [Act.put, List.getElem_toArray, List.getElem_cons_succ, List.getElem_cons_zero, List.setIfInBounds_toArray, List.set_cons_zero, List.set_cons_succ]
  refine wpAnyL_take0 (i := 4) (v := ?vc4) rfl (by kernel_rfl) (by kernel_rfl) (by kernel_rfl) (by kernel_rfl) (fun _ _ _ h => h) (fun _ => HP.out) (Or.inl ⟨by rfl, ?hyc4⟩) ?restc4
  case hyc4 => (intro w hw; go_simp; with_reducible rfl)
  try simp only [Act.put, List.getElem_toArray, List.getElem_cons_succ, List.getElem_cons_zero, List.setIfInBounds_toArray, List.set_cons_zero, List.set_cons_succ]
  refine wpAnyL_take0 (i := 5) (v := ?vc5) rfl (by kernel_rfl) (by kernel_rfl) (by kernel_rfl) (by kernel_rfl) (fun _ _ _ h => h) (fun _ => HP.out) (Or.inl ⟨by rfl, ?hyc5⟩) ?restc5
  case hyc5 => (intro w hw; go_simp; with_reducible rfl)
  try simp only [Act.put, List.getElem_toArray, List.getElem_cons_succ, List.getElem_cons_zero, List.setIfInBounds_toArray, List.set_cons_zero, List.set_cons_succ]
  refine wpAnyL_take0 (i := 6) (v := ?vc6) rfl (by kernel_rfl) (by kernel_rfl) (by kernel_rfl) (by kernel_rfl) (fun _ _ _ h => h) (fun _ => HP.out) (Or.inl ⟨by rfl, ?hyc6⟩) ?restc6
  case hyc6 => (intro w hw; go_simp; with_reducible rfl)
  try simp only [Act.put, List.getElem_toArray, List.getElem_cons_succ, List.getElem_cons_zero, List.setIfInBounds_toArray, List.set_cons_zero, List.set_cons_succ]
  refine wpAnyL_take0 (i := 7) (v := ?vc7) rfl (by kernel_rfl) (by kernel_rfl) (by kernel_rfl) (by kernel_rfl) (fun _ _ _ h => h) (fun _ => HP.out) (Or.inl ⟨by rfl, ?hyc7⟩) ?restc7
  case hyc7 => (intro w hw; go_simp; with_reducible rfl)
  try simp only [Act.put, List.getElem_toArray, List.getElem_cons_succ, List.getElem_cons_zero, List.setIfInBounds_toArray, List.set_cons_zero, List.set_cons_succ]
  refine wpAnyL_take [8, 22] (i := 8) (v := ?vc8) rfl (by kernel_rfl) (by kernel_rfl) (by kernel_rfl) (by kernel_rfl) (by kernel_rfl) (by kernel_rfl) (fun _ _ _ h => h) HP.out (Or.inl ⟨by rfl, ?hyc8⟩) ?restc8
  case hyc8 => (intro w hw; obtain ⟨hw1, hw2, hw3⟩ := hw; go_simp; with_reducible rfl)
  try simp only [Act.put, List.getElem_toArray, List.getElem_cons_succ, List.getElem_cons_zero, List.setIfInBounds_toArray, List.set_cons_zero, List.set_cons_succ]
  refine wpAnyL_take0 (i := 9) (v := ?vc9) rfl (by kernel_rfl) (by kernel_rfl) (by kernel_rfl) (by kernel_rfl) (fun _ _ _ h => h) (fun _ => HP.out) (Or.inl ⟨by rfl, ?hyc9⟩) ?restc9
  case hyc9 => (intro w hw; go_simp; with_reducible rfl)
  try simp only [Act.put, List.getElem_toArray, List.getElem_cons_succ, List.getElem_cons_zero, List.setIfInBounds_toArray, List.set_cons_zero, List.set_cons_succ]
  refine wpAnyL_take [10, 22] (i := 10) (v := ?vc10) rfl (by kernel_rfl) (by kernel_rfl) (by kernel_rfl) (by kernel_rfl) (by kernel_rfl) (by kernel_rfl) (fun _ _ _ h => h) HP.out (Or.inl ⟨by rfl, ?hyc10⟩) ?restc10
  case hyc10 => (intro w hw; obtain ⟨hw1, hw2, hw3⟩ := hw; go_simp; with_reducible rfl)
  try simp only [Act.put, List.getElem_toArray, List.getElem_cons_succ, List.getElem_cons_zero, List.setIfInBounds_toArray, List.set_cons_zero, List.set_cons_succ]
  refine wpAnyL_take0 (i := 11) (v := ?vc11) rfl (by kernel_rfl) (by kernel_rfl) (by kernel_rfl) (by kernel_rfl) (fun _ _ _ h => h) (fun _ => HP.out) (Or.inl ⟨by rfl, ?hyc11⟩) ?restc11
  case hyc11 => (intro w hw; go_simp; with_reducible rfl)
  try simp only [Act.put, List.getElem_toArray, List.getElem_cons_succ, List.getElem_cons_zero, List.setIfInBounds_toArray, List.set_cons_zero, List.set_cons_succ]
  refine wpAnyL_take0 (i := 12) (v := ?vc12) rfl (by kernel_rfl) (by kernel_rfl) (by kernel_rfl) (by kernel_rfl) (fun _ _ _ h => h) (fun _ => HP.out) (Or.inl ⟨by rfl, ?hyc12⟩) ?restc12
  case hyc12 => (intro w hw; go_simp; with_reducible rfl)
  try simp only [Act.put, List.getElem_toArray, List.getElem_cons_succ, List.getElem_cons_zero, List.setIfInBounds_toArray, List.set_cons_zero, List.set_cons_succ]
  refine wpAnyL_take0 (i := 13) (v := ?vc13) rfl (by kernel_rfl) (by kernel_rfl) (by kernel_rfl) (by kernel_rfl) (fun _ _ _ h => h) (fun _ => HP.out) (Or.inl ⟨by rfl, ?hyc13⟩) ?restc13
  case hyc13 => (intro w hw; go_simp; with_reducible rfl)
  try simp only [Act.put, List.getElem_toArray, List.getElem_cons_succ, List.getElem_cons_zero, List.setIfInBounds_toArray, List.set_cons_zero, List.set_cons_succ]
  refine wpAnyL_take0 (i := 14) (v := ?vc14) rfl (by kernel_rfl) (by kernel_rfl) (by kernel_rfl) (by kernel_rfl) (fun _ _ _ h => h) (fun _ => HP.out) (Or.inl ⟨by rfl, ?hyc14⟩) ?restc14
  case hyc14 => (intro w hw; go_simp; with_reducible rfl)
  try simp only [Act.put, List.getElem_toArray, List.getElem_cons_succ, List.getElem_cons_zero, List.setIfInBounds_toArray, List.set_cons_zero, List.set_cons_succ]
  refine wpAnyL_take [15, 22] (i := 15) (v := ?vc15) rfl (by kernel_rfl) (by kernel_rfl) (by kernel_rfl) (by kernel_rfl) (by kernel_rfl) (by kernel_rfl) (fun _ _ _ h => h) HP.out (Or.inl ⟨by rfl, ?hyc15⟩) ?restc15
  case hyc15 => (intro w hw; obtain ⟨hw1, hw2, hw3⟩ := hw; go_simp; with_reducible rfl)
  try simp only [Act.put, List.getElem_toArray, List.getElem_cons_succ, List.getElem_cons_zero, List.setIfInBounds_toArray, List.set_cons_zero, List.set_cons_succ]
  refine wpAnyL_take0 (i := 16) (v := ?vc16) rfl (by kernel_rfl) (by kernel_rfl) (by kernel_rfl) (by kernel_rfl) (fun _ _ _ h => h) (fun _ => HP.out) (Or.inl ⟨by rfl, ?hyc16⟩) ?restc16
  case hyc16 => (intro w hw; go_simp; with_reducible rfl)
  try simp only [Act.put, List.getElem_toArray, List.getElem_cons_succ, List.getElem_cons_zero, List.setIfInBounds_toArray, List.set_cons_zero, List.set_cons_succ]
  refine wpAnyL_take [17, 22] (i := 17) (v := ?vc17) rfl (by kernel_rfl) (by kernel_rfl) (by kernel_rfl) (by kernel_rfl) (by kernel_rfl) (by kernel_rfl) (fun _ _ _ h => h) HP.out (Or.inl ⟨by rfl, ?hyc17⟩) ?restc17
  case hyc17 => (intro w hw; obtain ⟨hw1, hw2, hw3⟩ := hw; go_simp; with_reducible rfl)
  try simp only [Act.put, List.getElem_toArray, List.getElem_cons_succ, List.getElem_cons_zero, List.setIfInBounds_toArray, List.set_cons_zero, List.set_cons_succ]
  refine wpAnyL_take0 (i := 18) (v := ?vc18) rfl (by kernel_rfl) (by kernel_rfl) (by kernel_rfl) (by kernel_rfl) (fun _ _ _ h => h) (fun _ => HP.out) (Or.inl ⟨by rfl, ?hyc18⟩) ?restc18
  case hyc18 => (intro w hw; go_simp; with_reducible rfl)
  try simp only [Act.put, List.getElem_toArray, List.getElem_cons_succ, List.getElem_cons_zero, List.setIfInBounds_toArray, List.set_cons_zero, List.set_cons_succ]
  refine wpAnyL_take0 (i := 19) (v := ?vc19) rfl (by kernel_rfl) (by kernel_rfl) (by kernel_rfl) (by kernel_rfl) (fun _ _ _ h => h) (fun _ => HP.out) (Or.inl ⟨by rfl, ?hyc19⟩) ?restc19
  case hyc19 => (intro w hw; go_simp; with_reducible rfl)
  try simp only [Act.put, List.getElem_toArray, List.getElem_cons_succ, List.getElem_cons_zero, List.setIfInBounds_toArray, List.set_cons_zero, List.set_cons_succ]
  refine wpAnyL_take0 (i := 20) (v := ?vc20) rfl (by kernel_rfl) (by kernel_rfl) (by kernel_rfl) (by kernel_rfl) (fun _ _ _ h => h) (fun _ => HP.out) (Or.inl ⟨by rfl, ?hyc20⟩) ?restc20
  case hyc20 => (intro w hw; go_simp; with_reducible rfl)
  try simp only [Act.put, List.getElem_toArray, List.getElem_cons_succ, List.getElem_cons_zero, List.setIfInBounds_toArray, List.set_cons_zero, List.set_cons_succ]
  have x2 : W3.cell? ⟨w.heap.size, 2, none⟩ = some (.slice Zt m.types.length zt) := HC.out.a0.cell 2
  have x3 : W3.cell? ⟨w.heap.size, 3, none⟩ = some (.slice Zf m.fns.length zf) := HC.out.a0.cell 3
  have x4 : W3.cell? ⟨w.heap.size, 4, none⟩ = some (.slice Zn m.nodes.length zn) := HC.out.a0.cell 4
  have f2 := HC.out.a0.frozen 2
  have f3 := HC.out.a0.frozen 3
  have f4 := HC.out.a0.frozen 4
  refine wpAnyL_step (i := 21) (by kernel_rfl) rfl (fun K hK => ?_)
  go_simp
  refine hK.out _ _ (fun _ => HP.out) ?_
  clear hK K
  try simp only [Act.put, List.getElem_toArray, List.getElem_cons_succ, List.getElem_cons_zero, List.setIfInBounds_toArray, List.set_cons_zero, List.set_cons_succ]
  refine wpAnyL_step (i := 22) (by kernel_rfl) rfl (fun K hK => ?_)
  go_simp
  refine hK.out _ _ (tillL_off (s := 22) (by simp) (by kernel_rfl)) ?_
  clear hK K
  try simp only [Act.put, List.getElem_toArray, List.getElem_cons_succ, List.getElem_cons_zero, List.setIfInBounds_toArray, List.set_cons_zero, List.set_cons_succ]
  refine wpAnyL_step (i := 23) (by kernel_rfl) rfl (fun K hK => ?_)
  go_simp
  refine hK.out _ _ (tillL_off (s := 22) (by simp) (by kernel_rfl)) ?_
  clear hK K
  try simp only [Act.put, List.getElem_toArray, List.getElem_cons_succ, List.getElem_cons_zero, List.setIfInBounds_toArray, List.set_cons_zero, List.set_cons_succ]
  refine wpAnyL_step (i := 24) (by kernel_rfl) rfl (fun K hK => ?_)
  go_simp
  refine hK.out _ _ (tillL_off (s := 22) (by simp) (by kernel_rfl)) ?_
  clear hK K
  try simp only [Act.put, List.getElem_toArray, List.getElem_cons_succ, List.getElem_cons_zero, List.setIfInBounds_toArray, List.set_cons_zero, List.set_cons_succ]
  refine wpAnyL_step (i := 25) (by kernel_rfl) rfl (fun K hK => ?_)
  go_simp
  refine hK.out _ _ (tillL_off (s := 22) (by simp) (by kernel_rfl)) ?_
  clear hK K
  try simp only [Act.put, List.getElem_toArray, List.getElem_cons_succ, List.getElem_cons_zero, List.setIfInBounds_toArray, List.set_cons_zero, List.set_cons_succ]
  refine wpAnyL_step (i := 26) (by kernel_rfl) rfl (fun K hK => ?_)
  go_simp
  refine hK.out _ _ (tillL_off (s := 22) (by simp) (by kernel_rfl)) ?_
  clear hK K
  try simp only [Act.put, List.getElem_toArray, List.getElem_cons_succ, List.getElem_cons_zero, List.setIfInBounds_toArray, List.set_cons_zero, List.set_cons_succ]
  refine wpAnyL_done (by kernel_rfl) ?_ _
  have h0n : W0.heap.size = w.heap.size + 2 := Hsz.out
  have hnl : nx1.length = m.nodes.length := by rw [← HC.out.hi.ne, List.length_map]
  have HU := hid_ (CuS.start HC.out (by omega) HIm.out (kt := (min (m.types.length : Int) 20).toNat) (kf := (min (m.fns.length : Int) 20).toNat) (kn := (min (m.nodes.length : Int) 60).toNat) (by omega) (by omega) (by omega) rfl)
  have HZm := hid_ (show im.length ≤ 20 ∧ (m.types.take (min (m.types.length : Int) 20).toNat).length ≤ 20 ∧ (fx1.take (min (m.fns.length : Int) 20).toNat).length ≤ 20 from ⟨hlt0, by rw [List.length_take]; omega, by rw [List.length_take]; omega⟩)
  have HFb := hid_ (show ∀ x ∈ fx1.take (min (m.fns.length : Int) 20).toNat, x.1.vars.length * 24 ≤ 140737488351232 ∧ x.1.params.length * 24 ≤ 140737488351232 from fun x hx => HC.out.hi.sz.fb _ (by rw [← HC.out.hi.fe]; exact List.mem_map_of_mem (List.mem_of_mem_take hx)))
  have hk60 : (min (m.nodes.length : Int) 60).toNat ≤ 60 ∧ (min (m.nodes.length : Int) 60).toNat ≤ nx1.length := by omega
  clear x2 x3 x4 f2 f3 f4 k2 k3 k4 hlt0 h0n hnl HC HIm
  generalize m.types.take (min (m.types.length : Int) 20).toNat = ty at *
  generalize fx1.take (min (m.fns.length : Int) 20).toNat = fy at *
  clear m2 m3 m4
  generalize (min (m.types.length : Int) 20).toNat = kt at *
  generalize (min (m.fns.length : Int) 20).toNat = kf at *
  generalize (min (m.nodes.length : Int) 60).toNat = kn at *
  generalize ((W3.setCell ⟨w.heap.size, 2, none⟩ (.slice Zt kt zt)).setCell ⟨w.heap.size, 3, none⟩ (.slice Zf kf zf)).setCell ⟨w.heap.size, 4, none⟩ (.slice Zn kn zn) = W4 at *
  obtain ⟨W5, hW5⟩ : ∃ W5, W5 = W4.drew := ⟨_, rfl⟩
  have HU := hid_ (show CuS w W5 W0.heap.size w.heap.size (w.heap.size + 1) _ _ _ _ _ _ _ _ _ _ _ from hW5 ▸ HU.out.drew)
  rw [← hW5]
  clear hW5
  obtain ⟨hk60a, hk60b⟩ := hk60
  go_wp2_with fail
  go_loopg [3, 4] (kn + 1) (fun g v3 _ wr => ∃ (i : Nat) (nx' : List Nx), v3 = .int .i64 i ∧ i ≤ kn ∧ nx'.length = nx1.length ∧ CuS w wr W0.heap.size w.heap.size (w.heap.size + 1) (.string (st nm)) (.slice Zm im.length zm) (.slice Zt kt zt) (.slice Zf kf zf) Zn kn zn im ty fy nx' ∧ (∀ j x, j < i → nx'[j]? = some x → x.1.keys.length ≤ 20 ∧ x.1.l.length ≤ 20) ∧ kn - i + 1 ≤ g)
  case atStart => exact ⟨0, nx1, rfl, by omega, rfl, HU.out, fun j x hj => absurd hj (by omega), by omega⟩
  case round =>
    clear HU
    obtain ⟨i, nx', rfl, hi, hnl, hu, hnp, hg⟩ := hrel
    have HU := hid_ hu
    have HNp := hid_ hnp
    clear hu hnp
    have x4 : wr.cell? ⟨w.heap.size, 4, none⟩ = some (.slice Zn kn zn) := HU.out.a0.cell 4
    by_cases hlt : i < kn
    · have b0 : (0 : Int) ≤ (i : Int) := by omega
      have b1 : (i : Int) < (kn : Int) := by omega
      have hix : i < nx'.length := by omega
      obtain ⟨g1, c1, hz⟩ := own_head HU.out.n (by omega)
      injection hz with hz hzl hzc
      clear hzl
      subst hz hzc
      have hno := HU.out.no _ (List.getElem_mem hix)
      have hfa := fun j hj => flatN_getA nx' i hix j hj
      have HSt := hid_ (fun (W' : World) (hb : Below wr.heap.size wr W') (y : Nx) h1 h2 (WF : World) hF => (HU.out.below hb).setN hix (y := y) h1 h2 (WF := WF) hF)
      have hcf := fun j u hu => own_cell HU.out.n j u hu
      have HSg := hid_ (fun (y : Nx) (hy : y.1.keys.length ≤ 20 ∧ y.1.l.length ≤ 20) => (show ∀ j x, j < i + 1 → (nx'.set i y)[j]? = some x → x.1.keys.length ≤ 20 ∧ x.1.l.length ≤ 20 from fun j x hj hx => by
        rcases set_get hx with ⟨_, rfl⟩ | ⟨hne, hx⟩
        · exact hy
        · exact HNp.out j x (by omega) hx))
      generalize nx'[i] = x at *
      obtain ⟨nd, kv, lv⟩ := x
      have hk1 : OwnP wr W0.heap.size 9 1 kv nd.keys.length (strs nd.keys) := hno.1
      have hl1 : OwnP wr W0.heap.size 3 1 lv nd.l.length (ints nd.l) := hno.2
      obtain ⟨Ak, ck, rfl⟩ := hk1.form
      obtain ⟨Al, cl, rfl⟩ := hl1.form
      have HK := hid_ hk1
      have HL := hid_ hl1
      have hlc := hl1.le_cap
      have hkm : nd.keys.length ≤ 9223372036854775807 := by
        obtain ⟨_, N, _, ys, e, hn, ho, _⟩ := hk1
        have := own_max ho
        omega
      have m5 : 0 ≤ min (nd.l.length : Int) 20 ∧ min (nd.l.length : Int) 20 ≤ (nd.l.length : Int) ∧ min (nd.l.length : Int) 20 ≤ (cl : Int) := by omega
      have t0 : wr.cell? ⟨g1, i * 6, none⟩ = some (.int .i64 nd.kind) := hcf (i * 6) _ (hfa 0 (by omega))
      have t1 : wr.cell? ⟨g1, i * 6 + 1, none⟩ = some (.int .i64 nd.num) := hcf (i * 6 + 1) _ (hfa 1 (by omega))
      have t2 : wr.cell? ⟨g1, i * 6 + 2, none⟩ = some (.string (st nd.mod)) := hcf (i * 6 + 2) _ (hfa 2 (by omega))
      have t3 : wr.cell? ⟨g1, i * 6 + 3, none⟩ = some (.string (st nd.name)) := hcf (i * 6 + 3) _ (hfa 3 (by omega))
      have t4 : wr.cell? ⟨g1, i * 6 + 4, none⟩ = some (.slice Ak nd.keys.length ck) := hcf (i * 6 + 4) _ (hfa 4 (by omega))
      have t5 : wr.cell? ⟨g1, i * 6 + 5, none⟩ = some (.slice Al nd.l.length cl) := hcf (i * 6 + 5) _ (hfa 5 (by omega))
      have hgb : w.heap.size ≠ g1 := fun e => own_blk_ne HU.out.n HU.out.a0 (by decide) (by rw [e]; rfl)
      have hgl := own_lt HU.out.n (k := g1) rfl
      have Hgb := hid_ hgb
      have Hgl := hid_ hgl
      have Hix := hid_ hix
      have Hnl := hid_ hnl
      have Hkm := hid_ hkm
      clear hcf hfa hno hk1 hl1 hgb hgl hix hnl hkm hlc
      go_upto_region 9 with fail
      have HNb := hid_ (Blk.new wr 57 #[.int .i64 nd.kind, .int .i64 nd.num, .string (st nd.mod), .string (st nd.name), .slice Ak nd.keys.length ck, .slice Al nd.l.length cl])
      have HBw := hid_ (below_alloc wr (.cells #[.int .i64 nd.kind, .int .i64 nd.num, .string (st nd.mod), .string (st nd.name), .slice Ak nd.keys.length ck, .slice Al nd.l.length cl] 57))
      generalize wr.alloc (.cells #[.int .i64 nd.kind, .int .i64 nd.num, .string (st nd.mod), .string (st nd.name), .slice Ak nd.keys.length ck, .slice Al nd.l.length cl] 57) = W6 at *
      obtain ⟨nb, hnb⟩ : ∃ nb, nb = wr.heap.size := ⟨_, rfl⟩
      rw [← hnb] at HNb ⊢
      have Hnb := hid_ hnb
      have HT := hid_ (⟨t0, t1, t2, t3, t4, t5⟩ : _ ∧ _ ∧ _ ∧ _ ∧ _ ∧ _)
      clear hnb t0 t1 t2 t3 t4 t5 x4
      have HP := hid_ (show (fun W' : World => W'.cell? ⟨nb, 4, none⟩ = some (.slice Ak nd.keys.length ck) ∧ W'.cell? ⟨nb, 5, none⟩ = some (.slice Al nd.l.length cl)) W6.drew from ⟨HNb.out.cell 4, HNb.out.cell 5⟩)
      have HB4 := hid_ (show Below wr.heap.size wr W6.drew from HBw.out.drew)
      have HNb := hid_ (show Blk W6.drew nb 57 #[.int .i64 nd.kind, .int .i64 nd.num, .string (st nd.mod), .string (st nd.name), .slice Ak nd.keys.length ck, .slice Al nd.l.length cl] from HNb.out)
      refine wp_regionL (fun W' : World => W'.cell? ⟨nb, 4, none⟩ = some (.slice Ak nd.keys.length ck) ∧ W'.cell? ⟨nb, 5, none⟩ = some (.slice Al nd.l.length cl)) [11] (by kernel_rfl) ?_
      refine wpAnyL_take0 (i := 0) (v := ?vn0) rfl (by kernel_rfl) (by kernel_rfl) (by kernel_rfl) (by kernel_rfl) (fun _ _ _ h => h) (fun _ => HP.out) (Or.inl ⟨by rfl, ?hyn0⟩) ?restn0
      case hyn0 => (intro w hw; go_simp; with_reducible rfl)
      try simp only [Act.put, List.getElem_toArray, List.getElem_cons_zero, List.setIfInBounds_toArray, List.set_cons_zero, List.set_cons_succ]
      refine wpAnyL_take [1, 2, 11] (i := 1) (v := ?vn1) rfl (by kernel_rfl) (by kernel_rfl) (by kernel_rfl) (by kernel_rfl) (by kernel_rfl) (by kernel_rfl) (fun _ _ _ h => h) HP.out (Or.inl ⟨by rfl, ?hyn1⟩) ?restn1
      case hyn1 => (intro w hw; obtain ⟨hw1, hw2⟩ := hw; go_simp; with_reducible rfl)
      try simp only [Act.put, List.getElem_toArray, List.getElem_cons_succ, List.getElem_cons_zero, List.setIfInBounds_toArray, List.set_cons_zero, List.set_cons_succ]
      refine wpAnyL_take0 (i := 3) (v := ?vn3) rfl (by kernel_rfl) (by kernel_rfl) (by kernel_rfl) (by kernel_rfl) (fun _ _ _ h => h) (fun _ => HP.out) (Or.inl ⟨by rfl, ?hyn3⟩) ?restn3
      case hyn3 => (intro w hw; go_simp; with_reducible rfl)
      try simp only [Act.put, List.getElem_toArray, List.getElem_cons_succ, List.getElem_cons_zero, List.setIfInBounds_toArray, List.set_cons_zero, List.set_cons_succ]
      refine wpAnyL_take [4, 11] (i := 4) (v := ?vn4) rfl (by kernel_rfl) (by kernel_rfl) (by kernel_rfl) (by kernel_rfl) (by kernel_rfl) (by kernel_rfl) (fun _ _ _ h => h) HP.out (Or.inl ⟨by rfl, ?hyn4⟩) ?restn4
      case hyn4 => (intro w hw; obtain ⟨hw1, hw2⟩ := hw; go_simp; with_reducible rfl)
      try simp only [Act.put, List.getElem_toArray, List.getElem_cons_succ, List.getElem_cons_zero, List.setIfInBounds_toArray, List.set_cons_zero, List.set_cons_succ]
      refine wpAnyL_take0 (i := 5) (v := ?vn5) rfl (by kernel_rfl) (by kernel_rfl) (by kernel_rfl) (by kernel_rfl) (fun _ _ _ h => h) (fun _ => HP.out) (Or.inl ⟨by rfl, ?hyn5⟩) ?restn5
      case hyn5 => (intro w hw; go_simp; with_reducible rfl)
      try simp only [Act.put, List.getElem_toArray, List.getElem_cons_succ, List.getElem_cons_zero, List.setIfInBounds_toArray, List.set_cons_zero, List.set_cons_succ]
      refine wpAnyL_take [6, 11] (i := 6) (v := ?vn6) rfl (by kernel_rfl) (by kernel_rfl) (by kernel_rfl) (by kernel_rfl) (by kernel_rfl) (by kernel_rfl) (fun _ _ _ h => h) HP.out (Or.inl ⟨by rfl, ?hyn6⟩) ?restn6
      case hyn6 => (intro w hw; obtain ⟨hw1, hw2⟩ := hw; go_simp; with_reducible rfl)
      try simp only [Act.put, List.getElem_toArray, List.getElem_cons_succ, List.getElem_cons_zero, List.setIfInBounds_toArray, List.set_cons_zero, List.set_cons_succ]
      refine wpAnyL_take0 (i := 7) (v := ?vn7) rfl (by kernel_rfl) (by kernel_rfl) (by kernel_rfl) (by kernel_rfl) (fun _ _ _ h => h) (fun _ => HP.out) (Or.inl ⟨by rfl, ?hyn7⟩) ?restn7
      case hyn7 => (intro w hw; go_simp; with_reducible rfl)
      try simp only [Act.put, List.getElem_toArray, List.getElem_cons_succ, List.getElem_cons_zero, List.setIfInBounds_toArray, List.set_cons_zero, List.set_cons_succ]
      refine wpAnyL_take0 (i := 8) (v := ?vn8) rfl (by kernel_rfl) (by kernel_rfl) (by kernel_rfl) (by kernel_rfl) (fun _ _ _ h => h) (fun _ => HP.out) (Or.inl ⟨by rfl, ?hyn8⟩) ?restn8
      case hyn8 => (intro w hw; go_simp; with_reducible rfl)
      try simp only [Act.put, List.getElem_toArray, List.getElem_cons_succ, List.getElem_cons_zero, List.setIfInBounds_toArray, List.set_cons_zero, List.set_cons_succ]
      refine wpAnyL_take0 (i := 9) (v := ?vn9) rfl (by kernel_rfl) (by kernel_rfl) (by kernel_rfl) (by kernel_rfl) (fun _ _ _ h => h) (fun _ => HP.out) (Or.inl ⟨by rfl, ?hyn9⟩) ?restn9
      case hyn9 => (intro w hw; go_simp; with_reducible rfl)
      try simp only [Act.put, List.getElem_toArray, List.getElem_cons_succ, List.getElem_cons_zero, List.setIfInBounds_toArray, List.set_cons_zero, List.set_cons_succ]
      refine wpAnyL_step (i := 2) (by kernel_rfl) rfl (fun K hK => ?_)
      go_simp
      go_at_call 43
      refine (texts_c (HK.out.below HB4.out).z Hkm.out).mono ?_
      intro e x1 hE
      obtain ⟨v1, rfl, hown, hb⟩ := hE
      have hky : ((nd.keys.take 20).map (·.take 20)).length ≤ 20 := by rw [List.length_map, List.length_take]; omega
      generalize (nd.keys.take 20).map (·.take 20) = ky at *
      obtain ⟨C1, d1, rfl⟩ := own_form hown
      have HKy := hid_ (OwnP.of (ownsRow_base hown (Nat.le_trans HU.out.lB HB4.out.size)))
      have HB5 := hid_ (HB4.out.trans (hb.mono HB4.out.size))
      have HNb := hid_ (HNb.out.kp (Kp.of_below hb fun _ => False) id)
      have Hky := hid_ hky
      clear hown hb HP hky
      have HP := hid_ (show (fun W' : World => W'.cell? ⟨nb, 4, none⟩ = some (.slice Ak nd.keys.length ck) ∧ W'.cell? ⟨nb, 5, none⟩ = some (.slice Al nd.l.length cl)) x1 from ⟨HNb.out.cell 4, HNb.out.cell 5⟩)
      refine hK.out _ _ (fun _ => HP.out) ?_
      clear hK K
      try simp only [Act.put, List.getElem_toArray, List.getElem_cons_succ, List.getElem_cons_zero, List.setIfInBounds_toArray, List.set_cons_zero, List.set_cons_succ]
      have z4 : x1.cell? ⟨nb, 4, none⟩ = some (.slice Ak nd.keys.length ck) := HNb.out.cell 4
      have z5 : x1.cell? ⟨nb, 5, none⟩ = some (.slice Al nd.l.length cl) := HNb.out.cell 5
      have f4 := HNb.out.frozen 4
      have f5 := HNb.out.frozen 5
      refine wpAnyL_step (i := 10) (by kernel_rfl) rfl (fun K hK => ?_)
      go_simp
      refine hK.out _ _ (fun _ => HP.out) ?_
      clear hK K
      try simp only [Act.put, List.getElem_toArray, List.getElem_cons_succ, List.getElem_cons_zero, List.setIfInBounds_toArray, List.set_cons_zero, List.set_cons_succ]
      refine wpAnyL_step (i := 11) (by kernel_rfl) rfl (fun K hK => ?_)
      go_simp
      refine hK.out _ _ (tillL_off (s := 11) (by simp) (by kernel_rfl)) ?_
      clear hK K
      try simp only [Act.put, List.getElem_toArray, List.getElem_cons_succ, List.getElem_cons_zero, List.setIfInBounds_toArray, List.set_cons_zero, List.set_cons_succ]
      refine wpAnyL_step (i := 12) (by kernel_rfl) rfl (fun K hK => ?_)
      go_simp
      refine hK.out _ _ (tillL_off (s := 11) (by simp) (by kernel_rfl)) ?_
      clear hK K
      try simp only [Act.put, List.getElem_toArray, List.getElem_cons_succ, List.getElem_cons_zero, List.setIfInBounds_toArray, List.set_cons_zero, List.set_cons_succ]
      refine wpAnyL_step (i := 13) (by kernel_rfl) rfl (fun K hK => ?_)
      go_simp
      refine hK.out _ _ (tillL_off (s := 11) (by simp) (by kernel_rfl)) ?_
      clear hK K
      try simp only [Act.put, List.getElem_toArray, List.getElem_cons_succ, List.getElem_cons_zero, List.setIfInBounds_toArray, List.set_cons_zero, List.set_cons_succ]
      refine wpAnyL_done (by kernel_rfl) ?_ _
      clear z4 z5 f4 f5 HP
      have hkl : (min (nd.l.length : Int) 20).toNat ≤ nd.l.length ∧ (min (nd.l.length : Int) 20).toNat ≤ 20 := by omega
      have HKp7 := hid_ (((Kp.refl (fun q => q = nb) x1).setCell (p := ⟨nb, 4, none⟩) (.inl rfl) (.slice C1 ky.length d1)).setCell (p := ⟨nb, 5, none⟩) (.inl rfl) (.slice Al (min (nd.l.length : Int) 20).toNat cl))
      have HKy := hid_ (HKy.out.kp HKp7.out (fun q hq => .inr (.inr ⟨57, by decide, #[.int .i64 nd.kind, .int .i64 nd.num, .string (st nd.mod), .string (st nd.name), .slice Ak nd.keys.length ck, .slice Al nd.l.length cl], by rw [show q = nb from hq]; exact HNb.out⟩)))
      have HLy := hid_ (((HL.out.below HB5.out).cut hkl.1).kp HKp7.out (fun q hq => .inr (.inr ⟨57, by decide, #[.int .i64 nd.kind, .int .i64 nd.num, .string (st nd.mod), .string (st nd.name), .slice Ak nd.keys.length ck, .slice Al nd.l.length cl], by rw [show q = nb from hq]; exact HNb.out⟩)))
      have HNb := hid_ (show Blk ((x1.setCell ⟨nb, 4, none⟩ (.slice C1 ky.length d1)).setCell ⟨nb, 5, none⟩ (.slice Al (min (nd.l.length : Int) 20).toNat cl)) nb 57 #[.int .i64 nd.kind, .int .i64 nd.num, .string (st nd.mod), .string (st nd.name), .slice C1 ky.length d1, .slice Al (min (nd.l.length : Int) 20).toNat cl] from (HNb.out.set_ 4 (.slice C1 ky.length d1)).set_ 5 (.slice Al (min (nd.l.length : Int) 20).toNat cl))
      have HB5 := hid_ ((HB5.out.setCell (p := ⟨nb, 4, none⟩) (Nat.le_of_eq Hnb.out.symm) (.slice C1 ky.length d1)).setCell (p := ⟨nb, 5, none⟩) (Nat.le_of_eq Hnb.out.symm) (.slice Al (min (nd.l.length : Int) 20).toNat cl))
      have Hkl := hid_ hkl
      clear m5 hkl HKp7
      generalize (min (nd.l.length : Int) 20).toNat = kl at *
      generalize ((x1.setCell ⟨nb, 4, none⟩ (.slice C1 ky.length d1)).setCell ⟨nb, 5, none⟩ (.slice Al kl cl)) = W7 at *
      have HKy := hid_ HKy.out
      go_upto_region 10 with fail
      have HNb := hid_ (show Blk W7.drew nb 57 #[.int .i64 nd.kind, .int .i64 nd.num, .string (st nd.mod), .string (st nd.name), .slice C1 ky.length d1, .slice Al kl cl] from HNb.out)
      have HKy := hid_ (HKy.out.below (Below.refl _ _).drew)
      have HLy := hid_ (HLy.out.below (Below.refl _ _).drew)
      have HB5 := hid_ HB5.out.drew
      have HP := hid_ (show (fun W' : World => W'.cell? ⟨nb, 2, none⟩ = some (.string (st nd.mod)) ∧ W'.cell? ⟨nb, 3, none⟩ = some (.string (st nd.name))) W7.drew from ⟨HNb.out.cell 2, HNb.out.cell 3⟩)
      refine wp_regionL (fun W' : World => W'.cell? ⟨nb, 2, none⟩ = some (.string (st nd.mod)) ∧ W'.cell? ⟨nb, 3, none⟩ = some (.string (st nd.name))) [7] (by kernel_rfl) ?_
      generalize W7.drew = wd at *
      refine wpAnyL_take0 (i := 0) (v := ?vp0) rfl (by kernel_rfl) (by kernel_rfl) (by kernel_rfl) (by kernel_rfl) (fun _ _ _ h => h) (fun _ => HP.out) (Or.inl ⟨by rfl, ?hyp0⟩) ?restp0
      case hyp0 => (intro w hw; go_simp; with_reducible rfl)
      try simp only [Act.put, List.getElem_toArray, List.getElem_cons_zero, List.setIfInBounds_toArray, List.set_cons_zero, List.set_cons_succ]
      refine wpAnyL_take [1, 2, 7] (i := 1) (v := ?vp1) rfl (by kernel_rfl) (by kernel_rfl) (by kernel_rfl) (by kernel_rfl) (by kernel_rfl) (by kernel_rfl) (fun _ _ _ h => h) HP.out (Or.inl ⟨by rfl, ?hyp1⟩) ?restp1
      case hyp1 => (intro w hw; obtain ⟨hw1, hw2⟩ := hw; go_simp; with_reducible rfl)
      try simp only [Act.put, List.getElem_toArray, List.getElem_cons_succ, List.getElem_cons_zero, List.setIfInBounds_toArray, List.set_cons_zero, List.set_cons_succ]
      refine wpAnyL_take0 (i := 3) (v := ?vp3) rfl (by kernel_rfl) (by kernel_rfl) (by kernel_rfl) (by kernel_rfl) (fun _ _ _ h => h) (fun _ => HP.out) (Or.inl ⟨by rfl, ?hyp3⟩) ?restp3
      case hyp3 => (intro w hw; go_simp; with_reducible rfl)
      try simp only [Act.put, List.getElem_toArray, List.getElem_cons_succ, List.getElem_cons_zero, List.setIfInBounds_toArray, List.set_cons_zero, List.set_cons_succ]
      refine wpAnyL_take [4, 5, 7] (i := 4) (v := ?vp4) rfl (by kernel_rfl) (by kernel_rfl) (by kernel_rfl) (by kernel_rfl) (by kernel_rfl) (by kernel_rfl) (fun _ _ _ h => h) HP.out (Or.inl ⟨by rfl, ?hyp4⟩) ?restp4
      case hyp4 => (intro w hw; obtain ⟨hw1, hw2⟩ := hw; go_simp; with_reducible rfl)
      try simp only [Act.put, List.getElem_toArray, List.getElem_cons_succ, List.getElem_cons_zero, List.setIfInBounds_toArray, List.set_cons_zero, List.set_cons_succ]
      refine wpAnyL_step (i := 2) (by kernel_rfl) rfl (fun K hK => ?_)
      go_simp
      go_at_call 42
      refine short_c.mono ?_
      intro e y2 hE
      obtain ⟨rfl, hyw⟩ := hE
      rw [hyw]
      clear hyw y2
      obtain ⟨md, hmd⟩ : ∃ md, md = nd.mod.take 20 := ⟨_, rfl⟩
      rw [← hmd]
      clear hmd
      refine hK.out _ _ (fun _ => HP.out) ?_
      clear hK K
      try simp only [Act.put, List.getElem_toArray, List.getElem_cons_succ, List.getElem_cons_zero, List.setIfInBounds_toArray, List.set_cons_zero, List.set_cons_succ]
      refine wpAnyL_take0 (i := 6) (v := ?vp6) rfl (by kernel_rfl) (by kernel_rfl) (by kernel_rfl) (by kernel_rfl) (fun _ _ _ h => h) (fun _ => HP.out) (Or.inl ⟨by rfl, ?hyp6⟩) ?restp6
      case hyp6 => (intro w hw; go_simp; with_reducible rfl)
      try simp only [Act.put, List.getElem_toArray, List.getElem_cons_succ, List.getElem_cons_zero, List.setIfInBounds_toArray, List.set_cons_zero, List.set_cons_succ]
      refine wpAnyL_step (i := 5) (by kernel_rfl) rfl (fun K hK => ?_)
      go_simp
      go_at_call 42
      refine short_c.mono ?_
      intro e y5 hE
      obtain ⟨rfl, hyw⟩ := hE
      rw [hyw]
      clear hyw y5
      obtain ⟨nm2, hnm2⟩ : ∃ nm2, nm2 = nd.name.take 20 := ⟨_, rfl⟩
      rw [← hnm2]
      clear hnm2
      refine hK.out _ _ (fun _ => HP.out) ?_
      clear hK K
      try simp only [Act.put, List.getElem_toArray, List.getElem_cons_succ, List.getElem_cons_zero, List.setIfInBounds_toArray, List.set_cons_zero, List.set_cons_succ]
      have z2 : wd.cell? ⟨nb, 2, none⟩ = some (.string (st nd.mod)) := HNb.out.cell 2
      have z3 : wd.cell? ⟨nb, 3, none⟩ = some (.string (st nd.name)) := HNb.out.cell 3
      have f2 := HNb.out.frozen 2
      have f3 := HNb.out.frozen 3
      refine wpAnyL_step (i := 7) (by kernel_rfl) rfl (fun K hK => ?_)
      go_simp
      refine hK.out _ _ (tillL_off (s := 7) (by simp) (by kernel_rfl)) ?_
      clear hK K
      try simp only [Act.put, List.getElem_toArray, List.getElem_cons_succ, List.getElem_cons_zero, List.setIfInBounds_toArray, List.set_cons_zero, List.set_cons_succ]
      refine wpAnyL_step (i := 8) (by kernel_rfl) rfl (fun K hK => ?_)
      go_simp
      refine hK.out _ _ (tillL_off (s := 7) (by simp) (by kernel_rfl)) ?_
      clear hK K
      try simp only [Act.put, List.getElem_toArray, List.getElem_cons_succ, List.getElem_cons_zero, List.setIfInBounds_toArray, List.set_cons_zero, List.set_cons_succ]
      refine wpAnyL_step (i := 9) (by kernel_rfl) rfl (fun K hK => ?_)
      go_simp
      refine hK.out _ _ (tillL_off (s := 7) (by simp) (by kernel_rfl)) ?_
      clear hK K
      try simp only [Act.put, List.getElem_toArray, List.getElem_cons_succ, List.getElem_cons_zero, List.setIfInBounds_toArray, List.set_cons_zero, List.set_cons_succ]
      refine wpAnyL_done (by kernel_rfl) ?_ _
      clear z2 z3 f2 f3 HP
      have HKp8 := hid_ (((Kp.refl (fun q => q = nb) wd).setCell (p := ⟨nb, 2, none⟩) (.inl rfl) (.string (st md))).setCell (p := ⟨nb, 3, none⟩) (.inl rfl) (.string (st nm2)))
      have HKy := hid_ (HKy.out.kp HKp8.out (fun q hq => .inr (.inr ⟨57, by decide, #[.int .i64 nd.kind, .int .i64 nd.num, .string (st nd.mod), .string (st nd.name), .slice C1 ky.length d1, .slice Al kl cl], by rw [show q = nb from hq]; exact HNb.out⟩)))
      have HLy := hid_ (HLy.out.kp HKp8.out (fun q hq => .inr (.inr ⟨57, by decide, #[.int .i64 nd.kind, .int .i64 nd.num, .string (st nd.mod), .string (st nd.name), .slice C1 ky.length d1, .slice Al kl cl], by rw [show q = nb from hq]; exact HNb.out⟩)))
      have HNb := hid_ (show Blk ((wd.setCell ⟨nb, 2, none⟩ (.string (st md))).setCell ⟨nb, 3, none⟩ (.string (st nm2))) nb 57 #[.int .i64 nd.kind, .int .i64 nd.num, .string (st md), .string (st nm2), .slice C1 ky.length d1, .slice Al kl cl] from (HNb.out.set_ 2 (.string (st md))).set_ 3 (.string (st nm2)))
      have HB5 := hid_ ((HB5.out.setCell (p := ⟨nb, 2, none⟩) (Nat.le_of_eq Hnb.out.symm) (.string (st md))).setCell (p := ⟨nb, 3, none⟩) (Nat.le_of_eq Hnb.out.symm) (.string (st nm2)))
      clear HKp8
      generalize (wd.setCell ⟨nb, 2, none⟩ (.string (st md))).setCell ⟨nb, 3, none⟩ (.string (st nm2)) = we at *
      have e1 : (nd.l.take kl).length = kl := by have := Hkl.out.1; rw [List.length_take]; omega
      have HLy := hid_ (show OwnP we W0.heap.size 3 1 (.slice Al kl cl) (nd.l.take kl).length (ints (nd.l.take kl)) from by
        have h := HLy.out
        rw [Nat.mul_one, show (ints nd.l).take kl = ints (nd.l.take kl) by unfold ints; rw [List.map_take]] at h
        rw [e1]
        exact h)
      have HSn := hid_ (HSt.out we HB5.out ((⟨nd.kind, nd.num, md, nm2, ky, nd.l.take kl⟩ : Tr.Nd), Value.slice C1 ky.length d1, Value.slice Al kl cl) HKy.out HLy.out _ rfl)
      have HSh := hid_ (HSg.out ((⟨nd.kind, nd.num, md, nm2, ky, nd.l.take kl⟩ : Tr.Nd), Value.slice C1 ky.length d1, Value.slice Al kl cl) ⟨Hky.out, by rw [e1]; exact Hkl.out.2⟩)
      clear e1
      have HU8 := hid_ (HU.out.below HB5.out)
      have x4 : we.cell? ⟨w.heap.size, 4, none⟩ = some (.slice (some ⟨g1, 0, none⟩) kn zn) := HU8.out.a0.cell 4
      obtain ⟨t0, t1, t2, t3, t4, t5⟩ := HT.out
      have r0 := below_cell HB5.out t0
      have g0' := own_frozen HU8.out.n (i * 6)
      have q0 : we.cell? ⟨nb, 0, none⟩ = some (.int .i64 nd.kind) := HNb.out.cell 0
      have r1 := below_cell HB5.out t1
      have g1' := own_frozen HU8.out.n (i * 6 + 1)
      have q1 : we.cell? ⟨nb, 1, none⟩ = some (.int .i64 nd.num) := HNb.out.cell 1
      have r2 := below_cell HB5.out t2
      have g2' := own_frozen HU8.out.n (i * 6 + 2)
      have q2 : we.cell? ⟨nb, 2, none⟩ = some (.string (st md)) := HNb.out.cell 2
      have r3 := below_cell HB5.out t3
      have g3' := own_frozen HU8.out.n (i * 6 + 3)
      have q3 : we.cell? ⟨nb, 3, none⟩ = some (.string (st nm2)) := HNb.out.cell 3
      have r4 := below_cell HB5.out t4
      have g4' := own_frozen HU8.out.n (i * 6 + 4)
      have q4 : we.cell? ⟨nb, 4, none⟩ = some (.slice C1 ky.length d1) := HNb.out.cell 4
      have r5 := below_cell HB5.out t5
      have g5' := own_frozen HU8.out.n (i * 6 + 5)
      have q5 : we.cell? ⟨nb, 5, none⟩ = some (.slice Al kl cl) := HNb.out.cell 5
      clear t0 t1 t2 t3 t4 t5
      go_wp2_with fail
      go_roundg (gk - 1)
      case rel => exact ⟨i + 1, _, by go_num, by omega, by rw [List.length_set]; exact Hnl.out, HSn.out, HSh.out, by omega⟩
      case measure => omega
    · obtain rfl : i = kn := by omega
      clear hi hg hlt x4
      have hZ : MdZ ⟨nm, im, ty, fy.map (·.1), (nx'.take i).map (·.1)⟩ := ⟨by have := HZm.out.1; show im.length * 16 ≤ _; omega, by have := HZm.out.2.1; show ty.length * 24 ≤ _; omega, by have := HZm.out.2.2; show (fy.map (·.1)).length * 80 ≤ _; rw [List.length_map]; omega, by show ((nx'.take i).map (·.1)).length * 96 ≤ _; rw [List.length_map, List.length_take]; omega, fun x hx => by
        obtain ⟨y, hy, rfl⟩ := List.mem_map.1 hx
        exact HFb.out y hy, fun x hx => by
        obtain ⟨y, hy, rfl⟩ := List.mem_map.1 hx
        obtain ⟨j, hj, e⟩ := List.mem_iff_getElem.1 hy
        rw [List.length_take] at hj
        rw [List.getElem_take] at e
        have := HNp.out j y (by omega) (by rw [List.getElem?_eq_getElem (by omega), e])
        exact ⟨by omega, by omega⟩⟩
      have s0 : wr.cell? ⟨w.heap.size, 0, none⟩ = some (.string (st nm)) := HU.out.a0.cell 0
      have s1 : wr.cell? ⟨w.heap.size, 1, none⟩ = some (.slice Zm im.length zm) := HU.out.a0.cell 1
      have s2 : wr.cell? ⟨w.heap.size, 2, none⟩ = some (.slice Zt kt zt) := HU.out.a0.cell 2
      have s3 : wr.cell? ⟨w.heap.size, 3, none⟩ = some (.slice Zf kf zf) := HU.out.a0.cell 3
      have s4 : wr.cell? ⟨w.heap.size, 4, none⟩ = some (.slice Zn i zn) := HU.out.a0.cell 4
      have z0 : wr.cell? ⟨w.heap.size + 1, 0, none⟩ = some (.string ⟨#[]⟩) := HU.out.a1.cell 0
      have z1 : wr.cell? ⟨w.heap.size + 1, 1, none⟩ = some (.slice none 0 0) := HU.out.a1.cell 1
      have z2 : wr.cell? ⟨w.heap.size + 1, 2, none⟩ = some (.slice none 0 0) := HU.out.a1.cell 2
      have z3 : wr.cell? ⟨w.heap.size + 1, 3, none⟩ = some (.slice none 0 0) := HU.out.a1.cell 3
      have z4 : wr.cell? ⟨w.heap.size + 1, 4, none⟩ = some (.slice none 0 0) := HU.out.a1.cell 4
      have f0 := HU.out.a1.frozen 0
      have f1 := HU.out.a1.frozen 1
      have f2 := HU.out.a1.frozen 2
      have f3 := HU.out.a1.frozen 3
      have f4 := HU.out.a1.frozen 4
      obtain ⟨g1, g2, g3⟩ := HU.out.done hZ (by omega) (by have := Hsz.out; omega) rfl
      have y0' := g1.cell 0
      have y1' := g1.cell 1
      have y2' := g1.cell 2
      have y3' := g1.cell 3
      have y4' := g1.cell 4
      have HY := hid_ (And.intro y0' (And.intro y1' (And.intro y2' (And.intro y3' y4'))))
      have HG := hid_ (And.intro g2 g3)
      have Hnl := hid_ hnl
      clear y0' y1' y2' y3' y4' g1 g2 g3 hZ hnl
      go_wp2_with fail
      obtain ⟨y0', y1', y2', y3', y4'⟩ := HY.out
      exact bodyPost_ret (v := .agg #[.string (st nm), .slice Zm im.length zm, .slice Zt kt zt, .slice Zf kf zf, .slice Zn i zn]) (by simp [results, Tryz.results15, go_sem, y0', y1', y2', y3', y4']) rfl ⟨_, _, _, _, ⟨nm, im, ty, fy.map (·.1), (nx'.take i).map (·.1)⟩, _, _, rfl, HG.out.1, HG.out.2⟩
end Go.Proofs.YtmgjmagniefhoaaGreatDoor
