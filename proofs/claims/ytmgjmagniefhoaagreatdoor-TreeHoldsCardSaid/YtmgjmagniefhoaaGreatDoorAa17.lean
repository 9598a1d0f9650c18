/- What stands in these texts of the proof: Yc Yd. Conditions: those that each theorem names. -/
import Derived.Test.YtmgjmagniefhoaaGreatDoorAa16
/- The tree's reader: vars. Conditions: those that each theorem names. -/
namespace Go.Proofs.YtmgjmagniefhoaaGreatDoor
open Go.RowKit Go.Maps
section
variable {w w' w0 : World} {rb k : Nat} {c : RC} {L : List Lx.Wd} {ns : List Tr.Nd}
/-- What vars answers. -/
def EPW (w0 : World) (rb : Nat) (c : RC) (L : List Lx.Wd) (A : Tr.An (List Tr.Vr)) (e : Ending) (w' : World) : Prop := match A with
  | .ok (l, k, ns) => ∃ lv, e = .returned lv ∧ Rd w' rb c L k ns ∧ Fr rb w0 w' ∧ MyS w0 w' rb 67 2 lv l.length (flatV l)
  | .error er => e = .panicked (thrown er) ∧ Below rb w0 w'
theorem EPW.cases {A : Tr.An (List Tr.Vr)} {e : Ending} (h : EPW w0 rb c L A e w') :
    (∃ l k ns lv, A = .ok (l, k, ns) ∧ e = .returned lv ∧ Rd w' rb c L k ns ∧ Fr rb w0 w' ∧ MyS w0 w' rb 67 2 lv l.length (flatV l)) ∨ (∃ er, A = .error er ∧ e = .panicked (thrown er) ∧ Below rb w0 w') := by
  cases A with
  | error er => exact .inr ⟨er, rfl, h⟩
  | ok x =>
    obtain ⟨x, k, ns⟩ := x
    obtain ⟨lv, h⟩ := h
    exact .inl ⟨x, k, ns, lv, rfl, h⟩
theorem ent_vars1 : ∀ args w, (callFunc 123 args).run Tryz.prog w = .ok (.enter 123 args) w := enters_of Tryz.func123 rfl rfl
theorem VaV.made (hR : Rd w rb c L k ns) (kind : Int) (bt : List UInt8) {W : World} (hW : W = ((((w.alloc (.cells #[rv rb] 63)).alloc (.cells #[.int .i64 kind] 3)).alloc (.cells #[.string (st bt)] 9)).alloc (.cells #[.slice none 0 0] 52)).alloc (.cells #[.slice none 0 0] 26)) :
    VaV w rb w.heap.size kind bt (.slice none 0 0) (.slice none 0 0) [] [] W ∧ Rd W rb c L k ns ∧ Fr rb w W := by
  subst hW
  have hb : Below w.heap.size w (((((w.alloc (.cells #[rv rb] 63)).alloc (.cells #[.int .i64 kind] 3)).alloc (.cells #[.string (st bt)] 9)).alloc (.cells #[.slice none 0 0] 52)).alloc (.cells #[.slice none 0 0] 26)) :=
    ((((below_alloc w _).alloc (by simp) _).alloc (by simp; omega) _).alloc (by simp; omega) _).alloc (by simp; omega) _
  have hR4 := hR.below hb
  have h0 := Blk.new w 63 #[rv rb]
  have h1 := Blk.new (w.alloc (.cells #[rv rb] 63)) 3 #[.int .i64 kind]
  have h2 := Blk.new ((w.alloc (.cells #[rv rb] 63)).alloc (.cells #[.int .i64 kind] 3)) 9 #[.string (st bt)]
  have h3 := Blk.new (((w.alloc (.cells #[rv rb] 63)).alloc (.cells #[.int .i64 kind] 3)).alloc (.cells #[.string (st bt)] 9)) 52 #[.slice none 0 0]
  have h4 := Blk.new ((((w.alloc (.cells #[rv rb] 63)).alloc (.cells #[.int .i64 kind] 3)).alloc (.cells #[.string (st bt)] 9)).alloc (.cells #[.slice none 0 0] 52)) 26 #[.slice none 0 0]
  simp only [alloc_sz] at h1 h2 h3 h4
  refine ⟨⟨(((h0.alloc _).alloc _).alloc _).alloc _, ((h1.alloc _).alloc _).alloc _, (h2.alloc _).alloc _, h3.alloc _, h4, MyR.nil w _ rb _, MyS.nil w _ rb _ _, (fun e => by cases e), fun i hi => ?_, Nat.le_refl _⟩, hR4, Fr.of_below hb hR⟩
  exact (hR.far (Kp.of_below hb fun _ => False) (fun _ e => e.elim)).2.1 _ (Free.new hR (Nat.le_add_right _ _))
set_option maxHeartbeats 8000000 in
set_option maxRecDepth 100000 in
theorem vars_c (h : Rd w rb c L k ns) (hk1 : 1 ≤ k) (kind : Int) (h7 : kind ≠ 7) (bt stop : List UInt8) : Calls Tryz.prog 96 #[rv rb, .int .i64 kind, .string (st bt), .string (st stop)] w (EPW w rb c L (Tr.vars L kind bt stop k ns)) := by
  have HR := hid_ h
  have HE := hid_ (show Tr.vars L kind bt stop k ns = Tr.bind (Tr.varsF L (Tr.fuel L) kind bt [] k ns) fun l k M => Tr.bind (Tr.must L stop k M) fun _ k M => .ok (l, k, M) from rfl)
  have HR0 := hid_ (show ∃ k ns, Rd w rb c L k ns from ⟨_, _, h⟩)
  have HF7 := hid_ h7
  clear h h7
  generalize Tr.vars L kind bt stop k ns = A at *
  unfold rv
  go_enter Tryz.func96, Tryz.ntmps96
  go_wp2_with fail
  obtain ⟨hVa, hR4, hF4⟩ := VaV.made HR.out kind bt rfl
  unfold rv at hVa hR4 hF4
  have HRow := hid_ (row_c (Inv := VaI w rb w.heap.size kind bt) (w0 := w) (var_row L kind bt) (fun s w w' h hF => h.to hF) (vars1_c HR0.out w.heap.size kind HF7.out bt) ent_vars1 HR0.out hR4 hF4 [] ⟨_, _, hVa⟩ rfl (Nat.zero_le _) hk1 (Tr.fuel L) (by unfold Tr.fuel; omega) stop)
  unfold rv at HRow
  clear hVa hR4 hF4
  refine HRow.out.mono ?_
  intro e w2 hE
  have hE2 : EPI (VaI w rb w.heap.size kind bt) w rb c L A e w2 := by rw [HE.out]; exact hE
  rcases hE2.cases with ⟨s, k2, ns2, hA, rfl, hR, hF, hI⟩ | ⟨er, hA, rfl, hB⟩
  rotate_left
  · have HAe := hid_ hA
    have HBe := hid_ hB
    clear hE hE2 hA hB
    go_wp2_with fail
    rw [HAe.out]
    exact ⟨rfl, rfl, HBe.out⟩
  obtain ⟨lv, nv, hI⟩ := hI
  obtain ⟨Bl, dl, rfl⟩ := own_form hI.ls.own
  have HA := hid_ hA
  have HI := hid_ hI
  have x0 : w2.cell? ⟨w.heap.size + 1 + 1 + 1, 0, none⟩ = some (.slice Bl s.length dl) := hI.lB.cell 0
  have f0 : w2.frozen? ⟨w.heap.size + 1 + 1 + 1, 0, none⟩ = false := hI.lB.frozen 0
  have k3 : Kp (fun q => q = w.heap.size + 1 + 1 + 1) w2 (w2.setCell ⟨w.heap.size + 1 + 1 + 1, 0, none⟩ (.slice Bl s.length dl)) := (Kp.refl (fun q => q = w.heap.size + 1 + 1 + 1) w2).setCell (p := ⟨w.heap.size + 1 + 1 + 1, 0, none⟩) (.inl rfl) _
  obtain ⟨hR3, hfree3, hF3⟩ := hR.far k3 (fun q hq => by rw [hq]; exact hI.fr 3 (by omega))
  have l3 : (Value.slice Bl s.length dl).ownBlock ≠ some (w.heap.size + 1 + 1 + 1) := own_blk_ne hI.ls.own hI.lB (by decide)
  have HR3 := hid_ hR3
  have HF3 := hid_ (hF3 w hF (fun q hq => by rw [hq]; omega))
  have HM3 := hid_ (show MyS w (w2.setCell ⟨w.heap.size + 1 + 1 + 1, 0, none⟩ (.slice Bl s.length dl)) rb 67 2 (.slice Bl s.length dl) s.length (flatV s) from ⟨own_kp hI.ls.own k3 (fun q hq e => l3 (by rw [hq, e])), fun q hq => hfree3 q (hI.ls.free q hq)⟩)
  have y0 : (w2.setCell ⟨w.heap.size + 1 + 1 + 1, 0, none⟩ (.slice Bl s.length dl)).cell? ⟨w.heap.size + 1 + 1 + 1, 0, none⟩ = some (.slice Bl s.length dl) := (hI.lB.set_ 0 _).cell 0
  clear hE hE2 hA hR hF hI hR3 hfree3 hF3 k3 l3
  go_wp2_with fail
  refine bodyPost_ret (v := .slice Bl s.length dl) (by simp [results, Tryz.results96, go_sem, y0]) rfl ?_
  rw [HA.out]
  exact ⟨_, rfl, HR3.out, HF3.out, HM3.out⟩
end
end Go.Proofs.YtmgjmagniefhoaaGreatDoor

/- The tree's reader: what a module has in memory; decl. Conditions: those that each theorem names. -/
namespace Go.Proofs.YtmgjmagniefhoaaGreatDoor
open Go.RowKit Go.Maps
theorem Tryz.infoD : (Tryz.prog.info? 59).map (fun i => (i.zero, i.size, i.bytes)) = some (some (.agg #[.string ⟨#[]⟩, .int .i64 0]), 2, 24) := by kernel_rfl
section
variable {w w' w0 : World} {rb k : Nat} {c : RC} {L : List Lx.Wd} {ns : List Tr.Nd}
/-- A row of the module's: none of the nodes'. -/
structure OwF (w : World) (rb : Nat) (e : TypeId) (sz : Nat) (v : Value) (n : Nat) (xs : List Value) : Prop where
  own : w.ownsRow rb e sz v n xs
  free : ∀ q, v.ownBlock = some q → Free w rb q
section
variable {e : TypeId} {v : Value} {n sz : Nat} {xs : List Value}
theorem OwF.fr (h : OwF w rb e sz v n xs) (hF : Fr rb w w') : OwF w' rb e sz v n xs :=
  ⟨own_kp h.own hF.kp (fun q hq hS => hS.elim (fun e => by have := (h.free q hq).1; omega) (fun e => (h.free q hq).2.1 e)), fun q hq => (h.free q hq).fr (own_lt h.own hq) hF⟩
theorem OwF.far {S : Nat → Prop} (h : OwF w rb e sz v n xs) (hk : Kp S w w') (hne : ∀ q, v.ownBlock = some q → ¬ S q) (hfree : ∀ q, Free w rb q → Free w' rb q) : OwF w' rb e sz v n xs :=
  ⟨own_kp h.own hk hne, fun q hq => hfree q (h.free q hq)⟩
theorem MyS.owF (h : MyS w0 w rb e sz v n xs) (hle : rb ≤ w0.heap.size) : OwF w rb e sz v n xs := ⟨ownsRow_base h.own hle, h.free⟩
theorem OwF.nil (w : World) (rb : Nat) (e : TypeId) (sz : Nat) : OwF w rb e sz (.slice none 0 0) 0 [] := ⟨⟨by simp, .inl ⟨rfl, rfl⟩⟩, fun _ hq => by cases hq⟩
/-- It grows. -/
theorem OwF.grown {v' : Value} {n' : Nat} {xs' : List Value} {w1 : World} (h : OwF w rb e sz v n xs) (hR : Rd w rb c L k ns) (hW : Below w.heap.size w w1) (hg : w1.grownBy w' v.ownBlock) (hown : w'.ownsRow rb e sz v' n' xs') (hat : ∀ q, v'.ownBlock = some q → v.ownBlock = some q ∨ w1.heap.size ≤ q) :
    OwF w' rb e sz v' n' xs' ∧ Rd w' rb c L k ns ∧ Kp (fun q => v.ownBlock = some q) w w' ∧ (∀ q, Free w rb q → Free w' rb q) := by
  have hk : Kp (fun q => v.ownBlock = some q) w w' := (Kp.of_below hW _).grown hg (fun q hq => .inl hq)
  obtain ⟨h1, h2, h3⟩ := hR.far hk h.free
  refine ⟨⟨hown, fun q hq => ?_⟩, h1, hk, h2⟩
  rcases hat q hq with e | e
  · exact h2 q (h.free q e)
  · exact h2 q (Free.new hR (Nat.le_trans hW.size e))
end
abbrev Fx := Tr.Fd × Value × Value
def cellF (x : Fx) : List Value := [.string (st x.1.name), x.2.1, x.2.2, .int .i64 x.1.ret, .int .i64 x.1.body]
def flatF (xs : List Fx) : List Value := xs.flatMap cellF
/-- A function's own lists. -/
def FdOwn (w : World) (rb : Nat) (x : Fx) : Prop := OwF w rb 67 2 x.2.1 x.1.vars.length (flatV x.1.vars) ∧ OwF w rb 67 2 x.2.2 x.1.params.length (flatV x.1.params)
/-- The functions in memory. -/
def FnsP (w : World) (rb : Nat) (fv : Value) (fs : List Tr.Fd) : Prop := ∃ xs : List Fx, xs.map (·.1) = fs ∧ OwF w rb 54 5 fv fs.length (flatF xs) ∧ ∀ x ∈ xs, FdOwn w rb x
/-- What a module has, but for its nodes. -/
structure MdR (w : World) (rb : Nat) (c : RC) (im : List (List UInt8)) (ty : List Tr.Vr) (fs : List Tr.Fd) : Prop where
  iR : OwF w rb 9 1 c.iv im.length (strs im)
  tR : OwF w rb 59 2 c.tv ty.length (flatV ty)
  fR : FnsP w rb c.fv fs
variable {im : List (List UInt8)} {ty : List Tr.Vr} {fs : List Tr.Fd}
theorem MdR.fr (h : MdR w rb c im ty fs) (hF : Fr rb w w') : MdR w' rb c im ty fs := by
  obtain ⟨xs, h1, h2, h3⟩ := h.fR
  exact ⟨h.iR.fr hF, h.tR.fr hF, xs, h1, h2.fr hF, fun x hx => ⟨(h3 x hx).1.fr hF, (h3 x hx).2.fr hF⟩⟩
theorem OwF.types {e e' : TypeId} {v v' : Value} {n n' sz sz' : Nat} {xs xs' : List Value} (h : OwF w rb e sz v n xs) (h' : OwF w rb e' sz' v' n' xs') (hne : e ≠ e') : ∀ q, v.ownBlock = some q → ¬ (v'.ownBlock = some q) :=
  fun _ hq => own_ne h.own h'.own hne hq
/-- A cell of the reader's is set: not its words, its place, its nodes. -/
theorem Rd.setC {i : Nat} {u : Value} {c' : RC} (h : Rd w rb c L k ns) (hc : ∀ nv, ((rcells c k nv).setIfInBounds i u) = rcells c' k nv) (hl : c'.lv = c.lv) : Rd (w.setCell ⟨rb, i, none⟩ u) rb c' L k ns ∧ Fr rb w (w.setCell ⟨rb, i, none⟩ u) := by
  obtain ⟨nv, h1, xs, h2, h3, h4⟩ := h.blk
  have kp : Kp (fun q => q = rb) w (w.setCell ⟨rb, i, none⟩ u) := (Kp.refl (fun q => q = rb) w).setCell (p := ⟨rb, i, none⟩) (.inl rfl) _
  have hB := h1.set_ i u
  rw [hc] at hB
  have hws := h.ws.kp (rb := rb) kp (fun q hq => Nat.le_of_eq hq.symm) h.low
  refine ⟨⟨⟨nv, hB, xs, h2, own_kp h3 kp ?_, fun x hx => (h4 x hx).kp kp ?_⟩, by rw [hl]; exact hws, by rw [hl]; exact h.low, h.lt, h.ends, h.few, h.txt, h.many, h.nok⟩, ⟨kp.mono (fun q hq => .inl hq), fun q hq => ?_, fun q hq => .inl (nb_same h kp (fun b hb e => ?_) (by rw [nvV_rd hB, nvV_rd h1]) hq)⟩⟩
  · intro q hq e
    subst e
    exact own_blk_ne h3 h1 (by decide) hq
  · rintro q rfl t cs hb
    have : t = 65 := by
      have e := h1.symm.trans hb
      injection e with e
      injection e with _ e _
      exact e.symm
    subst this
    exact ⟨by decide, by decide⟩
  · rw [nvOf_rd hB] at hq
    rw [nvOf_rd h1]
    exact .inl hq
  · subst e
    rw [nvOf_rd h1] at hb
    exact own_blk_ne h3 h1 (by decide) hb
/-- A cell of a caller's own is set. -/
theorem Rd.setOwn {g i : Nat} {u : Value} (hR : Rd w rb c L k ns) (hf : Free w rb g) (hF : Fr rb w0 w) (h0 : w0.heap.size ≤ g) : Rd (w.setCell ⟨g, i, none⟩ u) rb c L k ns ∧ Fr rb w0 (w.setCell ⟨g, i, none⟩ u) ∧ (∀ q, Free w rb q → Free (w.setCell ⟨g, i, none⟩ u) rb q) ∧ Kp (fun q => q = g) w (w.setCell ⟨g, i, none⟩ u) := by
  have k3 : Kp (fun q => q = g) w (w.setCell ⟨g, i, none⟩ u) := (Kp.refl (fun q => q = g) w).setCell (p := ⟨g, i, none⟩) (.inl rfl) u
  obtain ⟨hr, hfree, hf2⟩ := hR.far k3 (fun q hq => by rw [hq]; exact hf)
  exact ⟨hr, hf2 w0 hF (fun q hq => by rw [hq]; exact h0), hfree, k3⟩
theorem Rd.frz (h : Rd w rb c L k ns) (i : Nat) : w.frozen? ⟨rb, i, none⟩ = false := by
  obtain ⟨nv, _, _, _, _, _, _, _, f, _⟩ := h.cells
  exact f i
/-- What a part of a module answers. -/
def EPD {α : Type} (M : α → RC → World → Prop) (w0 : World) (rb : Nat) (L : List Lx.Wd) (A : Tr.An α) (e : Ending) (w' : World) : Prop := match A with
  | .ok (x, k, ns) => e = .returned (.tuple #[]) ∧ Below rb w0 w' ∧ ∃ c, Rd w' rb c L k ns ∧ M x c w'
  | .error er => e = .panicked (thrown er) ∧ Below rb w0 w'
theorem EPD.cases {α : Type} {M : α → RC → World → Prop} {A : Tr.An α} {e : Ending} (h : EPD M w0 rb L A e w') :
    (∃ x k ns c, A = .ok (x, k, ns) ∧ e = .returned (.tuple #[]) ∧ Below rb w0 w' ∧ Rd w' rb c L k ns ∧ M x c w') ∨ (∃ er, A = .error er ∧ e = .panicked (thrown er) ∧ Below rb w0 w') := by
  cases A with
  | error er => exact .inr ⟨er, rfl, h⟩
  | ok x =>
    obtain ⟨x, k, ns⟩ := x
    obtain ⟨h1, h2, c, h3⟩ := h
    exact .inl ⟨x, k, ns, c, rfl, h1, h2, h3⟩
/-- A declaration is put behind the others. -/
theorem MdR.decl {tv tv' : Value} {W w1 : World} {x : Tr.Vr} (h : MdR w rb c im ty fs) (htv : c.tv = tv) (hR : Rd w rb c L k ns) (hW : Below w.heap.size w W) (hg : W.grownBy w1 tv.ownBlock) (hown : w1.ownsRow rb 59 2 tv' (ty.length + 1) (flatV ty ++ [.string (st x.name), .int .i64 x.type])) (hat : ∀ q, tv'.ownBlock = some q → tv.ownBlock = some q ∨ W.heap.size ≤ q) :
    w1.cell? ⟨rb, 4, none⟩ = some tv ∧ w1.frozen? ⟨rb, 4, none⟩ = false ∧ Rd (w1.setCell ⟨rb, 4, none⟩ tv') rb { c with tv := tv' } L k ns ∧ Below rb w (w1.setCell ⟨rb, 4, none⟩ tv') ∧ MdR (w1.setCell ⟨rb, 4, none⟩ tv') rb { c with tv := tv' } im (ty ++ [x]) fs := by
  subst htv
  obtain ⟨hm, hr, hk, hfree⟩ := h.tR.grown hR hW hg hown hat
  obtain ⟨hr2, hf2⟩ := hr.setC (i := 4) (u := tv') (c' := { c with tv := tv' }) (fun nv => rfl) rfl
  obtain ⟨_, _, _, _, _, c4, _⟩ := hr.cells
  obtain ⟨xs, h1, h2, h3⟩ := h.fR
  have hb : Below rb w w1 := hk.toBelow (Nat.le_of_lt hR.rlt) (fun q hq e => by have := (h.tR.free q e).1; omega)
  have i1 := h.iR.far hk (h.iR.types h.tR (by decide)) hfree
  have f1 := h2.far hk (h2.types h.tR (by decide)) hfree
  have g1 : ∀ y ∈ xs, FdOwn w1 rb y := fun y hy => ⟨(h3 y hy).1.far hk ((h3 y hy).1.types h.tR (by decide)) hfree, (h3 y hy).2.far hk ((h3 y hy).2.types h.tR (by decide)) hfree⟩
  refine ⟨c4, hr.frz 4, hr2, hb.trans (hf2.bel hr), i1.fr hf2, ?_, xs, h1, f1.fr hf2, fun y hy => ⟨(g1 y hy).1.fr hf2, (g1 y hy).2.fr hf2⟩⟩
  rw [flatV_snoc, List.length_append]
  exact hm.fr hf2
set_option maxHeartbeats 8000000 in
set_option maxRecDepth 100000 in
theorem decl_c (h : Rd w rb c L k ns) (hM : MdR w rb c im ty fs) (hty : ty.length ≤ 64) (hk2 : k + 1 < L.length) : Calls Tryz.prog 67 #[rv rb] w (EPD (fun x c' w' => MdR w' rb c' im (ty ++ [x]) fs ∧ c'.nm = c.nm) w rb L (Tr.decl L ty.length k ns)) := by
  have HR := hid_ h
  have HMd := hid_ hM
  have HE := hid_ (show Tr.decl L ty.length k ns = Tr.bind (Tr.room L ty.length 64 k ns) fun _ k M => Tr.bind (Tr.word L 2 (k + 1) M) fun s k M => Tr.bind (Tr.must L [61] k M) fun _ k M => Tr.bind (Tr.typ L 1 k M) fun t k M => .ok (⟨s, t⟩, k, M) from rfl)
  obtain ⟨A0, d0, hA0⟩ := own_form hM.tR.own
  have HTv := hid_ hA0
  have c4 : w.cell? ⟨rb, 4, none⟩ = some (.slice A0 ty.length d0) := by
    obtain ⟨_, _, _, _, _, c4, _⟩ := h.cells
    rw [c4, hA0]
  have HRm := hid_ (room_c h ty.length 64)
  obtain ⟨i0, hi0, hz0, hz1, hz2⟩ := info_parts Tryz.infoD
  clear h hM hA0
  generalize Tr.decl L ty.length k ns = A at *
  unfold rv
  unfold rv at HRm
  go_enter Tryz.func67, Tryz.ntmps67
  go_wp2_with fail
  refine (HRm.out).mono ?_
  intro e w1 hE
  rcases hE.cases with ⟨u1, k1, ns1, hA, rfl, hR, hF⟩ | ⟨er, hA, rfl, hB⟩
  rotate_left
  · have HAe := hid_ (HE.out.trans (Tr.bind_err hA))
    have HBe := hid_ (hB)
    clear hE hA hB
    go_wp2_with fail
    rw [HAe.out]
    exact ⟨rfl, rfl, HBe.out⟩
  have HA1 := hid_ (HE.out.trans (Tr.bind_good hA))
  have HF1 := hid_ (hF)
  have HR1 := hid_ hR
  obtain ⟨rfl, rfl⟩ := Tr.room_ok hA
  obtain ⟨c1, f1⟩ := hR.at1
  have hfew := hR.few
  have HS := hid_ (hR.stepI hk2)
  have HWd := hid_ (word_c HS.out.1 2 (by decide))
  unfold rv at HWd
  have HF2 := hid_ (HF1.out.trans HS.out.2)
  clear hE hA hR hF
  go_wp2_with fail
  refine (HWd.out).mono ?_
  intro e w2 hE
  rcases hE.cases with ⟨s2, k2, ns2, hA, rfl, hR, hF⟩ | ⟨er, hA, rfl, hB⟩
  rotate_left
  · have HAe := hid_ (HA1.out.trans (Tr.bind_err hA))
    have HBe := hid_ ((HF2.out.bel HR.out).trans hB)
    clear hE hA hB
    go_wp2_with fail
    rw [HAe.out]
    exact ⟨rfl, rfl, HBe.out⟩
  have HA2 := hid_ (HA1.out.trans (Tr.bind_good hA))
  have HF3 := hid_ (HF2.out.trans hF)
  have HR2 := hid_ hR
  have HBk := hid_ (Blk.new w2 59 #[.string (st s2), .int .i64 0])
  have HB3 := hid_ (below_alloc w2 (.cells #[.string (st s2), .int .i64 0] 59))
  have HW2 := hid_ hA
  clear c1 f1
  clear hE hA hR hF
  go_wp2_with fail
  have HR3 := hid_ (HR2.out.below HB3.out)
  have HF4 := hid_ (HF3.out.trans (Fr.of_below HB3.out HR2.out))
  have HFr3 := hid_ (Free.new2 (q := w2.heap.size) HR2.out HB3.out (Nat.le_refl _))
  have HMu := hid_ (must_c HR3.out [61])
  unfold rv at HMu
  obtain ⟨hk3, _⟩ := Tr.word_ok (show Tr.word L 2 (k1 + 1) ns1 = .ok (s2, k2, ns2) from HW2.out)
  have HK2 := hid_ hk3
  clear hk3
  refine (HMu.out).mono ?_
  intro e w4 hE
  rcases hE.cases with ⟨u4, k4, ns4, hA, rfl, hR, hF⟩ | ⟨er, hA, rfl, hB⟩
  rotate_left
  · have HAe := hid_ (HA2.out.trans (Tr.bind_err hA))
    have HBe := hid_ ((HF4.out.bel HR.out).trans hB)
    clear hE hA hB
    go_wp2_with fail
    rw [HAe.out]
    exact ⟨rfl, rfl, HBe.out⟩
  have HA4 := hid_ (HA2.out.trans (Tr.bind_good hA))
  have HF5 := hid_ (HF4.out.trans hF)
  have HR4 := hid_ hR
  have hB4 := HBk.out.fr HFr3.out hF
  have HB4 := hid_ hB4
  clear hB4
  have hk4 := (Tr.must_ok hA).1
  have HTy := hid_ (typ_all L w4 rb k4 c ns4 (Tr.fuel L) 1 (by omega) (by omega) (by omega) (by omega) (by unfold Tr.fuel; omega) hR)
  unfold rv at HTy
  clear hk4
  clear hE hA hR hF
  go_wp2_with fail
  refine (HTy.out).mono ?_
  intro e w5 hE
  rcases hE.cases with ⟨t5, k5, ns5, hA, rfl, hR, hF⟩ | ⟨er, hA, rfl, hB⟩
  rotate_left
  · have HAe := hid_ (HA4.out.trans (Tr.bind_err hA))
    have HBe := hid_ ((HF5.out.bel HR.out).trans hB)
    clear hE hA hB
    go_wp2_with fail
    rw [HAe.out]
    exact ⟨rfl, rfl, HBe.out⟩
  have HA5 := hid_ (HA4.out.trans (Tr.bind_good hA))
  have HF6 := hid_ (HF5.out.trans hF)
  have HR5 := hid_ hR
  have HB5 := hid_ (HB4.out.1.fr HB4.out.2 hF)
  have x1 : w5.cell? ⟨w2.heap.size, 1, none⟩ = some (.int .i64 0) := HB5.out.1.cell 1
  have g1 : w5.frozen? ⟨w2.heap.size, 1, none⟩ = false := HB5.out.1.frozen 1
  clear hE hA hR hF
  go_wp2_with fail
  obtain ⟨hr6, hf6, _, _⟩ := HR5.out.setOwn (i := 1) (u := .int .i64 t5) HB5.out.2 HF6.out HF3.out.kp.size
  have hB6 := HB5.out.1.set_ 1 (.int .i64 t5)
  have HMd6 := hid_ (HMd.out.fr hf6)
  have HR6 := hid_ hr6
  have HF7 := hid_ hf6
  have HB6 := hid_ hB6
  clear hr6 hf6 hB6 x1 g1
  generalize w5.setCell ⟨w2.heap.size, 1, none⟩ (.int .i64 t5) = w6 at HMd6 HR6 HF7 HB6 ⊢
  have y0 : w6.cell? ⟨w2.heap.size, 0, none⟩ = some (.string (st s2)) := HB6.out.cell 0
  have y1 : w6.cell? ⟨w2.heap.size, 1, none⟩ = some (.int .i64 t5) := HB6.out.cell 1
  have c6 : w6.cell? ⟨rb, 4, none⟩ = some (.slice A0 ty.length d0) := by
    obtain ⟨_, _, _, _, _, c4, _⟩ := HR6.out.cells
    rw [c4, HTv.out]
  have c6' : ∀ o, (w6.alloc o).cell? ⟨rb, 4, none⟩ = some (.slice A0 ty.length d0) := fun o => below_cell (below_alloc w6 o) c6
  have HOW := hid_ (fun (W : World) (h : Below w6.heap.size w6 W) => (show W.ownsRow rb 59 2 (.slice A0 ty.length d0) ty.length (flatV ty) by rw [← HTv.out]; exact own_kp HMd6.out.tR.own (Kp.of_below h fun _ => False) (fun _ _ e => e)))
  have HLe := hid_ (Nat.le_of_lt HR6.out.rlt)
  have HBl := hid_ (HF7.out.bel HR.out)
  go_region_law (first
    | (refine step_append_any (by rfl) (.tmp 31) (.tmp 33) 27 (by rfl) rb 59 i0 _ 2 24 Tryz.underlying27 hi0 hz0 hz1 hz2 rfl (by omega) (.slice A0 ty.length d0) ty.length _ (by rfl) (HOW.out _ (by first | exact (Below.refl _ _).drew.alloc (Nat.le_refl _) _ | exact ((Below.refl _ _).alloc (Nat.le_refl _) _).drew | exact below_alloc _ _)) (some ⟨w6.heap.size, 0, none⟩) 1 1 [.string (st s2), .int .i64 t5] (by rfl) rfl (fun h => by cases h) (by intro ad had j u hu; injection had with had; subst had; exact World.news_of_block (heap_alloc_new _ _) j u hu) (by simp [Value.oneCell']) (by unfold maxLen; omega) (by omega) (Nat.le_trans HLe.out (by first | exact ((Below.refl w6.heap.size w6).drew.alloc (Nat.le_refl _) _).size | exact (below_alloc _ _).size)) ?_; intro A1 c1 w7 hown hgrow hat; obtain ⟨e6, g6, hRn, hBn, hMn⟩ := HMd6.out.decl (x := ⟨s2, t5⟩) HTv.out HR6.out (by first | exact (Below.refl _ _).drew.alloc (Nat.le_refl _) _ | exact ((Below.refl _ _).alloc (Nat.le_refl _) _).drew | exact below_alloc _ _) hgrow hown hat; have HRn := hid_ hRn; have HBn := hid_ hBn; have HMn := hid_ hMn; clear hRn hBn hMn hown hgrow hat)
    | fail)
  all_goals
    go_wp2_with fail
    go_end0
    rw [HA5.out]
    exact ⟨rfl, HBl.out.trans HBn.out, _, HRn.out, HMn.out, rfl⟩
end
end Go.Proofs.YtmgjmagniefhoaaGreatDoor
