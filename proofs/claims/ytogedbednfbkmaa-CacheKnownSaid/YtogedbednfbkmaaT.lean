/- A cache by what it stands for: Get. Conditions: those that each theorem names. -/
import Derived.Test.YtogedbednfbkmaaS
namespace Go.Proofs.Ytogedbednfbkmaa
open Go.RowKit Go.Maps

theorem erase_perm {α : Type} (L : List α) (i : Nat) (hi : i < L.length) : (L.eraseIdx i ++ [L[i]]).Perm L := by
  have : (L[i] :: L.eraseIdx i).Perm L := by
    rw [List.eraseIdx_eq_take_drop_succ]
    have e : L = L.take i ++ L[i] :: L.drop (i + 1) := by rw [← List.drop_eq_getElem_cons hi, List.take_append_drop]
    conv => rhs; rw [e]
    exact List.perm_middle.symm
  exact List.perm_append_comm.trans this
theorem set_perm {α : Type} (L : List α) (i : Nat) (y : α) (hi : i < L.length) : (L.set i y).Perm (y :: L.eraseIdx i) := by
  have h := erase_perm (L.set i y) i (by simpa using hi)
  rw [List.getElem_set_self, List.eraseIdx_set_eq] at h
  exact h.symm.trans List.perm_append_comm
theorem getE_some {k : ByteArray} {S : List En} {e : En} (h : getE k S = some e) : e ∈ S ∧ e.key = k := by
  unfold getE at h
  exact ⟨List.mem_of_find?_eq_some h, by have := List.find?_some h; simpa using this⟩
theorem getE_of {k : ByteArray} {S : List En} {e : En} (hn : (S.map En.key).Nodup) (he : e ∈ S) (hk : e.key = k) : getE k S = some e := by
  induction S with
  | nil => simp at he
  | cons a S ih =>
    unfold getE
    rw [List.find?_cons]
    simp only [List.map_cons, List.nodup_cons] at hn
    rcases List.mem_cons.1 he with rfl | he
    · simp [hk]
    · have : a.key ≠ k := fun h => hn.1 (List.mem_map.2 ⟨e, he, by rw [hk, h]⟩)
      simp only [this, decide_false]
      exact ih hn.2 he
theorem getE_none {k : ByteArray} {S : List En} (h : hasE k S = false) : getE k S = none := by
  unfold getE
  rw [List.find?_eq_none]
  intro e he
  have := hasE_not.1 h
  simp only [decide_eq_true_eq]
  exact fun x => this (List.mem_map.2 ⟨e, he, x⟩)

theorem outE_cons (k : ByteArray) (a : En) (S : List En) : outE k (a :: S) = if a.key = k then outE k S else a :: outE k S := by
  unfold outE
  by_cases e : a.key = k <;> simp [e]
theorem szS_less {x : En} : ∀ {S : List En}, x ∈ S → szS (outE x.key S) + szE x ≤ szS S
  | a :: S, hx => by
    have h0 := szS_outE x.key S
    rw [outE_cons, szS_cons]
    rcases List.mem_cons.1 hx with rfl | hx
    · rw [if_pos rfl]; omega
    · have := szS_less hx
      split
      · omega
      · rw [szS_cons]; omega
theorem Ok.use {c : Cs} (h : Ok c) (e : En) (S : List En) (hS : Gd c.uses S) (hk : e.key ∉ S.map En.key) (h1 : 0 < e.key.size ∧ e.key.size ≤ 200 ∧ 0 ≤ e.cost ∧ e.cost ≤ 1000000) (hl : c.thrown + S.length ≤ c.uses) (hz : (szS S + szE e : Int) ≤ c.room) : Ok (useE c e S) := by
  have hlev := h.lev
  have hu : 0 ≤ c.uses := by have := h.fnd; omega
  refine ⟨hS.ins hk h1 ⟨by show 0 ≤ c.level + e.cost; omega, by show c.level + e.cost ≤ 1000000 * (c.uses + 1); omega⟩ rfl hu, h.room, ⟨hlev.1, by show c.level ≤ 1000000 * (c.uses + 1); omega⟩, ⟨h.fnd.1, by show c.found ≤ c.uses + 1; have := h.fnd; omega⟩, h.mis, ⟨h.thr.1, ?_⟩, ?_⟩
  · show c.thrown + ((insE _ S).length : Int) ≤ c.uses + 1
    rw [(insE_perm _ S).length_eq, List.length_cons]
    omega
  · show (szS (insE _ S) : Int) ≤ c.room
    rw [szS_insE]
    show ((szE e + szS S : Nat) : Int) ≤ c.room
    omega
theorem Ok.get {c : Cs} (h : Ok c) (k : ByteArray) : Ok (getC c k).2 := by
  unfold getC
  cases e : getE k c.S with
  | none => exact ⟨h.gd, h.room, h.lev, h.fnd, by show 0 ≤ c.missed + 1; have := h.mis; omega, h.thr, h.sz⟩
  | some x =>
    obtain ⟨hx, rfl⟩ := getE_some e
    have hok := h.gd.ok x hx
    have hl := outE_len x.key c.S
    have hthr := h.thr
    have hz : szS (outE x.key c.S) + szE x ≤ szS c.S := szS_less hx
    have hsz := h.sz
    have hf := h.fnd
    have hno : x.key ∉ (outE x.key c.S).map En.key := fun hm => by
      obtain ⟨y, hy, e2⟩ := List.mem_map.1 hm
      exact (mem_outE.1 hy).2 e2
    have hG := (h.gd.out x.key).ins (x := { x with worth := c.level + x.cost, used := c.uses + 1 }) hno ⟨hok.1, hok.2.1, hok.2.2.1, hok.2.2.2.1⟩ (by have := h.lev; show 0 ≤ c.level + x.cost ∧ c.level + x.cost ≤ 1000000 * (c.uses + 1); omega) rfl (by omega)
    refine ⟨hG, h.room, ⟨h.lev.1, by show c.level ≤ 1000000 * (c.uses + 1); have := h.lev; omega⟩, ⟨by show 0 ≤ c.found + 1; omega, by show c.found + 1 ≤ c.uses + 1; omega⟩, h.mis, ⟨h.thr.1, ?_⟩, ?_⟩
    · show c.thrown + ((insE _ (outE x.key c.S)).length : Int) ≤ c.uses + 1
      rw [(insE_perm _ _).length_eq, List.length_cons]
      omega
    · show (szS (insE _ (outE x.key c.S)) : Int) ≤ c.room
      rw [szS_insE]
      show ((szE x + szS (outE x.key c.S) : Nat) : Int) ≤ c.room
      omega

section
variable {F : Nat → Prop} {w w' : World} {cb : Nat} {c : Cs} {h h' : Hd} {sv : Value} {L : List Me}
/-- An entry of the row is another one, at the same block. -/
theorem RowIs.used {x : Me} (r : RowIs w cb h sv L) (i : Nat) (hi : i < L.length) (hx : x.g = (L[i]'hi).g) (hk : Kp (fun q => q = cb ∨ q = x.g) w w') (hB : Blk w' cb 66 (h'.cells sv)) (hE : Ent w' x i) : RowIs w' cb h' sv (L.set i x) := by
  refine ⟨hB, ?_, fun j hj => ?_, ?_⟩
  · have e : (L.set i x).map (fun m => ptr m.g) = L.map fun m => ptr m.g := by
      rw [List.map_set, hx]
      have : ptr (L[i]'hi).g = (L.map fun m => ptr m.g)[i]'(by simpa using hi) := by simp
      rw [this, List.set_getElem_self]
    rw [e, List.length_set]
    exact own_kp r.own hk (fun q hq y => y.elim (fun z => (r.own_ne hq).1 z) (fun z => (r.own_ne hq).2 _ (List.getElem_mem hi) (by rw [z, hx])))
  · have hj' : j < L.length := by simpa using hj
    by_cases e : i = j
    · subst e
      rw [List.getElem_set_self]
      exact hE
    · rw [List.getElem_set_ne e]
      exact (r.ents j hj').kp hk (fun y => y.elim (fun z => r.head_ne (List.getElem_mem hj') z.symm) (fun z => r.g_ne hj' hi (fun e2 => e e2.symm) (by rw [z, hx])))
  · have e : (L.set i x).map Me.g = L.map Me.g := by
      rw [List.map_set, hx]
      have : (L[i]'hi).g = (L.map Me.g)[i]'(by simpa using hi) := by simp
      rw [this, List.set_getElem_self]
    rw [e]
    exact r.nd

theorem Idx.set_ {D : DataW Unit} {x : Me} (hI : Idx D L) (i : Nat) (hi : i < L.length) (hg : x.g = (L[i]'hi).g) (hk : x.e.key = (L[i]'hi).e.key) : Idx D (L.set i x) := by
  have hmem : ∀ m, m ∈ L.set i x → m = x ∨ m ∈ L := fun m hm => (List.mem_or_eq_of_mem_set hm).symm
  refine ⟨fun k => ?_, fun m hm => ?_, by rw [hI.size, List.length_set]⟩
  · rw [hI.has_ k]
    constructor
    · rintro ⟨m, hm, e⟩
      obtain ⟨j, hj, e2⟩ := List.mem_iff_getElem.1 hm
      by_cases e3 : i = j
      · subst e3
        exact ⟨x, List.mem_iff_getElem.2 ⟨i, by simpa using hi, by rw [List.getElem_set_self]⟩, by rw [hk, e2, e]⟩
      · exact ⟨m, List.mem_iff_getElem.2 ⟨j, by simpa using hj, by rw [List.getElem_set_ne e3, e2]⟩, e⟩
    · rintro ⟨m, hm, e⟩
      rcases hmem m hm with rfl | hm
      · exact ⟨_, List.getElem_mem hi, by rw [← hk, e]⟩
      · exact ⟨m, hm, e⟩
  · rcases hmem m hm with rfl | hm
    · rw [hk, hg]; exact hI.at_ _ (List.getElem_mem hi)
    · exact hI.at_ m hm
theorem map_set_same {α β : Type} (f : α → β) (L : List α) (i : Nat) (x : α) (hi : i < L.length) (h : f x = f (L[i]'hi)) : (L.set i x).map f = L.map f := by
  rw [List.map_set, h]
  have : f (L[i]'hi) = (L.map f)[i]'(by simpa using hi) := by simp
  rw [this, List.set_getElem_self]
/-- An entry has another rank, and the row is in order again. -/
theorem CX.refixed {w0 w3 : World} {h2 : Hd} {sv3 : Value} {L2 : List Me} {D : DataW Unit} {x : Me} (hX : CX F w0 w cb h L) (r : RowIs w cb h sv L) (hsv : ∀ q, sv.ownBlock = some q → F q ∨ w0.heap.size ≤ q) (hM : MapIs w h.mb (Maps.size D) D) (hI : Idx D L)
    (i : Nat) (hi : i < L.length) (hg : x.g = (L[i]'hi).g) (hv : x.v = (L[i]'hi).v) (hval : x.e.val = (L[i]'hi).e.val) (hkey : x.e.key = (L[i]'hi).e.key) (hcost : x.e.cost = (L[i]'hi).e.cost)
    (hK : Kp (Fr cb sv L) w w3) (r3 : RowIs w3 cb h2 sv3 L2) (hq3 : ∀ q, sv3.ownBlock = some q → Fr cb sv L q ∨ w.heap.size ≤ q) (hp : L2.Perm (L.set i x)) (hh : Heap ltM L2 L2.length) (hmb : h2.mb = h.mb) : CX F w0 w3 cb h2 L2 := by
  have hFr : ∀ q, Fr cb sv L q → F q ∨ w0.heap.size ≤ q := fun q hq => by
    rcases hq with e | e | ⟨m, hm, e⟩
    · exact .inl (e ▸ hX.fc)
    · exact hsv q e
    · exact e ▸ hX.fe m hm
  have hmem : ∀ m, m ∈ L2 → ∃ m0 ∈ L, m.g = m0.g ∧ m.v = m0.v ∧ m.e.val = m0.e.val ∧ m.e.key = m0.e.key ∧ m.e.cost = m0.e.cost := fun m hm => by
    rcases List.mem_or_eq_of_mem_set (hp.mem_iff.1 hm) with h1 | h1
    · exact ⟨m, h1, rfl, rfl, rfl, rfl, rfl⟩
    · subst h1; exact ⟨_, List.getElem_mem hi, hg, hv, hval, hkey, hcost⟩
  refine ⟨hX.kp.trans hK hFr, hX.fc, hmb ▸ hX.fm, fun m hm => ?_, ?_, hh, ⟨sv3, D, r3, fun q hq => ?_, ?_, (hI.set_ i hi hg hkey).perm hp⟩, fun m hm => ?_, ?_, fun m hm => ?_⟩
  · obtain ⟨m0, h0, e, _⟩ := hmem m hm
    rw [e]; exact hX.fe m0 h0
  · have := hp.length_eq
    rw [List.length_set] at this
    have := hX.len
    omega
  · rcases hq3 q hq with e | e
    · exact hFr q e
    · exact .inr (Nat.le_trans hX.kp.size e)
  · rw [hmb]; exact map_kp hM hK (r.not_map hM)
  · obtain ⟨m0, h0, _, e2, e3, _⟩ := hmem m hm
    rw [e2, e3]
    exact (hX.vals m0 h0).kp hK (fun q cs _ hB => r.not_val hB)
  · have e : ((L.set i x).map fun m => m.e.key) = L.map fun m => m.e.key := map_set_same _ _ _ _ hi hkey
    exact (hp.map fun m => m.e.key).nodup_iff.2 (by rw [e]; exact hX.keys)
  · obtain ⟨m0, h0, _, _, e3, e4, e5⟩ := hmem m hm
    rw [e3, e4, e5]; exact hX.ok m0 h0
theorem at_set_ne {L : List Me} {i k : Nat} {x : Me} (h : k ≠ i) : at_ (L.set i x) k = at_ L k := by
  simp only [at_, List.getD_eq_getElem?_getD]
  rw [List.getElem?_set_ne (Ne.symm h)]

/-- A result of Get beside the cache: bytes of their own. -/
structure GetP (F : Nat → Prop) (w : World) (cb : Nat) (c : Cs) (v : Value) (xs : List Int) (w' : World) : Prop where
  res : ∃ B A c', v = .slice A xs.length c' ∧ w.heap.size ≤ B ∧ w'.ownsRow B 5 1 v xs.length (xs.map (.int .u8)) ∧ IsC (fun q => (F q ∨ w.heap.size ≤ q) ∧ q < B) w' cb c
  kp : Kp F w w'

set_option maxHeartbeats 4000000 in
set_option maxRecDepth 100000 in
theorem get_no {k : ByteArray} (hC : IsC F w cb c) (hk : k.size ≤ maxLen) (hs : Small c) (hh : getE k c.S = none) :
    Calls Try.prog 13 #[.pointer (some ⟨cb, 0, none⟩), .string k] w fun e w' => e = .returned (.tuple #[.slice none 0 0, .bool false]) ∧ Left F w cb (getC c k).2 w' := by
  obtain ⟨mb, L, hX, hp⟩ := hC.body
  obtain ⟨sv, D, r, hsv, hM, hI⟩ := hX.body
  have H0 := hid_ (none_c cb _ sv r.head)
  have c7 : w.cell? ⟨cb, 7, none⟩ = some (.map (some mb)) := r.head.cell 7
  rcases look hM hI k hk with ⟨hno, hrun⟩ | ⟨m, hm, he, hrun⟩
  · have c5 : w.cell? ⟨cb, 5, none⟩ = some (.int .i64 c.missed) := r.head.cell 5
    have f5 := r.head.frozen 5
    have hrun' : (Instr.lookup 62 (.map (some mb)) (.string k) false).run Try.prog w = .ok (.pointer none) w := hrun
    have q1 : IntKind.i64.wrap (c.missed + 1) = c.missed + 1 := IntWalk.i64_in _ (by have := hC.ok.mis; have := hs.2; omega)
    have HF := hid_ (show Left F w cb (getC c k).2 (w.setCell ⟨cb, 5, none⟩ (.int .i64 (c.missed + 1))) from by
      have e1 : (getC c k).2 = { c with missed := c.missed + 1 } := by unfold getC; rw [hh]
      have ho := hC.ok.get k
      rw [e1] at ho ⊢
      have hk1 := (Kp.refl (fun q => q = cb) w).setCell (p := ⟨cb, 5, none⟩) (.inl rfl) (.int .i64 (c.missed + 1))
      have hr := r.field 5 (.int .i64 (c.missed + 1)) (hdOf { c with missed := c.missed + 1 } mb) rfl
      have hX' : CX F w (w.setCell ⟨cb, 5, none⟩ (.int .i64 (c.missed + 1))) cb (hdOf { c with missed := c.missed + 1 } mb) L :=
        ⟨hk1.mono (fun q hq => hq ▸ hX.fc), hX.fc, hX.fm, hX.fe, hX.len, hX.heap, ⟨sv, D, hr, hsv, map_kp hM hk1 (fun e => blk_map_ne r.head hM e.symm), hI⟩, fun m hm => (hX.vals m hm).kp hk1 (fun q cs _ hB e => Blk.ne_ r.head hB (by decide) e.symm), hX.keys, hX.ok⟩
      exact hX'.left ho hp)
    clear hX hsv hM hI r hno hp hrun hC hs hh
    go_enter Try.func13, Try.ntmps13
    go_wp2_with fail
    refine H0.out.mono ?_
    rintro e w1 ⟨rfl, rfl⟩
    go_wp2
    go_ret2
    exact ⟨rfl, HF.out⟩
  · exact absurd (getE_of hC.ok.gd.once ((hp.mem_iff).1 (List.mem_map.2 ⟨m, hm, rfl⟩)) he) (by rw [hh]; simp)

set_option maxHeartbeats 4000000 in
set_option maxRecDepth 100000 in
theorem get_yes {k : ByteArray} {x : En} (hC : IsC F w cb c) (hk : k.size ≤ maxLen) (hs : Small c) (hh : getE k c.S = some x) :
    Calls Try.prog 13 #[.pointer (some ⟨cb, 0, none⟩), .string k] w fun e w' => ∃ v, e = .returned (.tuple #[v, .bool true]) ∧ GetP F w cb (getC c k).2 v x.val w' := by
  obtain ⟨mb, L, hX, hp⟩ := hC.body
  obtain ⟨sv, D, r, hsv, hM, hI⟩ := hX.body
  obtain ⟨hx, hxk⟩ := getE_some hh
  have H0 := hid_ (none_c cb _ sv r.head)
  have c7 : w.cell? ⟨cb, 7, none⟩ = some (.map (some mb)) := r.head.cell 7
  rcases look hM hI k hk with ⟨hno, hrun⟩ | ⟨m, hm, he, hrun⟩
  · have := hasE_not.1 (hasE_no hp hno)
    exact absurd (List.mem_map.2 ⟨x, hx, hxk⟩) this
  · obtain ⟨i, hi, hmi⟩ := List.mem_iff_getElem.1 hm
    have hmx : m.e = x := by
      have := getE_of hC.ok.gd.once ((hp.mem_iff).1 (List.mem_map.2 ⟨m, hm, rfl⟩)) he
      rw [hh] at this
      exact (Option.some.inj this).symm
    have c4 : w.cell? ⟨cb, 4, none⟩ = some (.int .i64 c.found) := r.head.cell 4
    have f4 := r.head.frozen 4
    have hrun' : (Instr.lookup 62 (.map (some mb)) (.string k) false).run Try.prog w = .ok (.pointer (some ⟨m.g, 0, none⟩)) w := hrun
    have hf := hC.ok.fnd
    have hu := hs.1
    have hlv := hC.ok.lev
    have hco := hX.ok m hm
    have q1 : IntKind.i64.wrap (c.found + 1) = c.found + 1 := IntWalk.i64_in _ (by omega)
    -- the block with the count
    have hr1 := r.field 4 (.int .i64 (c.found + 1)) { hdOf c mb with found := c.found + 1 } rfl
    have hk1 := (Kp.refl (fun q => q = cb) w).setCell (p := ⟨cb, 4, none⟩) (.inl rfl) (.int .i64 (c.found + 1))
    have hE1 : Ent (w.setCell ⟨cb, 4, none⟩ (.int .i64 (c.found + 1))) m i := by
      have := hr1.ents i hi
      rw [hmi] at this
      exact this
    have HU := hid_ (use_c cb _ sv m i hr1.head hE1 (by show 0 ≤ c.uses ∧ c.uses ≤ 1000000000; omega) (by show 0 ≤ c.level ∧ c.level ≤ 1000000000000000; omega) ⟨hco.2.2.1, hco.2.2.2⟩)
    have HX := hid_ hX
    have HR := hid_ (And.intro r (And.intro hr1 hk1))
    have HM := hid_ (And.intro hM (And.intro hI hsv))
    have HC := hid_ hC
    have HP := hid_ hp
    have HHx := hid_ (And.intro hh (And.intro hmx hmi))
    have HHm := hid_ hm
    unfold ptr at HU
    clear hX hsv hM hI r hp hrun hC hs hh hr1 hk1 hE1 hm hx hmx hmi hco
    go_enter Try.func13, Try.ntmps13
    go_wp2_with fail
    refine H0.out.mono ?_
    rintro e w1 ⟨rfl, rfl⟩
    go_wp2_with fail
    refine HU.out.mono ?_
    rintro e w2 ⟨rfl, hB2, hE2, hk2⟩
    obtain ⟨r, hr1, hk1⟩ := HR.out
    obtain ⟨hM, hI, hsv⟩ := HM.out
    obtain ⟨hh, hmx, hmi⟩ := HHx.out
    have X := HX.out
    have hkw : Kp (fun q => q = cb ∨ q = m.g) w w2 := (hk1.mono (S' := fun q => q = cb ∨ q = m.g) (fun q hq => .inl hq)).trans hk2 (fun q hq => .inl hq)
    generalize hm' : m.use { hdOf c mb with found := c.found + 1 } = m' at hE2
    have hg' : m'.g = (L[i]'hi).g := by rw [← hm', hmi]; rfl
    have r2 := hr1.used (x := m') i hi hg' (by rw [← hm']; exact hk2) hB2 hE2
    have hFrL : ∀ q, Fr cb sv (L.set i m') q → Fr cb sv L q := fun q hq => by
      rcases hq with e | e | ⟨y, hy, e⟩
      · exact .inl e
      · exact .inr (.inl e)
      · rcases List.mem_or_eq_of_mem_set hy with h1 | h1
        · exact .inr (.inr ⟨y, h1, e⟩)
        · subst h1; exact .inr (.inr ⟨_, List.getElem_mem hi, by rw [e, hg']⟩)
    have hkL : Kp (Fr cb sv L) w w2 := hkw.mono (fun q hq => hq.elim .inl (fun e => .inr (.inr ⟨_, List.getElem_mem hi, by rw [e, hmi]⟩)))
    have hlen1 : (L.set i m').length ≤ 100000 := by rw [List.length_set]; exact X.len
    have hi1 : i < (L.set i m').length := by rw [List.length_set]; exact hi
    have hbad := bad_fix (L := L.set i m') (i := i) ordM X.heap (List.length_set) (fun j hj => at_set_ne hj)
    have HFx := hid_ (hfix_c (M := CM (Fr cb sv (L.set i m')) w2 cb _) ordM CM.headM CM.lessM CM.swapM CM.lenM w2.drew (L.set i m') i ((r2.cm hlen1).below (Below.refl _ w2).drew) hi1 hlen1 hbad)
    have y5 : w2.cell? ⟨m.g, 5, none⟩ = some (.int .i64 i) := by
      have := hE2.cell 5
      rw [show m'.g = m.g by rw [← hm']; rfl] at this
      exact this
    have HK := hid_ (And.intro hkL hFrL)
    have HG := hid_ (And.intro hm' hg')
    clear r hr1 hk1 hM hI hsv hh hmx hmi X hkw r2 hlen1 hi1 hbad hB2 hE2 hk2 hkL hFrL hm' hg' hrun'
    go_wp2_with fail
    go_region_with (go_at_call 32; refine HFx.out.mono ?_; rintro e w3 ⟨rfl, L2, hCM, hp2, hh2⟩)
    obtain ⟨r, hr1, hk1⟩ := HR.out
    obtain ⟨hM, hI, hsv⟩ := HM.out
    obtain ⟨hh, hmx, hmi⟩ := HHx.out
    obtain ⟨hkL, hFrL⟩ := HK.out
    obtain ⟨hm', hg'⟩ := HG.out
    obtain ⟨sv3, r3, hq3⟩ := hCM.body
    have K13 : Kp (Fr cb sv L) w w3 := hkL.trans hCM.kp (fun q hq => .inl (hFrL q hq))
    have X3 := HX.out.refixed (x := m') r hsv hM hI i hi hg' (by rw [← hm', hmi]; rfl) (by rw [← hm', hmi]; rfl) (by rw [← hm', hmi]; rfl) (by rw [← hm', hmi]; rfl) K13 r3 (fun q hq => (hq3 q hq).imp (hFrL q) (fun e => Nat.le_trans hkL.size e)) hp2 hh2 rfl
    have e1 : (getC c k).2 = useE { c with found := c.found + 1 } x (outE k c.S) := by unfold getC; rw [hh]
    have hx1 : x ∈ c.S := (getE_some hh).1
    have hpe : (L2.map Me.e).Perm (getC c k).2.S := by
      rw [e1]
      refine (hp2.map Me.e).trans ?_
      refine ((set_perm L i m' hi).map Me.e).trans ?_
      rw [List.map_cons]
      have h1 := out_of (erase_perm L i hi) HP.out HC.out.ok.gd.once
      rw [hmi, he] at h1
      refine ((h1.cons m'.e).trans ?_)
      have : m'.e = { x with worth := c.level + x.cost, used := c.uses + 1 } := by rw [← hm', ← hmx]; rfl
      rw [this]
      exact (insE_perm _ _).symm
    have hsz : szS (getC c k).2.S = szS c.S := by
      have h1 := szS_out (erase_perm L i hi) HP.out HC.out.ok.gd.once
      rw [hmi, he, hmx] at h1
      rw [e1]
      show szS (insE _ (outE k c.S)) = _
      rw [szS_insE]
      show szE x + szS (outE k c.S) = _
      omega
    have e2 : ({ room := (hdOf c mb).room, level := (hdOf c mb).level, uses := (hdOf c mb).uses + 1, size := (hdOf c mb).size, found := c.found + 1, missed := (hdOf c mb).missed, thrown := (hdOf c mb).thrown, mb := (hdOf c mb).mb } : Hd) = hdOf (getC c k).2 mb := by
      unfold hdOf
      rw [hsz, e1]
      rfl
    have X4 : CX F w w3 cb (hdOf (getC c k).2 mb) L2 := by rw [← e2]; exact X3
    have hL3 := X4.left (HC.out.ok.get k) hpe
    obtain ⟨j, hj, ej⟩ := List.mem_iff_getElem.1 (hp2.mem_iff.2 (List.mem_iff_getElem.2 ⟨i, by rw [List.length_set]; exact hi, by rw [List.getElem_set_self]⟩) : m' ∈ L2)
    have hEm := r3.ents j hj
    rw [ej] at hEm
    have hVm := X3.vals m' (by rw [← ej]; exact List.getElem_mem hj)
    obtain ⟨A, ca, hv, hnc, hrd⟩ := hVm.rd
    have z3 : w3.cell? ⟨m.g, 3, none⟩ = some (.slice A m'.e.val.length ca) := by
      have := hEm.cell 3
      rw [show m'.g = m.g by rw [← hm']; rfl] at this
      rw [this]
      show some m'.v = _
      rw [hv]
    have hval : m'.e.val = x.val := by rw [← hm', ← hmx]; rfl
    rw [hval] at hnc hrd z3
    have hvl := (HX.out.ok m HHm.out).2.1
    rw [hmx] at hvl
    have HCl := hid_ (clone_c hrd (by omega) hnc)
    have HL := hid_ hL3
    clear r hr1 hk1 hM hI hsv hh hmx hmi hkL hFrL hm' hg' r3 hq3 K13 X3 e1 hx1 hpe hsz e2 X4 hL3 ej hEm hVm hv hrd hval hCM hp2 hh2
    go_wp2_with fail
    refine HCl.out.mono ?_
    rintro e w4 ⟨A', c', rfl, hown, hb4⟩
    have HO := hid_ (And.intro hown hb4)
    clear hown hb4
    go_wp2
    go_ret2
    refine ⟨_, rfl, ⟨w3.heap.size, A', c', rfl, HL.out.kp.size, HO.out.1, (HL.out.isC.blocks).below HO.out.2⟩, HL.out.kp.below HO.out.2⟩
end
end Go.Proofs.Ytogedbednfbkmaa
