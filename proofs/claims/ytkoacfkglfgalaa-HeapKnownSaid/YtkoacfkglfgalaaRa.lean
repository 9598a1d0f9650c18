/- The reference heap: what it is in memory; its function out. Conditions: those that each theorem names. -/
import Derived.Test.YtkoacfkglfgalaaV
import Derived.Maps.AppendAt
import Derived.Laws.AppendOwnNone
import Derived.Deep.RegionLaw
import Derived.BigRegion
namespace Go.Proofs.Ytkoacfkglfgalaa
open Go.RowKit Go.Maps

/-- An append onto memory of the call's own, whatever is appended: nothing, of nil, of some place. -/
theorem run_append_any {P : Program} {w : World} (base : Nat) (t ty e : TypeId) (i : TypeInfo) (z : Value) (size bytes : Nat) (ht : P.underlying t = some (.slice e)) (hi : P.info? e = some i) (hz : i.zero = some z)
    (hsize : i.size = size) (hby : i.bytes = bytes) (hzs : z.cells.size = size) (hsz : 0 < size)
    (v : Value) (n : Nat) (xs : List Value) (hown : w.ownsRow base e size v n xs)
    (ao : Option Addr) (m c : Nat) (news : List Value) (hl : news.length = m * size) (hno : ao = none → m = 0 ∧ c = 0) (hnews : ∀ ad, ao = some ad → ∀ j u, news[j]? = some u → w.cell? (ad.add j) = some u) (h1 : ∀ u ∈ news, u.oneCell' = true)
    (h63 : n + m ≤ maxLen) (hbytes : (n + m) * bytes ≤ 140737488355328) (hbase : base ≤ w.heap.size) :
    ∃ A' c' w', (Builtin.append_ #[t, t] ty #[v, .slice ao m c]).run P w = .ok (.slice A' (n + m) c') w' ∧ w'.ownsRow base e size (.slice A' (n + m) c') (n + m) (xs ++ news) ∧ w.grownBy w' v.ownBlock := by
  have hform : ∀ {w' : World} {v' : Value} {k : Nat} {ys : List Value}, w'.ownsRow base e size v' k ys → ∃ A' c', v' = .slice A' k c' := fun h => by
    rcases h.2 with ⟨hv, h0⟩ | ⟨g, cap, _, hv, _⟩
    · exact ⟨none, 0, by rw [hv, h0]⟩
    · exact ⟨_, _, hv⟩
  cases ao with
  | none =>
    obtain ⟨rfl, rfl⟩ := hno rfl
    have hx : news = [] := List.eq_nil_of_length_eq_zero (by omega)
    subst hx
    obtain ⟨A', c', hv⟩ := hform hown
    refine ⟨A', c', w, ?_, ?_, ⟨rfl, rfl, rfl, Nat.le_refl _, fun _ _ _ => rfl⟩⟩
    · rw [Nat.add_zero, ← hv]
      exact run_append_owned_none w base t ty e i size ht hi v n xs hown
    · rw [Nat.add_zero, ← hv, List.append_nil]
      exact hown
  | some ad =>
    obtain ⟨v', w', hr, h2, h3, _, _⟩ := run_append_own_at (P := P) w base t ty e i z size bytes ht hi hz hsize hby hzs hsz v n xs hown ad m c news hl (hnews ad rfl) h1 h63 hbytes hbase
    obtain ⟨A', c', rfl⟩ := hform h2
    exact ⟨A', c', w', hr, h2, h3⟩

theorem step_append_any {P : Program} {w : World} {ops : Array Oper} {o : Oper} {a : Act} {K : Act → World → Prop} {Q : Exit → Act → World → Prop} {E : Prop} (hgd : o.guard = none) (s x : Operand) (t : TypeId)
    (ho : o.op = .call { callee := .builtin .append, args := #[s, x], argTypes := #[t, t] })
    (base : Nat) (e : TypeId) (i : TypeInfo) (z : Value) (size bytes : Nat) (ht : P.underlying t = some (.slice e)) (hi : P.info? e = some i) (hz : i.zero = some z)
    (hsize : i.size = size) (hby : i.bytes = bytes) (hzs : z.cells.size = size) (hsz : 0 < size)
    (v : Value) (n : Nat) (xs : List Value) (hs : a.eval s = v) (hown : w.ownsRow base e size v n xs)
    (ao : Option Addr) (m c : Nat) (news : List Value) (hx : a.eval x = .slice ao m c) (hl : news.length = m * size) (hno : ao = none → m = 0 ∧ c = 0) (hnews : ∀ ad, ao = some ad → ∀ j u, news[j]? = some u → w.cell? (ad.add j) = some u) (h1 : ∀ u ∈ news, u.oneCell' = true)
    (h63 : n + m ≤ maxLen) (hbytes : (n + m) * bytes ≤ 140737488355328) (hbase : base ≤ w.heap.size)
    (h : ∀ A' c' w', w'.ownsRow base e size (.slice A' (n + m) c') (n + m) (xs ++ news) → w.grownBy w' v.ownBlock → K (a.put o.dst (.slice A' (n + m) c')) w') :
    if Region.wanted o (yielded ops a.tmps) = true then Oper.wp P o a w K Q else E := by
  have hw : Region.wanted o (yielded ops a.tmps) = true := by simp [Region.wanted, hgd]
  rw [if_pos hw]
  obtain ⟨A', c', w', hr, h2, h3⟩ := run_append_any (P := P) base t o.type e i z size bytes ht hi hz hsize hby hzs hsz v n xs hown ao m c news hl hno hnews h1 h63 hbytes hbase
  unfold Oper.wp execOp
  simp only [ho, resolve, invoke, builtin, Sem.run_bind, Sem.run_pure, Result.andThen_ok, List.map_toArray, List.map_cons, List.map_nil, hs, hx, hr]
  exact h A' c' w' h2 h3

/-- The reference heap at mb holds S: its blocks are in G. -/
structure Rf (G : Nat → Prop) (w : World) (mb : Nat) (S : List Item) : Prop where
  fm : G mb
  body : ∃ A c, Blk w mb 80 #[.slice A S.length c] ∧ w.ownsRow 0 83 2 (.slice A S.length c) S.length (flat S) ∧ ∀ q, (Value.slice A S.length c).ownBlock = some q → G q ∧ q ≠ mb

theorem Try.info83 : (Try.prog.info? 83).map (fun i => (i.zero, i.size, i.bytes)) = some (some (.agg #[.int .i64 0, .int .i64 0]), 2, 16) := by kernel_rfl

theorem own_base {w : World} {base : Nat} {e : TypeId} {size n : Nat} {v : Value} {xs : List Value} (h : w.ownsRow base e size v n xs) {k : Nat} (hk : v.ownBlock = some k) : base ≤ k := by
  rcases h.2 with ⟨hv, _⟩ | ⟨g, cap, _, hv, hg, _⟩
  · subst hv; simp [Value.ownBlock] at hk
  · subst hv
    have : g = k := by simpa [Value.ownBlock] using hk
    omega
theorem own_lt {w : World} {base : Nat} {e : TypeId} {size n : Nat} {v : Value} {xs : List Value} (h : w.ownsRow base e size v n xs) {k : Nat} (hk : v.ownBlock = some k) : k < w.heap.size := by
  rcases h.2 with ⟨hv, _⟩ | ⟨g, cap, _, hv, hg, hh, _⟩
  · subst hv; simp [Value.ownBlock] at hk
  · subst hv
    have : g = k := by simpa [Value.ownBlock] using hk
    subst this
    rcases Nat.lt_or_ge g w.heap.size with hlt | hge
    · exact hlt
    · rw [Array.getElem?_eq_none hge] at hh; cases hh
theorem ownsRow_base {w : World} {base base' : Nat} {e : TypeId} {size n : Nat} {v : Value} {xs : List Value} (h : w.ownsRow base e size v n xs) (hb : base' ≤ base) : w.ownsRow base' e size v n xs := by
  refine ⟨h.1, ?_⟩
  rcases h.2 with h2 | ⟨g, cap, cur, hv, hg, h3⟩
  · exact .inl h2
  · exact .inr ⟨g, cap, cur, hv, Nat.le_trans hb hg, h3⟩
theorem flat_take (S : List Item) (i : Nat) : flat S = flat (S.take i) ++ flat (S.drop i) := by
  rw [← flat_append, List.take_append_drop]
theorem src_take {w W' : World} {g n c i : Nat} {S : List Item} (hown : w.ownsRow 0 83 2 (.slice (some ⟨g, 0, none⟩) n c) n (flat S)) (hb : Below w.heap.size w W') :
    ∀ ad, some (⟨g, 0, none⟩ : Addr) = some ad → ∀ j u, (flat (S.take i))[j]? = some u → W'.cell? (ad.add j) = some u := by
  intro ad had j u hu
  injection had with had
  subst had
  rw [add_at]
  refine below_cell hb (own_cell hown j u ?_)
  rw [flat_take S i, List.getElem?_append_left (List.getElem?_eq_some_iff.1 hu).1]
  exact hu
theorem src_drop {w W' : World} {g n c k : Nat} {S : List Item} (hown : w.ownsRow 0 83 2 (.slice (some ⟨g, 0, none⟩) n c) n (flat S)) (hb : Below w.heap.size w W') (hk : k ≤ n) (hc : n ≤ c) :
    ∀ ad, (if c = k then some (⟨g, 0, none⟩ : Addr) else some ⟨g, k * 2, none⟩) = some ad → ∀ j u, (flat (S.drop k))[j]? = some u → W'.cell? (ad.add j) = some u := by
  intro ad had j u hu
  have hl : S.length = n := by have := hown.1; rw [flat_length] at this; omega
  split at had
  · have : S.drop k = [] := List.drop_eq_nil_of_le (by omega)
    rw [this] at hu
    simp [flat] at hu
  · injection had with had
    subst had
    rw [show (⟨g, k * 2, none⟩ : Addr).add j = ⟨g, k * 2 + j, none⟩ by simp [Addr.add]]
    refine below_cell hb (own_cell hown _ u ?_)
    rw [flat_take S k, List.getElem?_append_right (by rw [flat_length, List.length_take]; omega), flat_length, List.length_take]
    rw [show k * 2 + j - min k S.length * 2 = j by omega]
    exact hu
theorem src_none {a b : Addr} {c k m d : Nat} : (if c = k then some a else some b) = none → m = 0 ∧ d = 0 := by
  intro h
  split at h <;> cases h
theorem some_none {a : Addr} {m d : Nat} : some a = none → m = 0 ∧ d = 0 := by
  intro h; cases h

set_option maxHeartbeats 4000000 in
set_option maxRecDepth 100000 in
theorem out_try {G : Nat → Prop} {w : World} {mb : Nat} {S : List Item} (h : Rf G w mb S) {i : Nat} (hi : i < S.length) (hS : S.length ≤ 1000) :
    Calls Try.prog 41 #[.pointer (some ⟨mb, 0, none⟩), .int .i64 i] w fun e w' => e = .returned (.agg #[.int .i64 (S.getD i (0, 0)).1, .int .i64 (S.getD i (0, 0)).2]) ∧
      Rf (fun q => G q ∨ w.heap.size ≤ q) w' mb (S.eraseIdx i) ∧ Kp (fun q => q = mb) w w' := by
  obtain ⟨i0, hi0, hz0, hz1, hz2⟩ := info_parts Try.info83
  obtain ⟨A, c, hB, hown, hq⟩ := h.body
  obtain ⟨g, cap, hv, _, hglt⟩ := hown.form (by omega)
  injection hv with hv1 hv2 hv3
  subst hv1 hv3
  have c0 := hB.cell 0
  have f0 := hB.frozen 0
  have lt0 := hB.lt
  have e0 : w.cell? ⟨g, i * 2, none⟩ = some (.int .i64 (S.getD i (0, 0)).1) := by
    refine own_cell hown _ _ ?_
    rw [flat_at0 S i hi]; simp [List.getD, hi]
  have e1 : w.cell? ⟨g, i * 2 + 1, none⟩ = some (.int .i64 (S.getD i (0, 0)).2) := by
    refine own_cell hown _ _ ?_
    rw [flat_at1 S i hi]; simp [List.getD, hi]
  generalize S.getD i (0, 0) = x at *
  obtain ⟨xa, xb⟩ := x
  generalize hn : S.length = n at *
  have HN := hid_ hn
  have HOwn := hid_ hown
  have HBlk := hid_ hB
  have HFm := hid_ h.fm
  clear hn hown hq h hB
  have b0 : (0 : Int) ≤ (i : Int) := by omega
  have b1 : (i : Int) < (n : Int) := by omega
  have b2 : ((i : Int) + 1) ≤ (n : Int) := by omega
  have b3 : (0 : Int) ≤ (i : Int) + 1 := by omega
  have bc : n ≤ c := by
    rcases HOwn.out.2 with ⟨hv, _⟩ | ⟨g', cap', _, hv, _, _, hh, _⟩
    · cases hv
    · injection hv with _ _ hv
      omega
  have hcm : c ≤ 9223372036854775807 := by
    rcases HOwn.out.2 with ⟨hv, _⟩ | ⟨g', cap', _, hv, _, _, hh, hm, _⟩
    · cases hv
    · injection hv with _ _ hv
      unfold maxLen at hm
      omega
  have b4 : (n : Int) ≤ (c : Int) := by omega
  have b5 : (i : Int) ≤ (c : Int) := by omega
  go_enter Try.func41, Try.ntmps41
  go_wp2
  have f0W : ((w.alloc (Obj.cells #[Value.int IntKind.i64 0, Value.int IntKind.i64 0] 83)).alloc (Obj.cells #[Value.int IntKind.i64 xa, Value.int IntKind.i64 xb] 83)).frozen? ⟨mb, 0, none⟩ = false := (World.frozen?_alloc_past _ _ _ (by simp; omega)).trans ((World.frozen?_alloc_past _ _ _ lt0).trans f0)
  have c0W : ((w.alloc (Obj.cells #[Value.int IntKind.i64 0, Value.int IntKind.i64 0] 83)).alloc (Obj.cells #[Value.int IntKind.i64 xa, Value.int IntKind.i64 xb] 83)).cell? ⟨mb, 0, none⟩ = some (.slice (some ⟨g, 0, none⟩) n c) := (World.cell?_alloc_past _ _ _ (by simp; omega)).trans ((World.cell?_alloc_past _ _ _ lt0).trans c0)
  have hbW := hid_ (((Below.refl w.heap.size w).alloc (Nat.le_refl _) (Obj.cells #[Value.int IntKind.i64 0, Value.int IntKind.i64 0] 83)).alloc (by simp) (Obj.cells #[Value.int IntKind.i64 xa, Value.int IntKind.i64 xb] 83))
  have hsW : ((w.alloc (Obj.cells #[Value.int IntKind.i64 0, Value.int IntKind.i64 0] 83)).alloc (Obj.cells #[Value.int IntKind.i64 xa, Value.int IntKind.i64 xb] 83)).heap.size = w.heap.size + 2 := by simp
  have hB4 := hid_ ((Blk.kp (Blk.new w 83 #[Value.int IntKind.i64 0, Value.int IntKind.i64 0]) ((Kp.refl (fun _ => False) _).alloc (Obj.cells #[Value.int IntKind.i64 xa, Value.int IntKind.i64 xb] 83)) id : Blk ((w.alloc (Obj.cells #[Value.int IntKind.i64 0, Value.int IntKind.i64 0] 83)).alloc (Obj.cells #[Value.int IntKind.i64 xa, Value.int IntKind.i64 xb] 83)) w.heap.size 83 #[Value.int IntKind.i64 0, Value.int IntKind.i64 0]))
  have hB5 := Blk.new (w.alloc (Obj.cells #[Value.int IntKind.i64 0, Value.int IntKind.i64 0] 83)) 83 #[Value.int IntKind.i64 xa, Value.int IntKind.i64 xb]
  rw [show (w.alloc (Obj.cells #[Value.int IntKind.i64 0, Value.int IntKind.i64 0] 83)).heap.size = w.heap.size + 1 by simp] at hB5
  have HB5 := hid_ hB5
  clear hB5
  generalize ((w.alloc (Obj.cells #[Value.int IntKind.i64 0, Value.int IntKind.i64 0] 83)).alloc (Obj.cells #[Value.int IntKind.i64 xa, Value.int IntKind.i64 xb] 83)) = W at *
  have q1 : IntKind.i64.wrap ((i : Int) + 1) = (i : Int) + 1 := IntWalk.i64_in _ (by omega)
  have hl1 : (flat (S.take i)).length = i * 2 := by rw [flat_length, List.length_take]; have := HN.out; omega
  have hl2 : (flat (S.drop (i + 1))).length = (n - (i + 1)) * 2 := by rw [flat_length, List.length_drop]; have := HN.out; omega
  have HL1 := hid_ hl1
  have HL2 := hid_ hl2
  have HC := hid_ c0W
  have HF := hid_ f0W
  clear hl1 hl2
  have HLt := hid_ (show mb < W.heap.size by omega)
  have HM1 := hid_ (show 0 + i ≤ maxLen by unfold maxLen; omega)
  have HM2 := hid_ (show i + (n - (i + 1)) ≤ maxLen by unfold maxLen; omega)
  go_region_law (first
    | (refine step_append_any (by rfl) (.tmp 15) (.tmp 21) 78 (by rfl) W.heap.size 83 i0 _ 2 16 (by kernel_rfl) hi0 hz0 hz1 hz2 rfl (by omega) (.slice none 0 0) 0 [] (by rfl) (World.ownsRow_nil _ _ _ _) (some ⟨g, 0, none⟩) i c (flat (S.take i)) (by rfl) HL1.out some_none (src_take HOwn.out hbW.out.drew) (flat_one _) HM1.out (by omega) (Nat.le_refl _) ?_; intro A1 c1 w1 hown1 hgrow1; simp only [Nat.zero_add, List.nil_append] at hown1; have hb1 : Below W.heap.size W w1 := ((Below.refl W.heap.size W).drew).grown hgrow1 (Nat.le_refl _) (fun k hk => by simp [Value.ownBlock] at hk); have k1 := below_cell hb1 HC.out; have k2 := (hb1.frozen (p := ⟨mb, 0, none⟩) HLt.out).trans HF.out; have HB1 := hid_ hb1; clear hb1)
    | (refine step_append_any (by rfl) (.tmp 22) (.tmp 29) 78 (by rfl) W.heap.size 83 i0 _ 2 16 (by kernel_rfl) hi0 hz0 hz1 hz2 rfl (by omega) (.slice A1 i c1) i _ (by rfl) hown1 _ (n - (i + 1)) _ (flat (S.drop (i + 1))) (by rfl) HL2.out src_none (src_drop HOwn.out (hbW.out.trans (HB1.out.mono hbW.out.size)) (by omega) bc) (flat_one _) HM2.out (by omega) HB1.out.size ?_; intro A2 c2 w2 hown2 hgrow2; have hb2 : Below W.heap.size W w2 := HB1.out.grown hgrow2 HB1.out.size (fun k hk => own_base hown1 hk); have k3 := below_cell hb2 HC.out; have k4 := (hb2.frozen (p := ⟨mb, 0, none⟩) HLt.out).trans HF.out; have HB2 := hid_ hb2; clear hb2))
  all_goals
    have n4 : w.heap.size ≠ mb := by omega
    have n5 : w.heap.size + 1 ≠ mb := by omega
    have hmb := HB2.out.size
    have hk2 := (Kp.of_below (HB2.out) (fun q => q = mb))
    have B4 := (hB4.out.kp hk2 n4).far (p := ⟨mb, 0, none⟩) n4 (Value.slice A2 (i + (n - (i + 1))) c2)
    have B5 := (HB5.out.kp hk2 n5).far (p := ⟨mb, 0, none⟩) n5 (Value.slice A2 (i + (n - (i + 1))) c2)
    have BM := ((HBlk.out.kp (Kp.of_below hbW.out (fun _ => False)) id).kp (Kp.of_below HB2.out (fun _ => False)) id).set_ 0 (Value.slice A2 (i + (n - (i + 1))) c2)
    have KM := ((Kp.of_below hbW.out (fun q => q = mb)).below HB2.out).setCell (p := ⟨mb, 0, none⟩) (.inl rfl) (Value.slice A2 (i + (n - (i + 1))) c2)
    have OM := own_kp hown2 ((Kp.refl (fun q => q = mb) w2).setCell (p := ⟨mb, 0, none⟩) (.inl rfl) (Value.slice A2 (i + (n - (i + 1))) c2)) (fun k hk e => by have := own_base hown2 hk; omega)
    have OB := fun k hk => own_base hown2 (k := k) hk
    have h40 := B4.cell 0
    have h41 := B4.cell 1
    have h50 := B5.cell 0
    have h51 := B5.cell 1
    have g40 := B4.frozen 0
    have g41 := B4.frozen 1
    have X4 := hid_ B4
    have XM := hid_ BM
    have XK := hid_ KM
    have XO := hid_ OM
    have XB := hid_ OB
    clear B4 B5 BM KM OM OB hk2 hown1 hown2 hgrow1 hgrow2 k1 k2 k3 k4 c0 f0 e0 e1
    generalize (w2.setCell ⟨mb, 0, none⟩ (Value.slice A2 (i + (n - (i + 1))) c2)) = W3 at *
    go_wp2
    all_goals
      have B4g : Blk ((W3.setCell ⟨w.heap.size, 0, none⟩ (.int .i64 xa)).setCell ⟨w.heap.size, 1, none⟩ (.int .i64 xb)) w.heap.size 83 #[.int .i64 xa, .int .i64 xb] := by
        have := (X4.out.set_ 0 (.int .i64 xa)).set_ 1 (.int .i64 xb)
        simpa using this
      have hel : (S.eraseIdx i).length = i + (n - (i + 1)) := by
        have := HN.out
        rw [List.length_eraseIdx]
        split <;> omega
      have hef : flat (S.take i) ++ flat (S.drop (i + 1)) = flat (S.eraseIdx i) := by rw [← flat_append, ← List.eraseIdx_eq_take_drop_succ]
      refine bodyPost_ret (results_cell_row (by kernel_rfl : Try.f41.results = #[.cell 4 83]) _ _ w.heap.size 83 #[.int .i64 xa, .int .i64 xb] (0, 0) _ rfl B4g Try.underlying83 rfl (by kernel_rfl)) rfl ⟨rfl, ⟨.inl HFm.out, A2, c2, ?_, ?_, ?_⟩, ?_⟩
      · rw [hel]
        have := (XM.out.far (p := ⟨w.heap.size, 0, none⟩) (Ne.symm n4) (.int .i64 xa)).far (p := ⟨w.heap.size, 1, none⟩) (Ne.symm n4) (.int .i64 xb)
        simpa using this
      · rw [hel, ← hef]
        refine own_kp (ownsRow_base XO.out (Nat.zero_le _)) (((Kp.refl (fun q => q = w.heap.size) W3).setCell (p := ⟨w.heap.size, 0, none⟩) (.inl rfl) (.int .i64 xa)).setCell (p := ⟨w.heap.size, 1, none⟩) (.inl rfl) (.int .i64 xb)) (fun k hk e => by have := XB.out k hk; omega)
      · intro q hq
        have h1 : W.heap.size ≤ q := XB.out q (by rw [hel] at hq; exact hq)
        exact ⟨.inr (by omega), by omega⟩
      · exact (XK.out.setCell (p := ⟨w.heap.size, 0, none⟩) (.inr (Nat.le_refl _)) (.int .i64 xa)).setCell (p := ⟨w.heap.size, 1, none⟩) (.inr (Nat.le_refl _)) (.int .i64 xb)
end Go.Proofs.Ytkoacfkglfgalaa
