/- What stands in these texts of the proof: Mb Lm Ws. Conditions: those that each theorem names. -/
import Derived.Test.YtmgjmagniefhoaaGreatDoorAa01
import Derived.Maps.AppendAt
import Derived.Laws.AppendOwnNone
import Derived.Deep.RegionLaw
import Derived.BigRegion
import Derived.Test.YtmgjmagniefhoaaGreatDoorAa04
import Derived.WalkMore
import Derived.Laws.EntriesVeiled
import Derived.Deep.LoopGhost
import Derived.Deep.DeepCutAuto
import Derived.Deep.CutBlock
/- Appends onto memory of the call's own, whatever is appended. Conditions: those that each theorem names. -/
namespace Go.Proofs.YtmgjmagniefhoaaGreatDoor
open Go.RowKit Go.Maps

/-- An append onto memory of the call's own, whatever is appended: nothing, of nil, of some place. -/
theorem run_append_any {P : Program} {w : World} (base : Nat) (t ty e : TypeId) (i : TypeInfo) (z : Value) (size bytes : Nat) (ht : P.underlying t = some (.slice e)) (hi : P.info? e = some i) (hz : i.zero = some z)
    (hsize : i.size = size) (hby : i.bytes = bytes) (hzs : z.cells.size = size) (hsz : 0 < size)
    (v : Value) (n : Nat) (xs : List Value) (hown : w.ownsRow base e size v n xs)
    (ao : Option Addr) (m c : Nat) (news : List Value) (hl : news.length = m * size) (hno : ao = none → m = 0 ∧ c = 0) (hnews : ∀ ad, ao = some ad → ∀ j u, news[j]? = some u → w.cell? (ad.add j) = some u) (h1 : ∀ u ∈ news, u.oneCell' = true)
    (h63 : n + m ≤ maxLen) (hbytes : (n + m) * bytes ≤ 140737488355328) (hbase : base ≤ w.heap.size) :
    ∃ A' c' w', (Builtin.append_ #[t, t] ty #[v, .slice ao m c]).run P w = .ok (.slice A' (n + m) c') w' ∧ w'.ownsRow base e size (.slice A' (n + m) c') (n + m) (xs ++ news) ∧ w.grownBy w' v.ownBlock ∧ (∀ q, (Value.slice A' (n + m) c').ownBlock = some q → v.ownBlock = some q ∨ w.heap.size ≤ q) := by
  have hform : ∀ {w' : World} {v' : Value} {k : Nat} {ys : List Value}, w'.ownsRow base e size v' k ys → ∃ A' c', v' = .slice A' k c' := fun h => by
    rcases h.2 with ⟨hv, h0⟩ | ⟨g, cap, _, hv, _⟩
    · exact ⟨none, 0, by rw [hv, h0]⟩
    · exact ⟨_, _, hv⟩
  cases ao with
  | none =>
    obtain ⟨rfl, rfl⟩ := hno rfl
    have hx : news = [] := List.eq_nil_of_length_eq_zero (by omega)
    subst hx
    obtain ⟨A', c', hv⟩ := hform hown
    refine ⟨A', c', w, ?_, ?_, ⟨rfl, rfl, rfl, Nat.le_refl _, fun _ _ _ => rfl⟩, fun q hq => .inl (by rw [hv]; simpa [Value.ownBlock] using hq)⟩
    · rw [Nat.add_zero, ← hv]
      exact run_append_owned_none w base t ty e i size ht hi v n xs hown
    · rw [Nat.add_zero, ← hv, List.append_nil]
      exact hown
  | some ad =>
    obtain ⟨v', w', hr, h2, h3, _, h5⟩ := run_append_own_at (P := P) w base t ty e i z size bytes ht hi hz hsize hby hzs hsz v n xs hown ad m c news hl (hnews ad rfl) h1 h63 hbytes hbase
    obtain ⟨A', c', rfl⟩ := hform h2
    exact ⟨A', c', w', hr, h2, h3, fun q hq => h5.imp (fun e => by rw [← e]; exact hq) (fun e => by rw [e] at hq; injection hq with hq; omega)⟩

theorem step_append_any {P : Program} {w : World} {ops : Array Oper} {o : Oper} {a : Act} {K : Act → World → Prop} {Q : Exit → Act → World → Prop} {E : Prop} (hgd : o.guard = none) (s x : Operand) (t : TypeId)
    (ho : o.op = .call { callee := .builtin .append, args := #[s, x], argTypes := #[t, t] })
    (base : Nat) (e : TypeId) (i : TypeInfo) (z : Value) (size bytes : Nat) (ht : P.underlying t = some (.slice e)) (hi : P.info? e = some i) (hz : i.zero = some z)
    (hsize : i.size = size) (hby : i.bytes = bytes) (hzs : z.cells.size = size) (hsz : 0 < size)
    (v : Value) (n : Nat) (xs : List Value) (hs : a.eval s = v) (hown : w.ownsRow base e size v n xs)
    (ao : Option Addr) (m c : Nat) (news : List Value) (hx : a.eval x = .slice ao m c) (hl : news.length = m * size) (hno : ao = none → m = 0 ∧ c = 0) (hnews : ∀ ad, ao = some ad → ∀ j u, news[j]? = some u → w.cell? (ad.add j) = some u) (h1 : ∀ u ∈ news, u.oneCell' = true)
    (h63 : n + m ≤ maxLen) (hbytes : (n + m) * bytes ≤ 140737488355328) (hbase : base ≤ w.heap.size)
    (h : ∀ A' c' w', w'.ownsRow base e size (.slice A' (n + m) c') (n + m) (xs ++ news) → w.grownBy w' v.ownBlock → (∀ q, (Value.slice A' (n + m) c').ownBlock = some q → v.ownBlock = some q ∨ w.heap.size ≤ q) → K (a.put o.dst (.slice A' (n + m) c')) w') :
    if Region.wanted o (yielded ops a.tmps) = true then Oper.wp P o a w K Q else E := by
  have hw : Region.wanted o (yielded ops a.tmps) = true := by simp [Region.wanted, hgd]
  rw [if_pos hw]
  obtain ⟨A', c', w', hr, h2, h3, h4⟩ := run_append_any (P := P) base t o.type e i z size bytes ht hi hz hsize hby hzs hsz v n xs hown ao m c news hl hno hnews h1 h63 hbytes hbase
  unfold Oper.wp execOp
  simp only [ho, resolve, invoke, builtin, Sem.run_bind, Sem.run_pure, Result.andThen_ok, List.map_toArray, List.map_cons, List.map_nil, hs, hx, hr]
  exact h A' c' w' h2 h3 h4

theorem wpList_append_any {P : Program} {w : World} {ops : Array Oper} {rest : List Oper} {o : Oper} {a : Act} {Q : Exit → Act → World → Prop} (hgd : o.guard = none) (s x : Operand) (t : TypeId)
    (ho : o.op = .call { callee := .builtin .append, args := #[s, x], argTypes := #[t, t] })
    (base : Nat) (e : TypeId) (i : TypeInfo) (z : Value) (size bytes : Nat) (ht : P.underlying t = some (.slice e)) (hi : P.info? e = some i) (hz : i.zero = some z)
    (hsize : i.size = size) (hby : i.bytes = bytes) (hzs : z.cells.size = size) (hsz : 0 < size)
    (v : Value) (n : Nat) (xs : List Value) (hs : a.eval s = v) (hown : w.ownsRow base e size v n xs)
    (ao : Option Addr) (m c : Nat) (news : List Value) (hx : a.eval x = .slice ao m c) (hl : news.length = m * size) (hno : ao = none → m = 0 ∧ c = 0) (hnews : ∀ ad, ao = some ad → ∀ j u, news[j]? = some u → w.cell? (ad.add j) = some u) (h1 : ∀ u ∈ news, u.oneCell' = true)
    (h63 : n + m ≤ maxLen) (hbytes : (n + m) * bytes ≤ 140737488355328) (hbase : base ≤ w.heap.size)
    (h : ∀ A' c' w', w'.ownsRow base e size (.slice A' (n + m) c') (n + m) (xs ++ news) → w.grownBy w' v.ownBlock → (∀ q, (Value.slice A' (n + m) c').ownBlock = some q → v.ownBlock = some q ∨ w.heap.size ≤ q) → wpList P ops Q rest (a.put o.dst (.slice A' (n + m) c')) w') : wpList P ops Q (o :: rest) a w := by
  refine wpList_plain hgd fun K hK => ?_
  obtain ⟨A', c', w', hr, h2, h3, h4⟩ := run_append_any (P := P) base t o.type e i z size bytes ht hi hz hsize hby hzs hsz v n xs hown ao m c news hl hno hnews h1 h63 hbytes hbase
  unfold Oper.wp execOp
  simp only [ho, resolve, invoke, builtin, Sem.run_bind, Sem.run_pure, Result.andThen_ok, List.map_toArray, List.map_cons, List.map_nil, hs, hx, hr]
  exact hK _ _ (h A' c' w' h2 h3 h4)

theorem own_base {w : World} {base : Nat} {e : TypeId} {size n : Nat} {v : Value} {xs : List Value} (h : w.ownsRow base e size v n xs) {k : Nat} (hk : v.ownBlock = some k) : base ≤ k := by
  rcases h.2 with ⟨hv, _⟩ | ⟨g, cap, _, hv, hg, _⟩
  · subst hv; simp [Value.ownBlock] at hk
  · subst hv
    have : g = k := by simpa [Value.ownBlock] using hk
    omega
theorem own_lt {w : World} {base : Nat} {e : TypeId} {size n : Nat} {v : Value} {xs : List Value} (h : w.ownsRow base e size v n xs) {k : Nat} (hk : v.ownBlock = some k) : k < w.heap.size := by
  rcases h.2 with ⟨hv, _⟩ | ⟨g, cap, _, hv, hg, hh, _⟩
  · subst hv; simp [Value.ownBlock] at hk
  · subst hv
    have : g = k := by simpa [Value.ownBlock] using hk
    subst this
    rcases Nat.lt_or_ge g w.heap.size with hlt | hge
    · exact hlt
    · rw [Array.getElem?_eq_none hge] at hh; cases hh
theorem ownsRow_base {w : World} {base base' : Nat} {e : TypeId} {size n : Nat} {v : Value} {xs : List Value} (h : w.ownsRow base e size v n xs) (hb : base' ≤ base) : w.ownsRow base' e size v n xs := by
  refine ⟨h.1, ?_⟩
  rcases h.2 with h2 | ⟨g, cap, cur, hv, hg, h3⟩
  · exact .inl h2
  · exact .inr ⟨g, cap, cur, hv, Nat.le_trans hb hg, h3⟩
section
variable {w w' : World}
theorem own_parts {w : World} {base : Nat} {e : TypeId} {size n c : Nat} {A : Option Addr} {xs : List Value} (h : w.ownsRow base e size (.slice A n c) n xs) :
    (A = none → n = 0 ∧ c = 0) ∧ n ≤ c ∧ c ≤ 9223372036854775807 ∧ (∀ ad, A = some ad → ∃ g : Nat, ad = ⟨g, 0, none⟩) ∧ (∀ g : Nat, A = some ⟨g, 0, none⟩ → g < w.heap.size) := by
  rcases h.2 with ⟨hv, h0⟩ | ⟨g, cap, cur, hv, hg0, hgh, hnc, hcm, _⟩
  · injection hv with hv1 hv2 hv3
    subst hv1 hv2 hv3
    exact ⟨fun _ => ⟨rfl, rfl⟩, Nat.le_refl _, by omega, fun ad h => (by cases h), fun g h => (by cases h)⟩
  · injection hv with hv1 hv2 hv3
    subst hv1 hv3
    refine ⟨fun h => (by cases h), by omega, by unfold maxLen at hcm; omega, fun ad h => (by injection h with h; exact ⟨g, h.symm⟩), fun g' h => ?_⟩
    injection h with h
    injection h with h
    subst h
    rcases Nat.lt_or_ge g w.heap.size with hlt | hge
    · exact hlt
    · rw [Array.getElem?_eq_none hge] at hgh; cases hgh

end
end Go.Proofs.YtmgjmagniefhoaaGreatDoor

/- Lex: Words. Conditions: those that each theorem names. -/
namespace Go.Proofs.YtmgjmagniefhoaaGreatDoor
open Go.RowKit Go.Maps

theorem Tryz.infoW : (Tryz.prog.info? 88).map (fun i => (i.zero, i.size, i.bytes)) = some (some (.agg #[.int .i64 0, .string ⟨#[]⟩, .int .i64 0, .int .i64 0]), 4, 40) := by kernel_rfl
def cellW (x : Lx.Wd) : List Value := [.int .i64 x.kind, .string (st x.text), .int .i64 x.num, .int .i64 x.pos]
def flatW (l : List Lx.Wd) : List Value := l.flatMap cellW
theorem flatW_append (L M : List Lx.Wd) : flatW (L ++ M) = flatW L ++ flatW M := List.flatMap_append
theorem flatW_length : ∀ L : List Lx.Wd, (flatW L).length = L.length * 4
  | [] => rfl
  | p :: L => by
    show (cellW p ++ flatW L).length = _
    rw [List.length_append, flatW_length L, List.length_cons]
    show 4 + _ = _
    omega
/-- A slice of words of the call's own. -/
def WsOwn (w : World) (B : Nat) (v : Value) (ws : List Lx.Wd) : Prop := w.ownsRow B 88 4 v ws.length (flatW ws)
/-- The word at the end. -/
def endW (s : ByteArray) : Lx.Wd := ⟨7, [], 0, s.size⟩
/-- What Words answers. -/
def WordsP (s : ByteArray) (w : World) (e : Ending) (w' : World) : Prop :=
  Below w.heap.size w w' ∧
  ((65536 < s.size ∧ e = .returned (.tuple #[.slice none 0 0, .int .i64 0, .int .i64 5])) ∨
   (s.size ≤ 65536 ∧ ∃ at_ : Nat, Lx.cut (bl s) = .error at_ ∧ e = .returned (.tuple #[.slice none 0 0, .int .i64 at_, .int .i64 20])) ∨
   (s.size ≤ 65536 ∧ ∃ ws A c, Lx.cut (bl s) = .ok ws ∧ e = .returned (.tuple #[.slice A (ws.length + 1) c, .int .i64 0, .int .i64 0]) ∧ WsOwn w' w.heap.size (.slice A (ws.length + 1) c) (ws ++ [endW s])))

abbrev FnM (n cb : Nat) : Value := .func (.func n) #[.pointer (some ⟨cb, 0, none⟩)] #[]
def rdCells (cb : Nat) : Array Value := #[FnM 56 cb, FnM 57 cb, FnM 58 cb]
/-- What holds behind the blanks: the place i, the words ws ahead of j in v. -/
structure WR (w : World) (s : ByteArray) (cb : Nat) (wr : World) (j i : Nat) (ws : List Lx.Wd) (v : Value) : Prop where
  cur : Cur wr cb s i
  arr : Blk wr (cb + 1) 86 (rdCells cb)
  own : wr.ownsRow (cb + 2) 88 4 v ws.length (flatW ws)
  bel : Below w.heap.size w wr
  cbs : cb = w.heap.size
  lt : cb + 2 ≤ wr.heap.size
  cut : CutR s j ws
  pl : skipTo s j = i
  js : j ≤ s.size
  few : ws.length ≤ j
section
variable {w wr w3 w4 w5 w7 : World} {s : ByteArray} {cb j i : Nat} {ws : List Lx.Wd} {v : Value}
theorem WR.below (h : WR w s cb wr j i ws v) (hb : Below wr.heap.size wr w3) : WR w s cb w3 j i ws v :=
  ⟨h.cur.kp (Kp.of_below hb fun _ => False) id, h.arr.kp (Kp.of_below hb fun _ => False) id, own_kp h.own (Kp.of_below hb fun _ => False) (fun _ _ h => h), h.bel.trans (hb.mono h.bel.size), h.cbs, Nat.le_trans h.lt hb.size, h.cut, h.pl, h.js, h.few⟩
theorem WR.next {v' : Value} {r : Int × List UInt8 × Int × Nat} (h : WR w s cb w4 j i ws v) (hlt : i < s.size) (hw : Lx.word? ((bl s).drop i) = some r) (hg : w4.grownBy w5 v.ownBlock) (hown : w5.ownsRow (cb + 2) 88 4 v' (ws.length + 1) (flatW ws ++ cellW ⟨r.1, r.2.1, r.2.2.1, i⟩))
    (hc : Cur w7 cb s (skipTo s (i + r.2.2.2))) (hk : Kp (fun q => q = cb) (w5.setCell ⟨cb, 1, none⟩ (.int .i64 ((i + r.2.2.2 : Nat) : Int))) w7) : WR w s cb w7 (i + r.2.2.2) (skipTo s (i + r.2.2.2)) (ws ++ [⟨r.1, r.2.1, r.2.2.1, i⟩]) v' := by
  have k5 : Kp (fun q => cb + 2 ≤ q) w4 w5 := (Kp.refl _ w4).grown hg (fun k hk => .inl (own_base h.own hk))
  have k6 : Kp (fun q => q = cb ∨ cb + 2 ≤ q) w4 (w5.setCell ⟨cb, 1, none⟩ (.int .i64 ((i + r.2.2.2 : Nat) : Int))) := (k5.mono (fun q hq => .inr hq)).setCell (p := ⟨cb, 1, none⟩) (.inl (.inl rfl)) _
  have k7 : Kp (fun q => q = cb ∨ cb + 2 ≤ q) w4 w7 := k6.trans hk (fun q hq => .inl (.inl hq))
  have kk : Kp (fun q => q = cb) w5 w7 := ((Kp.refl (fun q => q = cb) w5).setCell (p := ⟨cb, 1, none⟩) (.inl rfl) _).trans hk (fun q hq => .inl hq)
  obtain ⟨c1, c2, c3⟩ := cut_word h.cut h.js h.pl hlt hw
  have hcb := h.cbs
  have hge := skipTo_ge s h.js
  have hpl := h.pl
  have hfew := h.few
  refine ⟨hc, h.arr.kp k7 (fun e => by omega), ?_, h.bel.trans (k7.toBelow h.bel.size (fun q hq e => by omega)), h.cbs, Nat.le_trans h.lt k7.size, c1, rfl, c2, by rw [List.length_append]; show ws.length + 1 ≤ _; omega⟩
  rw [List.length_append, flatW_append]
  have := own_kp hown kk (fun q hq e => by have := own_base hown hq; omega)
  show w7.ownsRow (cb + 2) _ 4 v' (ws.length + 1) (flatW ws ++ flatW [_])
  have e : flatW [(⟨r.1, r.2.1, r.2.2.1, i⟩ : Lx.Wd)] = cellW ⟨r.1, r.2.1, r.2.2.1, i⟩ := by simp [flatW]
  rw [e]
  exact this
theorem WR.lt_cb (h : WR w s cb wr j i ws v) : cb < wr.heap.size := by have := h.lt; omega
theorem WR.cur_on (h : WR w s cb w4 j i ws v) (hg : w4.grownBy w5 v.ownBlock) : Cur w5 cb s i :=
  h.cur.kp ((Kp.refl (fun q => cb + 2 ≤ q) w4).grown hg (fun k hk => .inl (own_base h.own hk))) (fun e => by omega)
theorem WR.cur_at (h : WR w s cb w4 j i ws v) (hg : w4.grownBy w5 v.ownBlock) (n : Int) : Cur (w5.setCell ⟨cb, 1, none⟩ (.int .i64 n)) cb s n :=
  (h.cur.kp ((Kp.refl (fun q => cb + 2 ≤ q) w4).grown hg (fun k hk => .inl (own_base h.own hk))) (fun e => by omega)).set_ 1 _
theorem WR.start (h : Cur w3 (w.heap.size) s (skipTo s 0)) (hk : Kp (fun q => q = w.heap.size) ((w.alloc (.cells #[.string s, .int .i64 0] 84)).alloc (.cells (rdCells w.heap.size) 86)) w3) : WR w s w.heap.size w3 0 (skipTo s 0) [] (.slice none 0 0) := by
  have hb : Below w.heap.size w ((w.alloc (.cells #[.string s, .int .i64 0] 84)).alloc (.cells (rdCells w.heap.size) 86)) := ((Below.refl _ _).alloc (Nat.le_refl _) _).alloc (by simp) _
  have hB := Blk.new (w.alloc (.cells #[.string s, .int .i64 0] 84)) 86 (rdCells w.heap.size)
  have e : (w.alloc (.cells #[.string s, .int .i64 0] 84)).heap.size = w.heap.size + 1 := by simp
  rw [e] at hB
  refine ⟨h, hB.kp hk (fun e => by omega), World.ownsRow_nil _ _ _ _, hb.trans (hk.toBelow hb.size (fun q hq e => by omega)), rfl, ?_, cut_start s, rfl, Nat.zero_le _, Nat.zero_le _⟩
  refine Nat.le_trans ?_ hk.size
  simp
end
theorem own_form {w : World} {base : Nat} {e : TypeId} {size n : Nat} {v : Value} {xs : List Value} (h : w.ownsRow base e size v n xs) : ∃ A c, v = .slice A n c := by
  rcases h.2 with ⟨hv, h0⟩ | ⟨g, cap, _, hv, _⟩
  · exact ⟨none, 0, by rw [hv, h0]⟩
  · exact ⟨_, _, hv⟩
theorem own_lower {w : World} {base b : Nat} {e : TypeId} {size n : Nat} {v : Value} {xs : List Value} (h : w.ownsRow base e size v n xs) (hb : b ≤ base) : w.ownsRow b e size v n xs :=
  ⟨h.1, h.2.imp id fun ⟨g, cap, cur, hv, hg, rest⟩ => ⟨g, cap, cur, hv, Nat.le_trans hb hg, rest⟩⟩
/-- What a reader's answer says of the word. -/
theorem rd_yes {o : Option (Int × List UInt8 × Int × Nat)} {P : (Int × List UInt8 × Int × Nat) → Prop} {b : Bool} (h1 : ∀ r, o = some r → b = true ∧ P r) (h2 : o = none → b = false) : (b = true → ∃ r, o = some r ∧ P r) ∧ (b = false → o = none) := by
  cases o with
  | none => exact ⟨fun h => (by rw [h2 rfl] at h; cases h), fun _ => rfl⟩
  | some r => exact ⟨fun _ => ⟨r, rfl, (h1 r rfl).2⟩, fun h => (by rw [(h1 r rfl).1] at h; cases h)⟩
theorem rd_index (cb : Nat) (W : World) :
    (Instr.index 86 (.agg #[FnM 56 cb, FnM 57 cb, FnM 58 cb]) (.int .i64 0)).run Tryz.prog W = .ok (FnM 56 cb) W ∧
    (Instr.index 86 (.agg #[FnM 56 cb, FnM 57 cb, FnM 58 cb]) (.int .i64 1)).run Tryz.prog W = .ok (FnM 57 cb) W ∧
    (Instr.index 86 (.agg #[FnM 56 cb, FnM 57 cb, FnM 58 cb]) (.int .i64 2)).run Tryz.prog W = .ok (FnM 58 cb) W := ⟨by kernel_rfl, by kernel_rfl, by kernel_rfl⟩
/-- The readers that have answered no. -/
def Tri (l : List UInt8) (k : Nat) : Prop := (0 < k → signO l = none) ∧ (1 < k → tagO l = none) ∧ (2 < k → plainO l = none)

set_option maxHeartbeats 8000000 in
set_option maxRecDepth 100000 in
theorem lex_Words {w : World} (hv : Env w) (s : ByteArray) (hs : s.size ≤ 1000000000) : Calls Tryz.prog 25 #[.string s] w (WordsP s w) := by
  have HV := hid_ hv
  clear hv
  by_cases hlong : 65536 < (s.size : Int)
  · have HL := hid_ hlong
    go_enter Tryz.func25, Tryz.ntmps25
    go_wp2_with fail
    go_step3
    go_wp2_with fail
    try rw [Exit.noGoto_ret]
    go_ret3
    exact ⟨Below.refl _ _, .inl ⟨by have := HL.out; omega, rfl⟩⟩
  · obtain ⟨i0, hi0, hz0, hz1, hz2⟩ := info_parts Tryz.infoW
    have hs2 : s.size ≤ 65536 := by omega
    have HB0 := hid_ ((Below.refl w.heap.size w).alloc (Nat.le_refl _) (.cells #[.string s, .int .i64 0] 84))
    go_enter Tryz.func25, Tryz.ntmps25
    go_wp2_with fail
    go_step3
    go_wp2_with fail
    go_step3
    go_wp2_with fail
    have hst : Cur ((w.alloc (.cells #[.string s, .int .i64 0] 84)).alloc (.cells (rdCells w.heap.size) 86)) w.heap.size s ((0 : Nat) : Int) := (Blk.new w 84 #[.string s, .int .i64 0]).alloc _
    refine (lex_blanks hst hs (Nat.zero_le _)).mono ?_
    rintro e w3 ⟨rfl, hc3, hk3⟩
    have HW0 := hid_ (WR.start hc3 hk3)
    clear hc3 hk3 hst HB0
    generalize hcb : w.heap.size = cb at *
    have HCb := hid_ hcb
    clear hcb
    go_wp2_with fail
    go_loopg [2] (s.size + 1) (fun g s2 wr => ∃ (j i : Nat) (ws : List Lx.Wd), s.size + 1 - j ≤ g ∧ WR w s cb wr j i ws s2)
    case atStart => exact ⟨0, _, [], by omega, HW0.out⟩
    case round =>
      obtain ⟨j, i, ws, hg, hW⟩ := hrel
      obtain ⟨A, c, rfl⟩ := own_form hW.own
      have HW := hid_ hW
      have c1 : wr.cell? ⟨cb, 1, none⟩ = some (.int .i64 i) := hW.cur.cell 1
      have a0 : wr.cell? ⟨cb + 1, 0, none⟩ = some (FnM 56 cb) := hW.arr.cell 0
      have a1 : wr.cell? ⟨cb + 1, 1, none⟩ = some (FnM 57 cb) := hW.arr.cell 1
      have a2 : wr.cell? ⟨cb + 1, 2, none⟩ = some (FnM 58 cb) := hW.arr.cell 2
      have hile : i ≤ s.size := by rw [← hW.pl]; exact skipTo_le _ _
      have hji : j ≤ i := by rw [← hW.pl]; exact skipTo_ge _ hW.js
      have hfew := hW.few
      clear hW HW0
      by_cases hlt : i < s.size
      · have b0 : (0 : Int) ≤ (i : Int) := by omega
        have b1 : (i : Int) < (s.size : Int) := by omega
        go_wp2_with fail
        clear c1 a0 a1 a2
        have HWo := hid_ (HW.out)
        obtain ⟨wo, hwo⟩ : ∃ wo, wo = wr := ⟨_, rfl⟩
        subst hwo
        obtain ⟨g, rfl⟩ : ∃ g, g = gk := ⟨_, rfl⟩
        go_loopg [2, 37] 3 (fun g2 t2 s37 wy => t2 = .slice A ws.length c ∧ ∃ k : Nat, s37 = .int .i64 k ∧ k + g2 = 3 ∧ WR w s cb wy j i ws (.slice A ws.length c) ∧ Tri ((bl s).drop i) k)
        case atStart => exact ⟨rfl, 0, rfl, by omega, HW.out, fun h => by omega, fun h => by omega, fun h => by omega⟩
        case round =>
          obtain ⟨rfl, k, rfl, hkg, hW, hT⟩ := hrel
          have HY := hid_ hW
          have HT := hid_ hT
          have HVy := hid_ (HV.out.below hW.bel)
          have HCu := hid_ hW.cur
          have HOw := hid_ hW.own
          have hlc : cb + 2 ≤ wr.heap.size := hW.lt
          clear hW hT
          have hcs : k = 0 ∨ k = 1 ∨ k = 2 ∨ k = 3 := by omega
          obtain ⟨ix0, ix1, ix2⟩ := rd_index cb wr
          have HWd := hid_ (show Lx.word? ((bl s).drop i) = (signO ((bl s).drop i)).or ((tagO ((bl s).drop i)).or (plainO ((bl s).drop i))) from by rw [bl_drop s hlt]; exact word_is _ _)
          rcases hcs with rfl | rfl | rfl | rfl
          case' inl =>
            clear ix1 ix2
            go_wp2_with fail
            refine (lex_sign HVy.out HCu.out hile).mono ?_
            rintro e w3 ⟨kd, tx, nm, lo, b, rfl, hr1, hr2, hb3⟩
            obtain ⟨hr3, hr4⟩ := rd_yes hr1 hr2
            have HYes := hid_ (show b = true → ∃ r, Lx.word? ((bl s).drop i) = some r ∧ kd = r.1 ∧ tx = st r.2.1 ∧ nm = r.2.2.1 ∧ lo = (r.2.2.2 : Nat) from fun h => by
              obtain ⟨r, h1, h2⟩ := hr3 h
              exact ⟨r, by rw [HWd.out, h1]; rfl, h2⟩)
            have HNo := hid_ (show b = false → Tri ((bl s).drop i) 1 from fun h => ⟨fun _ => hr4 h, fun h => by omega, fun h => by omega⟩)
            have HB3 := hid_ hb3
            clear hr1 hr2 hr3 hr4 hb3 ix0
          case' inr.inl =>
            clear ix0 ix2
            go_wp2_with fail
            refine (lex_tag HCu.out hs hlt).mono ?_
            rintro e w3 ⟨kd, tx, nm, lo, b, rfl, hr1, hr2, hb3⟩
            obtain ⟨hr3, hr4⟩ := rd_yes hr1 hr2
            have HYes := hid_ (show b = true → ∃ r, Lx.word? ((bl s).drop i) = some r ∧ kd = r.1 ∧ tx = st r.2.1 ∧ nm = r.2.2.1 ∧ lo = (r.2.2.2 : Nat) from fun h => by
              obtain ⟨r, h1, h2⟩ := hr3 h
              exact ⟨r, by rw [HWd.out, HT.out.1 (by omega), h1]; rfl, h2⟩)
            have HNo := hid_ (show b = false → Tri ((bl s).drop i) 2 from fun h => ⟨fun _ => HT.out.1 (by omega), fun _ => hr4 h, fun h => by omega⟩)
            have HB3 := hid_ hb3
            clear hr1 hr2 hr3 hr4 hb3 ix1
          case' inr.inr.inl =>
            clear ix0 ix1
            go_wp2_with fail
            refine (lex_plain HVy.out HCu.out hs hile).mono ?_
            rintro e w3 ⟨kd, tx, nm, lo, b, rfl, hr1, hr2, hb3⟩
            obtain ⟨hr3, hr4⟩ := rd_yes hr1 hr2
            have HYes := hid_ (show b = true → ∃ r, Lx.word? ((bl s).drop i) = some r ∧ kd = r.1 ∧ tx = st r.2.1 ∧ nm = r.2.2.1 ∧ lo = (r.2.2.2 : Nat) from fun h => by
              obtain ⟨r, h1, h2⟩ := hr3 h
              exact ⟨r, by rw [HWd.out, HT.out.1 (by omega), HT.out.2.1 (by omega), h1]; rfl, h2⟩)
            have HNo := hid_ (show b = false → Tri ((bl s).drop i) 3 from fun h => ⟨fun _ => HT.out.1 (by omega), fun _ => HT.out.2.1 (by omega), fun _ => hr4 h⟩)
            have HB3 := hid_ hb3
            clear hr1 hr2 hr3 hr4 hb3 ix2
          case inr.inr.inr =>
            clear ix0 ix1 ix2
            have hne : Lx.word? ((bl s).drop i) = none := by rw [HWd.out, HT.out.1 (by omega), HT.out.2.1 (by omega), HT.out.2.2 (by omega)]; rfl
            have HErr := hid_ (cut_err HY.out.cut HY.out.pl hlt hne)
            have c1 : wr.cell? ⟨cb, 1, none⟩ = some (.int .i64 i) := HCu.out.cell 1
            clear hne
            go_wp2_with fail
            go_quiet (fail)
            go_wp2_with fail
            try rw [Exit.noGoto_ret]
            go_ret3
            exact ⟨bdrewN HY.out.bel _, .inr (.inl ⟨hs2, i, HErr.out, rfl⟩)⟩
          all_goals
            cases b with
            | false =>
              go_wp2_with fail
              go_roundg (gk - 1)
              case rel => exact ⟨rfl, _, by go_num, by omega, HY.out.below (HB3.out.alloc HB3.out.size _), HNo.out (by trivial)⟩
              case measure => omega
            | true =>
              obtain ⟨r, hwd, rfl, rfl, rfl, rfl⟩ := HYes.out rfl
              have HWord := hid_ hwd
              clear hwd
              have c1 : w3.cell? ⟨cb, 1, none⟩ = some (.int .i64 i) := below_cell HB3.out (HCu.out.cell 1)
              have hl3 : cb < w3.heap.size := by have := HB3.out.size; omega
              obtain ⟨W, hW⟩ : ∃ W, W = (w3.alloc (.cells #[.int .i64 r.1, .string (st r.2.1), .int .i64 r.2.2.1, .int .i64 (i : Int)] 88)).alloc (.cells #[.int .i64 r.1, .string (st r.2.1), .int .i64 r.2.2.1, .int .i64 (i : Int)] 88) := ⟨_, rfl⟩
              have hW2 : Below wr.heap.size wr W := by rw [hW]; exact (HB3.out.alloc HB3.out.size _).alloc (by have := HB3.out.size; simp; omega) _
              have HWW := hid_ (HY.out.below hW2)
              have HNw := hid_ (show ∀ ad, some (⟨w3.heap.size + 1, 0, none⟩ : Addr) = some ad → ∀ (j : Nat) u, [Value.int .i64 r.1, .string (st r.2.1), .int .i64 r.2.2.1, .int .i64 (i : Int)][j]? = some u → W.cell? (ad.add j) = some u from fun ad had => by
                injection had with had
                subst had
                rw [hW]
                have := World.news_of_block (heap_alloc_new (w3.alloc (.cells #[.int .i64 r.1, .string (st r.2.1), .int .i64 r.2.2.1, .int .i64 (i : Int)] 88)) (.cells #[.int .i64 r.1, .string (st r.2.1), .int .i64 r.2.2.1, .int .i64 (i : Int)] 88))
                simpa using this)
              rw [hW] at HNw HWW hW2
              have HW2 := hid_ hW2
              have hfl : (ws.length + 1) * 40 ≤ 140737488355328 := by omega
              have HM := hid_ (show ws.length + 1 ≤ maxLen by unfold maxLen; omega)
              obtain ⟨c1', c2', _⟩ := cut_word HY.out.cut HY.out.js HY.out.pl hlt HWord.out
              have HLe := hid_ c2'
              have hle2 : (i : Int) + (r.2.2.2 : Int) ≤ s.size := by omega
              have hge2 : (0 : Int) ≤ (i : Int) + (r.2.2.2 : Int) := by omega
              clear hW hW2 c1' c2'
              go_wp2_with (first | (at_builtin; (refine wpList_append_any rfl (.tmp 52) (.tmp 54) 47 rfl (cb + 2) 88 i0 _ 4 40 Tryz.underlying47 hi0 hz0 hz1 hz2 rfl (by omega) (.slice A ws.length c) ws.length _ rfl HWW.out.own (some ⟨w3.heap.size + 1, 0, none⟩) 1 1 [.int .i64 r.1, .string (st r.2.1), .int .i64 r.2.2.1, .int .i64 (i : Int)] rfl rfl (fun h => by cases h) HNw.out (by simp [Value.oneCell']) HM.out (by omega) HWW.out.lt ?_); intro A1 c1 w1 hown hgrow hat; clear hat; have k4 := (HWW.out.cur_on hgrow).cell 1; have k5 := (HWW.out.cur_on hgrow).frozen 1) | fail)
              have hn : (i : Int) + (r.2.2.2 : Int) = ((i + r.2.2.2 : Nat) : Int) := by omega
              rw [hn]
              refine (lex_blanks (HWW.out.cur_at hgrow _) hs HLe.out).mono ?_
              rintro e w7 ⟨rfl, hc7, hk7⟩
              have HNx := hid_ (HWW.out.next hlt HWord.out hgrow hown hc7 hk7)
              clear hc7 hk7 hgrow hown k4 k5
              go_wp2_with fail
              go_roundg (g - 1)
              case rel => exact ⟨_, _, _, by have := HLe.out; omega, HNx.out⟩
              case measure => omega
      · have b1 : ¬ (i : Int) < (s.size : Int) := by omega
        have hie : i = s.size := by omega
        have hl : cb < wr.heap.size := HW.out.lt_cb
        obtain ⟨W, hW⟩ : ∃ W, W = (wr.alloc (.cells (cellW (endW s)).toArray 88)) := ⟨_, rfl⟩
        have hW2 : Below wr.heap.size wr W := by rw [hW]; exact (Below.refl _ _).alloc (Nat.le_refl _) _
        have HWW := hid_ (HW.out.below hW2)
        have HNw := hid_ (show ∀ ad, some (⟨wr.heap.size, 0, none⟩ : Addr) = some ad → ∀ (j : Nat) u, (cellW (endW s))[j]? = some u → W.cell? (ad.add j) = some u from fun ad had => by
          injection had with had
          subst had
          rw [hW]
          exact World.news_of_block (heap_alloc_new _ _))
        have HM := hid_ (show ws.length + 1 ≤ maxLen by unfold maxLen; omega)
        have hfl : (ws.length + 1) * 40 ≤ 140737488355328 := by omega
        have HEnd := hid_ (cut_end HW.out.cut (HW.out.pl.trans hie))
        rw [hW] at HNw HWW
        clear hW hW2 a0 a1 a2
        go_wp2_with (first | (at_builtin; (refine wpList_append_any rfl (.tmp 69) (.tmp 73) 47 rfl (cb + 2) 88 i0 _ 4 40 Tryz.underlying47 hi0 hz0 hz1 hz2 rfl (by omega) (.slice A ws.length c) ws.length _ rfl HWW.out.own (some ⟨wr.heap.size, 0, none⟩) 1 1 (cellW (endW s)) rfl rfl (fun h => by cases h) HNw.out (by simp [cellW, Value.oneCell']) HM.out (by omega) HWW.out.lt ?_); intro A1 c1' w1 hown hgrow hat; clear hat) | fail)
        try rw [Exit.noGoto_ret]
        go_ret3
        refine ⟨?_, .inr (.inr ⟨hs2, ws, A1, c1', HEnd.out, rfl, ?_⟩)⟩
        · exact HWW.out.bel.trans (((Kp.refl (fun q => cb + 2 ≤ q) _).grown hgrow (fun k hk => .inl (own_base HWW.out.own hk))).toBelow HWW.out.bel.size (fun q hq e => by have := HWW.out.cbs; omega))
        · unfold WsOwn
          rw [List.length_append, flatW_append]
          have e : flatW [endW s] = cellW (endW s) := by simp [flatW]
          rw [e]
          exact own_lower hown (by have := HWW.out.cbs; omega)
end Go.Proofs.YtmgjmagniefhoaaGreatDoor

/- Words, wherever they lie. Conditions: those that each theorem names. -/
namespace Go.Proofs.YtmgjmagniefhoaaGreatDoor
open Go.RowKit Go.Maps

/-- A slice of words, wherever it lies. -/
def WsAt (w : World) (v : Value) (ws : List Lx.Wd) : Prop := ∃ A c, v = .slice A ws.length c ∧ (A = none → ws = []) ∧ ∀ b off n, A = some ⟨b, off, n⟩ → n = none ∧ ∀ j (h : j < ws.length) k, k < 4 → w.cell? ⟨b, off + j * 4 + k, none⟩ = (cellW ws[j])[k]?

theorem wd_ext : ∀ {a b : Lx.Wd}, a.kind = b.kind → a.text = b.text → a.num = b.num → a.pos = b.pos → a = b
  | ⟨_, _, _, _⟩, ⟨_, _, _, _⟩, rfl, rfl, rfl, rfl => rfl
theorem txt_eq {a b : List UInt8} (h : (st a).toList = (st b).toList) : a = b := by
  rw [ByteArray.toList_eq, ByteArray.toList_eq] at h
  have e := bl_st a
  rw [← e, ← bl_st b]
  exact h

theorem WsAt.nil (w : World) : WsAt w (.slice none 0 0) [] := ⟨none, 0, rfl, fun _ => rfl, fun b off n h => by cases h⟩
theorem WsAt.below {w w' : World} {v : Value} {ws : List Lx.Wd} (h : WsAt w v ws) (hb : Below w.heap.size w w') : WsAt w' v ws := by
  obtain ⟨A, c, rfl, hn, hA⟩ := h
  refine ⟨A, c, rfl, hn, fun b off n e => ?_⟩
  obtain ⟨rfl, h2⟩ := hA b off n e
  refine ⟨rfl, fun j hj k hk => ?_⟩
  have h3 := h2 j hj k hk
  have h4 : (cellW ws[j])[k]? = some ((cellW ws[j])[k]'(by show k < 4; exact hk)) := List.getElem?_eq_getElem _
  rw [h4] at h3 ⊢
  exact below_cell hb h3
end Go.Proofs.YtmgjmagniefhoaaGreatDoor
