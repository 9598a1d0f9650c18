/- The reference heap: its functions Copy and Ids. Conditions: those that each theorem names. -/
import Derived.Test.YtkoacfkglfgalaaRb
import Derived.Deep.RegionHeld3
import Derived.BigQuiet
import Derived.Deep.DeepCutAuto
import Derived.Deep.CutBlock
namespace Go.Proofs.Ytkoacfkglfgalaa
open Go.RowKit Go.Maps

theorem wpList_append_any {P : Program} {w : World} {ops : Array Oper} {rest : List Oper} {o : Oper} {a : Act} {Q : Exit → Act → World → Prop} (hgd : o.guard = none) (s x : Operand) (t : TypeId)
    (ho : o.op = .call { callee := .builtin .append, args := #[s, x], argTypes := #[t, t] })
    (base : Nat) (e : TypeId) (i : TypeInfo) (z : Value) (size bytes : Nat) (ht : P.underlying t = some (.slice e)) (hi : P.info? e = some i) (hz : i.zero = some z)
    (hsize : i.size = size) (hby : i.bytes = bytes) (hzs : z.cells.size = size) (hsz : 0 < size)
    (v : Value) (n : Nat) (xs : List Value) (hs : a.eval s = v) (hown : w.ownsRow base e size v n xs)
    (ao : Option Addr) (m c : Nat) (news : List Value) (hx : a.eval x = .slice ao m c) (hl : news.length = m * size) (hno : ao = none → m = 0 ∧ c = 0) (hnews : ∀ ad, ao = some ad → ∀ j u, news[j]? = some u → w.cell? (ad.add j) = some u) (h1 : ∀ u ∈ news, u.oneCell' = true)
    (h63 : n + m ≤ maxLen) (hbytes : (n + m) * bytes ≤ 140737488355328) (hbase : base ≤ w.heap.size)
    (h : ∀ A' c' w', w'.ownsRow base e size (.slice A' (n + m) c') (n + m) (xs ++ news) → w.grownBy w' v.ownBlock → wpList P ops Q rest (a.put o.dst (.slice A' (n + m) c')) w') : wpList P ops Q (o :: rest) a w := by
  refine wpList_plain hgd fun K hK => ?_
  obtain ⟨A', c', w', hr, h2, h3⟩ := run_append_any (P := P) base t o.type e i z size bytes ht hi hz hsize hby hzs hsz v n xs hown ao m c news hl hno hnews h1 h63 hbytes hbase
  unfold Oper.wp execOp
  simp only [ho, resolve, invoke, builtin, Sem.run_bind, Sem.run_pure, Result.andThen_ok, List.map_toArray, List.map_cons, List.map_nil, hs, hx, hr]
  exact hK _ _ (h A' c' w' h2 h3)

theorem Try.info3 : (Try.prog.info? 3).map (fun i => (i.zero, i.size, i.bytes)) = some (some (.int .i64 0), 1, 8) := by kernel_rfl

section
variable {G : Nat → Prop} {w w' : World} {mb : Nat} {S : List Item}
theorem own_parts {w : World} {base : Nat} {e : TypeId} {size n c : Nat} {A : Option Addr} {xs : List Value} (h : w.ownsRow base e size (.slice A n c) n xs) :
    (A = none → n = 0 ∧ c = 0) ∧ n ≤ c ∧ c ≤ 9223372036854775807 ∧ (∀ ad, A = some ad → ∃ g : Nat, ad = ⟨g, 0, none⟩) ∧ (∀ g : Nat, A = some ⟨g, 0, none⟩ → g < w.heap.size) := by
  rcases h.2 with ⟨hv, h0⟩ | ⟨g, cap, cur, hv, hg0, hgh, hnc, hcm, _⟩
  · injection hv with hv1 hv2 hv3
    subst hv1 hv2 hv3
    exact ⟨fun _ => ⟨rfl, rfl⟩, Nat.le_refl _, by omega, fun ad h => (by cases h), fun g h => (by cases h)⟩
  · injection hv with hv1 hv2 hv3
    subst hv1 hv3
    refine ⟨fun h => (by cases h), by omega, by unfold maxLen at hcm; omega, fun ad h => (by injection h with h; exact ⟨g, h.symm⟩), fun g' h => ?_⟩
    injection h with h
    injection h with h
    subst h
    rcases Nat.lt_or_ge g w.heap.size with hlt | hge
    · exact hlt
    · rw [Array.getElem?_eq_none hge] at hgh; cases hgh

set_option maxHeartbeats 1000000 in
theorem rcopy_c (h : Rf G w mb S) (hS : S.length ≤ 1000) :
    Calls Try.prog 25 #[.pointer (some ⟨mb, 0, none⟩)] w fun e w' => ∃ mb', e = .returned (.pointer (some ⟨mb', 0, none⟩)) ∧ Rf (fun q => w.heap.size ≤ q) w' mb' S ∧ Below w.heap.size w w' := by
  obtain ⟨i0, hi0, hz0, hz1, hz2⟩ := info_parts Try.info83
  obtain ⟨A, c, hB, hown, hq⟩ := h.body
  obtain ⟨p1, p2, p3, p4, p5⟩ := own_parts hown
  have c0 := hB.cell 0
  have HL := hid_ (flat_length S)
  have HOwn := hid_ hown
  have HM := hid_ (show 0 + S.length ≤ maxLen by unfold maxLen; omega)
  have HP1 := hid_ p1
  have HN := hid_ (show ∀ ad, A = some ad → ∀ j u, (flat S)[j]? = some u → w.cell? (ad.add j) = some u by
    intro ad had j u hu
    obtain ⟨g, rfl⟩ := p4 ad had
    subst had
    rw [add_at]
    exact own_cell hown j u hu)
  clear hB hown hq h p1 p4 p5
  go_enter Try.func25, Try.ntmps25
  go_wp2_with (first | (at_builtin; refine wpList_append_any rfl (.tmp 4) (.tmp 8) 78 rfl w.heap.size 83 i0 _ 2 16 Try.underlying78 hi0 hz0 hz1 hz2 rfl (by omega) (.slice none 0 0) 0 [] rfl (World.ownsRow_nil _ _ _ _) A S.length c (flat S) rfl HL.out HP1.out HN.out (flat_one _) HM.out (by omega) (Nat.le_refl _) ?_; intro A1 c1 w1 hown1 hgrow1; simp only [Nat.zero_add, List.nil_append] at hown1))
  have hb1 : Below w.heap.size w w1 := (Below.refl _ _).grown hgrow1 (Nat.le_refl _) (fun k hk => (by simp [Value.ownBlock] at hk))
  go_ret
  refine ⟨_, rfl, ⟨hb1.size, A1, c1, ?_, ?_, fun q hq => ?_⟩, hb1.alloc hb1.size _⟩
  · have := Blk.new w1 80 #[.slice A1 S.length c1]
    simpa using this
  · exact ownsRow_base (World.ownsRow.alloc hown1 _) (Nat.zero_le _)
  · have h1 : (Value.slice A1 S.length c1).ownBlock = some q := by simpa using hq
    exact ⟨own_base hown1 h1, by have := own_lt hown1 h1; omega⟩

theorem sorted_in {xs : List Int} {k : Nat} {v : Int} (hs : xs.Pairwise (fun x y => leI x y = true)) (hk : k ≤ xs.length) (h1 : ∀ j, k ≤ j → j < xs.length → v < xs.getD j 0) (h2 : k = 0 ∨ xs.getD (k - 1) 0 ≤ v) :
    (xs.take k ++ v :: xs.drop k).Pairwise (fun x y => leI x y = true) := by
  have hle : ∀ {x y : Int}, leI x y = true ↔ x ≤ y := by intro x y; simp [leI]
  have hall := List.pairwise_iff_getElem.1 hs
  refine List.pairwise_append.2 ⟨hs.sublist (List.take_sublist _ _), List.pairwise_cons.2 ⟨fun y hy => ?_, hs.sublist (List.drop_sublist _ _)⟩, fun x hx y hy => ?_⟩
  · obtain ⟨j, hj, rfl⟩ := List.mem_iff_getElem.1 hy
    rw [List.length_drop] at hj
    have := h1 (k + j) (by omega) (by omega)
    rw [hle, List.getElem_drop]
    simp only [List.getD_eq_getElem?_getD, List.getElem?_eq_getElem (show k + j < xs.length by omega), Option.getD_some] at this
    omega
  · obtain ⟨i, hi, rfl⟩ := List.mem_iff_getElem.1 hx
    rw [List.length_take] at hi
    have hv : xs[i]'(by omega) ≤ v := by
      rcases h2 with h2 | h2
      · omega
      · have h3 : xs[k - 1]'(by omega) ≤ v := by
          simpa only [List.getD_eq_getElem?_getD, List.getElem?_eq_getElem (show k - 1 < xs.length by omega), Option.getD_some] using h2
        by_cases e : i = k - 1
        · subst e; exact h3
        · have := hle.1 (hall i (k - 1) (by omega) (by omega) (by omega)); omega
    rw [hle, List.getElem_take]
    rcases List.mem_cons.1 hy with rfl | hy
    · exact hv
    · obtain ⟨j, hj, rfl⟩ := List.mem_iff_getElem.1 hy
      rw [List.length_drop] at hj
      rw [List.getElem_drop]
      have := hle.1 (hall i (k + j) (by omega) (by omega) (by omega))
      exact this
theorem perm_in {xs ys : List Int} {k : Nat} {v : Int} (h : ys.Perm xs) : (ys ++ [v]).Perm (xs.take k ++ v :: xs.drop k) := by
  refine (List.perm_append_comm.trans ((List.Perm.cons v h))).trans ?_
  have : (v :: (xs.take k ++ xs.drop k)).Perm (xs.take k ++ v :: xs.drop k) := List.perm_middle.symm
  rwa [List.take_append_drop] at this

theorem ints_one {xs : List Int} : ∀ u ∈ xs.map (Value.int .i64), u.oneCell' = true := by
  intro u hu
  obtain ⟨x, _, rfl⟩ := List.mem_map.1 hu
  rfl

theorem alloc_le' (w : World) (o : Obj) : w.heap.size ≤ (w.alloc o).heap.size := by simp
theorem srcI_none {A : Option Addr} {f : Addr → Addr} {c i n : Nat} (hA : A = none → n = 0 ∧ c = 0) : (if c = i then A else A.map f) = none → n - i = 0 ∧ c - i = 0 := by
  intro h
  split at h
  · have := hA h; omega
  · have := hA (by simpa using h); omega
theorem srcI_take {w W' : World} {b : Nat} {A : Option Addr} {n c i : Nat} {xs : List Int} (hown : w.ownsRow b 3 1 (.slice A n c) n (xs.map (.int .i64))) (hA : ∀ ad, A = some ad → ∃ g : Nat, ad = ⟨g, 0, none⟩) (hb : Below w.heap.size w W') :
    ∀ ad, A = some ad → ∀ j u, ((xs.take i).map (Value.int .i64))[j]? = some u → W'.cell? (ad.add j) = some u := by
  intro ad had j u hu
  obtain ⟨g, rfl⟩ := hA ad had
  subst had
  rw [add_at]
  refine below_cell hb (own_cell hown j u ?_)
  rw [List.map_take, List.getElem?_take] at hu
  split at hu
  · exact hu
  · cases hu
theorem srcI_drop {w W' : World} {b : Nat} {A : Option Addr} {n c k : Nat} {xs : List Int} (hown : w.ownsRow b 3 1 (.slice A n c) n (xs.map (.int .i64))) (hA : ∀ ad, A = some ad → ∃ g : Nat, ad = ⟨g, 0, none⟩) (hb : Below w.heap.size w W') (hl : xs.length = n) (hc : n ≤ c) :
    ∀ ad, (if c = k then A else A.map (fun x => x.add k)) = some ad → ∀ j u, ((xs.drop k).map (Value.int .i64))[j]? = some u → W'.cell? (ad.add j) = some u := by
  intro ad had j u hu
  split at had
  · have : xs.drop k = [] := List.drop_eq_nil_of_le (by omega)
    rw [this] at hu
    simp at hu
  · cases A with
    | none => simp at had
    | some a =>
      obtain ⟨g, rfl⟩ := hA a rfl
      have had1 : (⟨g, 0, none⟩ : Addr).add k = ad := by simpa only [Option.map_some, Option.some.injEq] using had
      rw [add_at] at had1
      subst had1
      rw [show (⟨g, k, none⟩ : Addr).add j = ⟨g, k + j, none⟩ by simp [Addr.add]]
      refine below_cell hb (own_cell hown _ u ?_)
      rw [List.map_drop, List.getElem?_drop] at hu
      exact hu

set_option maxHeartbeats 8000000 in
set_option maxRecDepth 100000 in
theorem rids_c (h : Rf G w mb S) (hS : S.length ≤ 1000) :
    Calls Try.prog 47 #[.pointer (some ⟨mb, 0, none⟩)] w fun e w' => ∃ A c, e = .returned (.slice A S.length c) ∧ w'.ownsRow w.heap.size 3 1 (.slice A S.length c) S.length ((idsS S).map (.int .i64)) ∧ Below w.heap.size w w' := by
  obtain ⟨i0, hi0, hz0, hz1, hz2⟩ := info_parts Try.info3
  have HH := hid_ h
  clear h
  generalize hn : S.length = n at *
  have HN := hid_ hn
  clear hn
  go_enter Try.func47, Try.ntmps47
  go_wp2
  go_loopw [3, 4] (fun v3 v4 wr => ∃ (i c : Nat) (A : Option Addr) (xs : List Int), v3 = .slice A i c ∧ v4 = .int .i64 i ∧ i ≤ n ∧ Below w.heap.size w wr ∧ wr.ownsRow w.heap.size 3 1 (.slice A i c) i (xs.map (.int .i64)) ∧ ((S.take i).map (·.1)).Perm xs ∧ xs.Pairwise (fun x y => leI x y = true)) (fun _ v _ => n - (intOf v).toNat)
  case atStart => exact ⟨0, 0, none, [], rfl, rfl, by omega, Below.refl _ _, World.ownsRow_nil _ _ _ _, by simp, by simp⟩
  case round =>
    obtain ⟨i, c, A, xs, rfl, rfl, hi, hb, hown, hperm, hsort⟩ := hrel
    generalize wr = w1 at *
    have HB := hid_ hb
    have HOwn := hid_ hown
    have HP := hid_ hperm
    have HSo := hid_ hsort
    have hxl : xs.length = i := by have := hown.1; simpa using this
    have HXl := hid_ hxl
    obtain ⟨p1, p2, p3, p4, p5⟩ := own_parts hown
    have HP1 := hid_ p1
    have HP4 := hid_ p4
    clear hb hown hperm hsort hxl p1 p4 p5
    by_cases hlt : i < n
    · obtain ⟨g, c', hc, hcx⟩ := (HH.out.below HB.out).cells (by rw [HN.out]; omega)
      obtain ⟨y0, y1⟩ := hcx i (by rw [HN.out]; exact hlt)
      rw [HN.out] at hc
      have e1 : S.take (i + 1) = S.take i ++ [S.getD i (0, 0)] := by
        rw [List.take_succ_eq_append_getElem (by rw [HN.out]; exact hlt)]
        simp [List.getD, show i < S.length by rw [HN.out]; exact hlt]
      have HE1 := hid_ e1
      have b0 : (0 : Int) ≤ (i : Int) := by omega
      have b1 : (i : Int) < (n : Int) := by omega
      clear hcx y1 e1
      generalize S.getD i (0, 0) = p at *
      obtain ⟨v, pb⟩ := p
      go_upto_block 2 with fail
      go_cut [5] (fun s5 wx => ∃ k : Nat, s5 = .int .i64 k ∧ k ≤ i ∧ Below w1.heap.size w1 wx ∧ (∀ j, k ≤ j → j < i → v < xs.getD j 0) ∧ (k = 0 ∨ xs.getD (k - 1) 0 ≤ v))
      case first =>
        go_wp2_with fail
        go_loopw [5] (fun s5 wx => ∃ k : Nat, s5 = .int .i64 k ∧ k ≤ i ∧ Below w1.heap.size w1 wx ∧ (∀ j, k ≤ j → j < i → v < xs.getD j 0)) (fun v _ => (intOf v).toNat)
        case atStart => exact ⟨i, rfl, by omega, Below.refl _ _, fun j h1 h2 => by omega⟩
        case round =>
          obtain ⟨k, rfl, hk, hbk, hall⟩ := hrel
          have HBk := hid_ hbk
          have HAll := hid_ hall
          have c1 := below_cell hbk hc
          have c2 := below_cell hbk y0
          clear hbk hall
          by_cases hk0 : k = 0
          · subst hk0
            go_wp2
            go_quiet (fail)
            go_wp2
            go_meet
            exact ⟨0, rfl, by omega, bdrewN HBk.out _, HAll.out, .inl rfl⟩
          · obtain ⟨k', rfl⟩ : ∃ k', k = k' + 1 := ⟨k - 1, by omega⟩
            obtain ⟨ga, ca, hv, _, _⟩ := HOwn.out.form (by omega)
            injection hv with hv1 hv2 hv3
            subst hv1
            have c3 : w1.cell? ⟨ga, k', none⟩ = some (.int .i64 (xs.getD k' 0)) := by
              refine own_cell (HOwn.out) k' _ ?_
              have := HXl.out
              simp [List.getD_eq_getElem?_getD, show k' < xs.length by omega]
            have c4 := below_cell HBk.out c3
            clear hv2 hv3 c3
            generalize hx : xs.getD k' 0 = x at *
            have HX := hid_ hx
            clear hx
            have d0 : (0 : Int) < ((k' + 1 : Nat) : Int) := by omega
            have d1 : IntKind.i64.wrap ((k' : Int) + 1 - 1) = (k' : Int) := by rw [show (k' : Int) + 1 - 1 = k' by omega]; exact IntWalk.i64_in _ (by omega)
            have d2 : IntKind.i64.wrap (k' : Int) = (k' : Int) := IntWalk.i64_in _ (by omega)
            have d3 : (k' : Int) < (i : Int) := by omega
            have d4 : (0 : Int) ≤ (k' : Int) := by omega
            by_cases hxv : v < x
            · go_wp2
              go_quiet (fail)
              go_wp2
              go_roundw
              case rel => exact ⟨k', by go_num, by omega, bdrewN HBk.out _, fun j h1 h2 => by
                by_cases e : j = k'
                · subst e; rw [HX.out]; exact hxv
                · exact HAll.out j (by omega) h2⟩
              case measure => simp [intOf]
            · go_wp2
              go_quiet (fail)
              go_wp2
              go_meet
              exact ⟨k' + 1, by go_num, by omega, bdrewN HBk.out _, HAll.out, .inr (by rw [show k' + 1 - 1 = k' by omega, HX.out]; omega)⟩
      case rest =>
        obtain ⟨k, rfl, hk, hbk, hall, hstop⟩ := hcut
        have HBk := hid_ hbk
        have hd1 := below_cell hbk hc
        have hd2 := below_cell hbk y0
        have hown := own_kp HOwn.out (Kp.of_below hbk fun _ => False) (fun _ _ h => h)
        have HOw := hid_ hown
        have HNew := hid_ (And.intro (sorted_in HSo.out (by rw [HXl.out]; exact hk) (by rw [HXl.out]; exact hall) hstop) (show ((S.take (i + 1)).map (·.1)).Perm (xs.take k ++ v :: xs.drop k) by rw [HE1.out, List.map_append]; exact perm_in HP.out))
        have hl1 : ((xs.take k).map (Value.int .i64)).length = k * 1 := by rw [List.length_map, List.length_take, HXl.out]; omega
        have hl2 : ((xs.drop k).map (Value.int .i64)).length = (i - k) * 1 := by rw [List.length_map, List.length_drop, HXl.out]; omega
        have HL1 := hid_ hl1
        have HL2 := hid_ hl2
        have HM1 := hid_ (show 0 + k ≤ maxLen by unfold maxLen; omega)
        have HM2 := hid_ (show 0 + k + 1 ≤ maxLen by unfold maxLen; omega)
        have HM3 := hid_ (show 0 + k + 1 + (i - k) ≤ maxLen by unfold maxLen; omega)
        have hk0 : (0 : Int) ≤ (k : Int) := by omega
        have hki : (k : Int) ≤ (i : Int) := by omega
        have hkc : (k : Int) ≤ (c : Int) := by omega
        have hic : (i : Int) ≤ (c : Int) := by omega
        clear hbk hall hstop hc y0 hown hl1 hl2
        go_wp2
        go_region_held3 (fun W => W.cell? ⟨mb, 0, none⟩ = some (.slice (some ⟨g, 0, none⟩) n c') ∧ W.cell? ⟨g, i * 2, none⟩ = some (.int .i64 v))
          (first | (go_keep; done) | exact ⟨below_cell HB3.out hd1, below_cell HB3.out hd2⟩ | exact ⟨below_cell HB2.out hd1, below_cell HB2.out hd2⟩ | exact ⟨below_cell HB1.out hd1, below_cell HB1.out hd2⟩ | exact ⟨below_cell (HB1.out.alloc HB1.out.size _) hd1, below_cell (HB1.out.alloc HB1.out.size _) hd2⟩)
          (first
            | (refine step_append_any (by rfl) (.tmp 38) (.tmp 41) 37 (by rfl) wc.heap.size 3 i0 _ 1 8 Try.underlying37 hi0 hz0 hz1 hz2 rfl (by omega) (.slice none 0 0) 0 [] (by rfl) (World.ownsRow_nil _ _ _ _) A k c ((xs.take k).map (Value.int .i64)) (by rfl) HL1.out (fun h => (by have := HP1.out h; omega)) (by first | exact srcI_take HOw.out HP4.out (Below.refl _ _).drew | exact srcI_take HOw.out HP4.out ((Below.refl _ _).drew.alloc (Nat.le_refl _) _)) ints_one HM1.out (by omega) (by first | exact Nat.le_refl _ | exact alloc_le' _ _) ?_; intro A1 c1 w1 hown1 hgrow1; have hown1' := hown1; rw [Nat.zero_add] at hown1'; have HB1 := hid_ (by first | exact ((Below.refl wc.heap.size wc).drew).grown hgrow1 (Nat.le_refl _) (fun k hk => (by simp [Value.ownBlock] at hk)) | exact (((Below.refl wc.heap.size wc).drew).alloc (Nat.le_refl _) _).grown hgrow1 (alloc_le' _ _) (fun k hk => (by simp [Value.ownBlock] at hk)) : Below wc.heap.size wc w1))
            | (refine step_append_any (by rfl) (.tmp 42) (.tmp 51) 37 (by rfl) wc.heap.size 3 i0 _ 1 8 Try.underlying37 hi0 hz0 hz1 hz2 rfl (by omega) (.slice A1 k c1) k _ (by rfl) (by first | exact hown1' | exact hown1'.alloc _) _ 1 1 [.int .i64 v] (by rfl) (by rfl) some_none (by intro ad had; injection had with had; subst had; first | exact World.news_of_block (heap_alloc_new _ _) | exact World.news_of_block ((hgrow1.block _ (by simp) (by simp [Value.ownBlock])).trans (heap_alloc_new _ _))) (by simp [Value.oneCell']) (by have := HM2.out; omega) (by omega) (by first | exact HB1.out.size | exact Nat.le_trans HB1.out.size (alloc_le' _ _)) ?_; intro A2 c2 w2 hown2 hgrow2; have HB2 := hid_ (by first | exact HB1.out.grown hgrow2 HB1.out.size (fun k hk => own_base hown1 hk) | exact HB1.out.grown hgrow2 HB1.out.size (fun k hk => own_base hown1' hk) | exact (HB1.out.alloc HB1.out.size _).grown hgrow2 (Nat.le_trans HB1.out.size (alloc_le' _ _)) (fun k hk => own_base hown1 hk) | exact (HB1.out.alloc HB1.out.size _).grown hgrow2 (Nat.le_trans HB1.out.size (alloc_le' _ _)) (fun k hk => own_base hown1' hk) : Below wc.heap.size wc w2))
            | (refine step_append_any (by rfl) (.tmp 42) (.tmp 51) 37 (by rfl) wc.heap.size 3 i0 _ 1 8 Try.underlying37 hi0 hz0 hz1 hz2 rfl (by omega) (.slice A1 (0 + k) c1) (0 + k) _ (by rfl) (by first | exact hown1 | exact hown1.alloc _) _ 1 1 [.int .i64 v] (by rfl) (by rfl) some_none (by intro ad had; injection had with had; subst had; first | exact World.news_of_block (heap_alloc_new _ _) | exact World.news_of_block ((hgrow1.block _ (by simp) (by simp [Value.ownBlock])).trans (heap_alloc_new _ _))) (by simp [Value.oneCell']) HM2.out (by omega) (by first | exact HB1.out.size | exact Nat.le_trans HB1.out.size (alloc_le' _ _)) ?_; intro A2 c2 w2 hown2 hgrow2; have HB2 := hid_ (by first | exact HB1.out.grown hgrow2 HB1.out.size (fun k hk => own_base hown1 hk) | exact HB1.out.grown hgrow2 HB1.out.size (fun k hk => own_base hown1' hk) | exact (HB1.out.alloc HB1.out.size _).grown hgrow2 (Nat.le_trans HB1.out.size (alloc_le' _ _)) (fun k hk => own_base hown1 hk) | exact (HB1.out.alloc HB1.out.size _).grown hgrow2 (Nat.le_trans HB1.out.size (alloc_le' _ _)) (fun k hk => own_base hown1' hk) : Below wc.heap.size wc w2))
            | (refine step_append_any (by rfl) (.tmp 52) (.tmp 55) 37 (by rfl) wc.heap.size 3 i0 _ 1 8 Try.underlying37 hi0 hz0 hz1 hz2 rfl (by omega) (.slice A2 (k + 1) c2) (k + 1) _ (by rfl) hown2 _ (i - k) _ ((xs.drop k).map (Value.int .i64)) (by rfl) HL2.out (srcI_none HP1.out) (srcI_drop HOw.out HP4.out HB2.out HXl.out p2) ints_one (by have := HM3.out; omega) (by omega) HB2.out.size ?_; intro A3 c3 w3 hown3 hgrow3; have HB3 := hid_ (HB2.out.grown hgrow3 HB2.out.size (fun k hk => own_base hown2 hk) : Below wc.heap.size wc w3))
            | (refine step_append_any (by rfl) (.tmp 52) (.tmp 55) 37 (by rfl) wc.heap.size 3 i0 _ 1 8 Try.underlying37 hi0 hz0 hz1 hz2 rfl (by omega) (.slice A2 (0 + k + 1) c2) (0 + k + 1) _ (by rfl) hown2 _ (i - k) _ ((xs.drop k).map (Value.int .i64)) (by rfl) HL2.out (srcI_none HP1.out) (srcI_drop HOw.out HP4.out HB2.out HXl.out p2) ints_one HM3.out (by omega) HB2.out.size ?_; intro A3 c3 w3 hown3 hgrow3; have HB3 := hid_ (HB2.out.grown hgrow3 HB2.out.size (fun k hk => own_base hown2 hk) : Below wc.heap.size wc w3)))
        all_goals
          have HW := hid_ (HB.out.trans ((HBk.out.trans (HB3.out.mono HBk.out.size)).mono HB.out.size))
          have e9 : k + 1 + (i - k) = i + 1 := by omega
          have e8 : 0 + k + 1 + (i - k) = i + 1 := by omega
          have HO3 := hid_ (show w3.ownsRow w.heap.size 3 1 (.slice A3 (i + 1) c3) (i + 1) ((xs.take k ++ v :: xs.drop k).map (.int .i64)) by
            have h3 := ownsRow_base hown3 (Nat.le_trans HB.out.size HBk.out.size)
            first
              | (rw [e9] at h3; simpa using h3)
              | (rw [e8] at h3; simpa using h3))
          clear hown1 hown1' hown2 hown3 hgrow1 hgrow2 hgrow3 e8
          go_wp2
          all_goals
            go_roundw
            case rel => exact ⟨i + 1, c3, A3, _, by rw [e9], by go_num, by omega, HW.out, HO3.out, HNew.out.2, HNew.out.1⟩
            case measure => simp [intOf]; omega
    · have b1 : ¬ (i : Int) < (n : Int) := by omega
      have hin : i = n := by omega
      subst hin
      have hids : idsS S = xs := by
        refine idsS_eq ?_ HSo.out
        have := HP.out
        rwa [List.take_of_length_le (by rw [HN.out]; exact Nat.le_refl _)] at this
      have HI := hid_ hids
      clear hids
      obtain ⟨A', c', hc⟩ := (HH.out.below HB.out).head
      rw [HN.out] at hc
      go_wp2
      go_ret
      exact ⟨A, c, rfl, by rw [HI.out]; exact HOwn.out, HB.out⟩
end
end Go.Proofs.Ytkoacfkglfgalaa
