/- The reference cache: its functions New, out; the reference's CopyBytes. Conditions: those that each theorem names. -/
import Derived.Test.YtogedbednfbkmaaIa
import Derived.Laws.Rows
namespace Go.Proofs.Ytogedbednfbkmaa
open Go.RowKit Go.Maps

theorem Try.info85 : (Try.prog.info? 85).map (fun i => (i.zero, i.size, i.bytes)) = some (some (.agg #[.string ⟨#[]⟩, .slice none 0 0, .int .i64 0, .int .i64 0, .int .i64 0]), 5, 64) := by kernel_rfl

/-- What a call on the reference leaves. -/
structure RmLeft (X : Nat → Prop) (w : World) (mb : Nat) (c : Cs) (w' : World) : Prop where
  rm : Rm (fun q => X q ∨ w.heap.size ≤ q) w' mb c
  kp : Kp (fun q => q = mb) w w'

theorem src_none {a b : Addr} {c k m d : Nat} : (if c = k then some a else some b) = none → m = 0 ∧ d = 0 := by
  intro h
  split at h <;> cases h
theorem some_none {a : Addr} {m d : Nat} : some a = none → m = 0 ∧ d = 0 := by
  intro h; cases h
section
variable {X : Nat → Prop} {w w' W' : World} {mb g n c i k : Nat} {L : List Lf}
theorem src5_take (hown : w.ownsRow 0 85 5 (.slice (some ⟨g, 0, none⟩) n c) n (flat5 L)) (hb : Below w.heap.size w W') :
    ∀ ad, some (⟨g, 0, none⟩ : Addr) = some ad → ∀ j u, (flat5 (L.take i))[j]? = some u → W'.cell? (ad.add j) = some u := by
  intro ad had j u hu
  injection had with had
  subst had
  rw [add_at]
  refine below_cell hb (own_cell hown j u ?_)
  rw [flat5_take L i, List.getElem?_append_left (List.getElem?_eq_some_iff.1 hu).1]
  exact hu
theorem src5_drop (hown : w.ownsRow 0 85 5 (.slice (some ⟨g, 0, none⟩) n c) n (flat5 L)) (hb : Below w.heap.size w W') (hk : k ≤ n) (hc : n ≤ c) :
    ∀ ad, (if c = k then some (⟨g, 0, none⟩ : Addr) else some ⟨g, k * 5, none⟩) = some ad → ∀ j u, (flat5 (L.drop k))[j]? = some u → W'.cell? (ad.add j) = some u := by
  intro ad had j u hu
  have hl : L.length = n := by have := hown.1; rw [flat5_length] at this; omega
  split at had
  · have : L.drop k = [] := List.drop_eq_nil_of_le (by omega)
    rw [this] at hu
    simp [flat5] at hu
  · injection had with had
    subst had
    rw [show (⟨g, k * 5, none⟩ : Addr).add j = ⟨g, k * 5 + j, none⟩ by simp [Addr.add]]
    refine below_cell hb (own_cell hown _ u ?_)
    rw [flat5_take L k, List.getElem?_append_right (by rw [flat5_length, List.length_take]; omega), flat5_length, List.length_take]
    rw [show k * 5 + j - min k L.length * 5 = j by omega]
    exact hu
theorem one5_take (h : ∀ p ∈ L, p.1.oneCell' = true) (i : Nat) : ∀ u ∈ flat5 (L.take i), u.oneCell' = true := flat5_one fun p hp => h p (List.mem_of_mem_take hp)
theorem one5_drop (h : ∀ p ∈ L, p.1.oneCell' = true) (i : Nat) : ∀ u ∈ flat5 (L.drop i), u.oneCell' = true := flat5_one fun p hp => h p (List.mem_of_mem_drop hp)
end

set_option maxHeartbeats 1000000 in
set_option maxRecDepth 100000 in
/-- CopyBytes. -/
theorem copyb_c {w : World} {A : Option Addr} {n c : Nat} {xs : List Int} (h : RdB w A n c xs) (hn : n ≤ 100000000000000) :
    Calls Try.prog 44 #[.slice A n c] w fun e w' => ∃ A' c', e = .returned (.slice A' n c') ∧ w'.ownsRow w.heap.size 5 1 (.slice A' n c') n (xs.map (.int .u8)) ∧ Below w.heap.size w w' := by
  obtain ⟨i0, hi0, hz0, hz1, hz2⟩ := info_parts Try.info5
  have HL := hid_ (show (xs.map (Value.int .u8)).length = n * 1 by rw [List.length_map, h.len, Nat.mul_one])
  have HN := hid_ (show ∀ a2, A = some a2 → ∀ j u, (xs.map (Value.int .u8))[j]? = some u → w.cell? (a2.add j) = some u from fun a2 had j u hu => by
    have hj : j < n := by
      have := (List.getElem?_eq_some_iff.1 hu).1
      rw [List.length_map, h.len] at this; exact this
    obtain ⟨b, off, e, hcl⟩ := h.cells (by omega)
    rw [had] at e
    injection e with e
    subst e
    have h2 : u = .int .u8 (xs.getD j 0) := by
      have hj2 : j < xs.length := by rw [h.len]; exact hj
      rw [map_at _ xs j 0 hj2] at hu
      injection hu with hu
      exact hu.symm
    rw [h2, show (⟨b, off, none⟩ : Addr).add j = ⟨b, off + j, none⟩ by exact add_plain b off j]
    exact hcl j hj)
  have H1 := hid_ (show ∀ u ∈ xs.map (Value.int .u8), u.oneCell' = true from fun u hu => by
    obtain ⟨x, _, rfl⟩ := List.mem_map.1 hu
    rfl)
  have HM := hid_ (show 0 + n ≤ maxLen by unfold maxLen; omega)
  have HNil := hid_ h.nil
  clear h
  go_enter Try.func44, Try.ntmps44
  go_wp2_with (first | (at_builtin; refine wpList_append_any rfl (.tmp 4) (.tmp 5) 32 rfl w.heap.size 5 i0 _ 1 1 Try.underlying32 hi0 hz0 hz1 hz2 rfl (by omega) (.slice none 0 0) 0 [] rfl (World.ownsRow_nil _ _ _ _) A n c (xs.map (.int .u8)) rfl HL.out HNil.out HN.out H1.out HM.out (by omega) (Nat.le_refl _) ?_; intro A1 c1 w1 hown1 hgrow1 hat; simp only [Nat.zero_add, List.nil_append] at hown1))
  go_ret
  refine ⟨A1, c1, by simp, hown1, (Below.refl _ _).grown hgrow1 (Nat.le_refl _) (fun k hk => ?_)⟩
  simp [Value.ownBlock] at hk

/-- New. -/
theorem rnew_ok (room : Int) (w : World) (h : 1 ≤ room ∧ room ≤ 1073741824) : Calls Try.prog 23 #[.int .i64 room] w fun e w' => ∃ mb, e = .returned (.tuple #[.pointer (some ⟨mb, 0, none⟩), .int .i64 0]) ∧ Rm (fun q => w.heap.size ≤ q) w' mb ⟨room, 0, 0, 0, 0, 0, []⟩ ∧ Below w.heap.size w w' := by
  obtain ⟨h1, h2⟩ := h
  have h1' : ¬ room < 1 := by omega
  have h2' : ¬ 1073741824 < room := by omega
  go_enter Try.func23, Try.ntmps23
  go_wp2
  go_ret2
  exact ⟨_, rfl, ⟨Nat.le_refl _, [], none, 0, rfl, Blk.new w 57 #[.int .i64 room, .int .i64 0, .int .i64 0, .int .i64 0, .int .i64 0, .int .i64 0, .slice none 0 0], World.ownsRow_nil _ _ _ _, fun q hq => by simp [Value.ownBlock] at hq, fun p hp => by simp at hp⟩, (Below.refl _ _).alloc (Nat.le_refl _) _⟩
theorem rnew_bad (room : Int) (w : World) (h : room < 1 ∨ 1073741824 < room) : Calls Try.prog 23 #[.int .i64 room] w fun e w' => e = .returned (.tuple #[.pointer none, .int .i64 2]) ∧ w = w' := by
  rcases h with h | h
  · go_enter Try.func23, Try.ntmps23
    go_wp2
    go_ret2
    exact ⟨rfl, rfl⟩
  · have h' : ¬ room < 1 := by omega
    go_enter Try.func23, Try.ntmps23
    go_wp2
    go_ret2
    exact ⟨rfl, rfl⟩

section
variable {X : Nat → Prop} {w w' : World} {mb : Nat} {c : Cs}
set_option maxHeartbeats 4000000 in
set_option maxRecDepth 100000 in
theorem rout_c (h : Rm X w mb c) {i : Nat} (hi : i < c.S.length) (hS : c.S.length ≤ 1000) :
    Calls Try.prog 56 #[.pointer (some ⟨mb, 0, none⟩), .int .i64 i] w fun e w' => ∃ A' c', e = .returned (.agg #[.string c.S[i].key, .slice A' c.S[i].val.length c', .int .i64 c.S[i].cost, .int .i64 c.S[i].worth, .int .i64 c.S[i].used]) ∧
      Vl X w (.slice A' c.S[i].val.length c') c.S[i].val ∧ RmLeft X w mb { c with S := c.S.eraseIdx i } w' := by
  obtain ⟨i0, hi0, hz0, hz1, hz2⟩ := info_parts Try.info85
  obtain ⟨L, A, cap, h1, hB, hown, hq, hv⟩ := h.body
  have hl : L.length = c.S.length := by rw [← h1, List.length_map]
  have hiL : i < L.length := by omega
  obtain ⟨g, hg, hcx⟩ := own5 hown (by omega)
  subst hg
  obtain ⟨e0, e1, e2, e3, e4⟩ := hcx i hiL
  have hvi := hv _ (List.getElem_mem hiL)
  have hone := hid_ (fun p hp => (hv p hp).one : ∀ p ∈ L, p.1.oneCell' = true)
  have hSi : c.S[i] = L[i].2 := by simp only [← h1, List.getElem_map]
  rw [hSi]
  obtain ⟨A', c', hvv, -⟩ := hvi.is_
  rw [hvv] at e1 hvi
  have HVi := hid_ hvi
  have HV := hid_ hv
  have H1 := hid_ h1
  have HQ := hid_ hq
  have HOwn := hid_ hown
  have HBlk := hid_ hB
  have HFm := hid_ h.fm
  have c0 : w.cell? ⟨mb, 6, none⟩ = some (.slice (some ⟨g, 0, none⟩) L.length cap) := hB.cell 6
  have f0 := hB.frozen 6
  have lt0 := hB.lt
  have hA := own_parts hown
  have bc : L.length ≤ cap := hA.2.1
  have hcm : cap ≤ 9223372036854775807 := hA.2.2.1
  have hglt : g < w.heap.size := hA.2.2.2.2 g rfl
  clear hcx hvv hvi hSi hv h1 hown hq h hB hA
  generalize L[i].2.key = ek at *
  generalize L[i].2.val = ev at *
  generalize L[i].2.cost = eco at *
  generalize L[i].2.worth = ewo at *
  generalize L[i].2.used = eus at *
  generalize ev.length = evl at *
  generalize hn : L.length = n at *
  have HN := hid_ hn
  have hn1 : n ≤ 1000 := by omega
  clear hn hl
  have b0 : (0 : Int) ≤ (i : Int) := by omega
  have b1 : (i : Int) < (n : Int) := by omega
  have b2 : ((i : Int) + 1) ≤ (n : Int) := by omega
  have b3 : (0 : Int) ≤ (i : Int) + 1 := by omega
  have b4 : (n : Int) ≤ (cap : Int) := by omega
  have b5 : (i : Int) ≤ (cap : Int) := by omega
  go_enter Try.func56, Try.ntmps56
  go_wp2
  have lt1 : mb < w.heap.size + 1 := by omega
  generalize ho0 : Obj.cells #[Value.string { data := #[] }, Value.slice none 0 0, Value.int IntKind.i64 0, Value.int IntKind.i64 0, Value.int IntKind.i64 0] 85 = o0
  generalize ho1 : Obj.cells #[Value.string ek, Value.slice A' evl c', Value.int IntKind.i64 eco, Value.int IntKind.i64 ewo, Value.int IntKind.i64 eus] 85 = o1
  have f0W : ((w.alloc o0).alloc o1).frozen? ⟨mb, 6, none⟩ = false := (World.frozen?_alloc_past _ _ _ (by simpa using lt1)).trans ((World.frozen?_alloc_past _ _ _ lt0).trans f0)
  have c0W : ((w.alloc o0).alloc o1).cell? ⟨mb, 6, none⟩ = some (.slice (some ⟨g, 0, none⟩) n cap) := (World.cell?_alloc_past _ _ _ (by simpa using lt1)).trans ((World.cell?_alloc_past _ _ _ lt0).trans c0)
  have hbW := hid_ (((Below.refl w.heap.size w).alloc (Nat.le_refl _) o0).alloc (by simp) o1)
  have hsW : ((w.alloc o0).alloc o1).heap.size = w.heap.size + 2 := by simp
  have hB4 : Blk ((w.alloc o0).alloc o1) w.heap.size 85 #[Value.string { data := #[] }, Value.slice none 0 0, Value.int IntKind.i64 0, Value.int IntKind.i64 0, Value.int IntKind.i64 0] := by
    rw [← ho0]
    exact (Blk.new w 85 _).alloc o1
  have hB5 : Blk ((w.alloc o0).alloc o1) (w.heap.size + 1) 85 #[Value.string ek, Value.slice A' evl c', Value.int IntKind.i64 eco, Value.int IntKind.i64 ewo, Value.int IntKind.i64 eus] := by
    rw [← ho1]
    have := Blk.new (w.alloc o0) 85 #[Value.string ek, Value.slice A' evl c', Value.int IntKind.i64 eco, Value.int IntKind.i64 ewo, Value.int IntKind.i64 eus]
    rw [show (w.alloc o0).heap.size = w.heap.size + 1 by simp] at this
    exact this
  have HB4 := hid_ hB4
  have HB5 := hid_ hB5
  clear hB4 hB5 ho0 ho1
  generalize ((w.alloc o0).alloc o1) = W at *
  have q1 : IntKind.i64.wrap ((i : Int) + 1) = (i : Int) + 1 := IntWalk.i64_in _ (by omega)
  have HL1 := hid_ (show (flat5 (L.take i)).length = i * 5 by rw [flat5_length, List.length_take]; have := HN.out; omega)
  have HL2 := hid_ (show (flat5 (L.drop (i + 1))).length = (n - (i + 1)) * 5 by rw [flat5_length, List.length_drop]; have := HN.out; omega)
  have HC := hid_ c0W
  have HF := hid_ f0W
  have HLt := hid_ (show mb < W.heap.size by omega)
  have HM1 := hid_ (show 0 + i ≤ maxLen by unfold maxLen; omega)
  have HM2 := hid_ (show i + (n - (i + 1)) ≤ maxLen by unfold maxLen; omega)
  go_region_law (first
    | (refine step_append_any (by rfl) (.tmp 15) (.tmp 21) 55 (by rfl) W.heap.size 85 i0 _ 5 64 (by kernel_rfl) hi0 hz0 hz1 hz2 rfl (by omega) (.slice none 0 0) 0 [] (by rfl) (World.ownsRow_nil _ _ _ _) (some ⟨g, 0, none⟩) i cap (flat5 (L.take i)) (by rfl) HL1.out some_none (src5_take HOwn.out hbW.out.drew) (one5_take hone.out _) HM1.out (by omega) (Nat.le_refl _) ?_; intro A1 c1 w1 hown1 hgrow1 hat1; simp only [Nat.zero_add, List.nil_append] at hown1; have hb1 : Below W.heap.size W w1 := ((Below.refl W.heap.size W).drew).grown hgrow1 (Nat.le_refl _) (fun k hk => by simp [Value.ownBlock] at hk); have k1 := below_cell hb1 HC.out; have k2 := (hb1.frozen (p := ⟨mb, 6, none⟩) HLt.out).trans HF.out; have HB1 := hid_ hb1; clear hb1 hat1)
    | (refine step_append_any (by rfl) (.tmp 22) (.tmp 29) 55 (by rfl) W.heap.size 85 i0 _ 5 64 (by kernel_rfl) hi0 hz0 hz1 hz2 rfl (by omega) (.slice A1 i c1) i _ (by rfl) hown1 _ (n - (i + 1)) _ (flat5 (L.drop (i + 1))) (by rfl) HL2.out src_none (src5_drop HOwn.out (hbW.out.trans (HB1.out.mono hbW.out.size)) (by omega) bc) (one5_drop hone.out _) HM2.out (by omega) HB1.out.size ?_; intro A2 c2 w2 hown2 hgrow2 hat2; have hb2 : Below W.heap.size W w2 := HB1.out.grown hgrow2 HB1.out.size (fun k hk => own_base hown1 hk); have k3 := below_cell hb2 HC.out; have k4 := (hb2.frozen (p := ⟨mb, 6, none⟩) HLt.out).trans HF.out; have HB2 := hid_ hb2; clear hb2 hat2))
  all_goals
    have n4 : w.heap.size ≠ mb := by omega
    have n5 : w.heap.size + 1 ≠ mb := by omega
    have hmb := HB2.out.size
    have hk2 := (Kp.of_below (HB2.out) (fun q => q = mb))
    have B4 := (HB4.out.kp hk2 n4).far (p := ⟨mb, 6, none⟩) n4 (Value.slice A2 (i + (n - (i + 1))) c2)
    have B5 := (HB5.out.kp hk2 n5).far (p := ⟨mb, 6, none⟩) n5 (Value.slice A2 (i + (n - (i + 1))) c2)
    have BM := ((HBlk.out.kp (Kp.of_below hbW.out (fun _ => False)) id).kp (Kp.of_below HB2.out (fun _ => False)) id).set_ 6 (Value.slice A2 (i + (n - (i + 1))) c2)
    have KM := ((Kp.of_below hbW.out (fun q => q = mb)).below HB2.out).setCell (p := ⟨mb, 6, none⟩) (.inl rfl) (Value.slice A2 (i + (n - (i + 1))) c2)
    have OM := own_kp hown2 ((Kp.refl (fun q => q = mb) w2).setCell (p := ⟨mb, 6, none⟩) (.inl rfl) (Value.slice A2 (i + (n - (i + 1))) c2)) (fun k hk e => by have := own_base hown2 hk; omega)
    have OB := fun k hk => own_base hown2 (k := k) hk
    have h40 := B4.cell 0
    have h41 := B4.cell 1
    have h42 := B4.cell 2
    have h43 := B4.cell 3
    have h44 := B4.cell 4
    have h50 := B5.cell 0
    have h51 := B5.cell 1
    have h52 := B5.cell 2
    have h53 := B5.cell 3
    have h54 := B5.cell 4
    have g40 := B4.frozen 0
    have g41 := B4.frozen 1
    have g42 := B4.frozen 2
    have g43 := B4.frozen 3
    have g44 := B4.frozen 4
    have X4 := hid_ B4
    have XM := hid_ BM
    have XK := hid_ KM
    have XO := hid_ OM
    have XB := hid_ OB
    clear B4 B5 BM KM OM OB hk2 hown1 hown2 hgrow1 hgrow2 k1 k2 k3 k4 c0 f0 e0 e1 e2 e3 e4
    generalize (w2.setCell ⟨mb, 6, none⟩ (Value.slice A2 (i + (n - (i + 1))) c2)) = W3 at *
    go_wp2
    all_goals
      have B4g : Blk (((((W3.setCell ⟨w.heap.size, 0, none⟩ (.string ek)).setCell ⟨w.heap.size, 1, none⟩ (.slice A' evl c')).setCell ⟨w.heap.size, 2, none⟩ (.int .i64 eco)).setCell ⟨w.heap.size, 3, none⟩ (.int .i64 ewo)).setCell ⟨w.heap.size, 4, none⟩ (.int .i64 eus)) w.heap.size 85 #[.string ek, .slice A' evl c', .int .i64 eco, .int .i64 ewo, .int .i64 eus] := by
        have := ((((X4.out.set_ 0 (.string ek)).set_ 1 (.slice A' evl c')).set_ 2 (.int .i64 eco)).set_ 3 (.int .i64 ewo)).set_ 4 (.int .i64 eus)
        simpa using this
      have KK := fun (T : Nat → Prop) (hT : T w.heap.size) => (((((Kp.refl T W3).setCell (p := ⟨w.heap.size, 0, none⟩) (.inl hT) (.string ek)).setCell (p := ⟨w.heap.size, 1, none⟩) (.inl hT) (.slice A' evl c')).setCell (p := ⟨w.heap.size, 2, none⟩) (.inl hT) (.int .i64 eco)).setCell (p := ⟨w.heap.size, 3, none⟩) (.inl hT) (.int .i64 ewo)).setCell (p := ⟨w.heap.size, 4, none⟩) (.inl hT) (.int .i64 eus)
      have hel : (L.eraseIdx i).length = i + (n - (i + 1)) := by
        have := HN.out
        rw [List.length_eraseIdx]
        split <;> omega
      have hef : flat5 (L.take i) ++ flat5 (L.drop (i + 1)) = flat5 (L.eraseIdx i) := by rw [← flat5_append, ← List.eraseIdx_eq_take_drop_succ]
      refine bodyPost_ret (results_cell_row (by kernel_rfl : Try.f56.results = #[.cell 4 85]) _ _ w.heap.size 85 #[.string ek, .slice A' evl c', .int .i64 eco, .int .i64 ewo, .int .i64 eus] (0, 0) _ rfl B4g Try.underlying85 rfl (by kernel_rfl)) rfl ⟨A', c', rfl, HVi.out, ⟨.inl HFm.out, L.eraseIdx i, A2, c2, ?_, ?_, ?_, ?_, ?_⟩, ?_⟩
      · show _ = c.S.eraseIdx i
        rw [← H1.out, List.eraseIdx_eq_take_drop_succ, List.eraseIdx_eq_take_drop_succ, List.map_append, List.map_take, List.map_drop]
      · rw [hel]
        have := XM.out.kp (KK (fun q => q = w.heap.size) rfl) (Ne.symm n4)
        simpa using this
      · rw [hel, ← hef]
        exact own_kp (ownsRow_base XO.out (Nat.zero_le _)) (KK (fun q => q = w.heap.size) rfl) (fun k hk e => by have := XB.out k hk; omega)
      · intro q hq
        have h1 : W.heap.size ≤ q := XB.out q (by rw [hel] at hq; exact hq)
        exact ⟨.inr (by omega), by omega⟩
      · intro p hp
        exact (HV.out p (List.mem_of_mem_eraseIdx hp)).mono (fun q hq _ => .inl hq) |>.kp (XK.out.trans (KK (fun q => q = mb ∨ w.heap.size ≤ q) (.inr (Nat.le_refl _))) (fun q hq => hq.imp id (fun x => by omega))) (fun q cs _ hb e => HBlk.out.ne_ hb (by decide) e.symm)
      · exact XK.out.trans (KK (fun q => q = mb ∨ w.heap.size ≤ q) (.inr (Nat.le_refl _))) (fun q hq => hq)
end
end Go.Proofs.Ytogedbednfbkmaa
