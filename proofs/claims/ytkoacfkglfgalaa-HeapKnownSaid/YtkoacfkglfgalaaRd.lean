/- The reference heap: its function Put. Conditions: those that each theorem names. -/
import Derived.Test.YtkoacfkglfgalaaRc
import Derived.Deep.DeepCutAuto
import Derived.Deep.CutBlock
import Derived.Deep.DrawnRows
namespace Go.Proofs.Ytkoacfkglfgalaa
open Go.RowKit Go.Maps
attribute [local go_sem ↓] Go.wp_at_zero Go.wp_at_succ

/-- What holds where the new item lies at xb. -/
structure PutS (G : Nat → Prop) (w : World) (mb : Nat) (T : List Item) (id r : Int) (W : World) (xb : Nat) : Prop where
  rf : Rf (fun q => G q ∨ w.heap.size ≤ q) W mb T
  blk : Blk W xb 83 #[.int .i64 id, .int .i64 r]
  kp : Kp (fun q => q = mb) w W
  lo : w.heap.size ≤ xb
  lt : mb < w.heap.size
theorem PutS.of {G : Nat → Prop} {w w1 : World} {mb : Nat} {T : List Item} (h : RfLeft G w mb T w1) (hl : mb < w.heap.size) (id r : Int) : PutS G w mb T id r (w1.alloc (.cells #[.int .i64 id, .int .i64 r] 83)) w1.heap.size :=
  ⟨h.rf.below ((Below.refl _ _).alloc (Nat.le_refl _) _), Blk.new w1 83 _, h.kp.alloc _, h.kp.size, hl⟩

theorem alloc_le (w : World) (o : Obj) : w.heap.size ≤ (w.alloc o).heap.size := by simp
theorem src_noneA {A : Option Addr} {f : Addr → Addr} {c i n : Nat} (hA : A = none → n = 0 ∧ c = 0) : (if c = i then A else A.map f) = none → n - i = 0 ∧ c - i = 0 := by
  intro h
  split at h
  · have := hA h; omega
  · have := hA (by simpa using h); omega
theorem src_takeA {w W' : World} {A : Option Addr} {n c i : Nat} {S : List Item} (hown : w.ownsRow 0 83 2 (.slice A n c) n (flat S)) (hA : ∀ ad, A = some ad → ∃ g : Nat, ad = ⟨g, 0, none⟩) (hb : Below w.heap.size w W') :
    ∀ ad, A = some ad → ∀ j u, (flat (S.take i))[j]? = some u → W'.cell? (ad.add j) = some u := by
  intro ad had
  obtain ⟨g, rfl⟩ := hA ad had
  subst had
  exact src_take hown hb _ rfl
theorem src_dropA {w W' : World} {A : Option Addr} {n c k : Nat} {S : List Item} (hown : w.ownsRow 0 83 2 (.slice A n c) n (flat S)) (hA : ∀ ad, A = some ad → ∃ g : Nat, ad = ⟨g, 0, none⟩) (hb : Below w.heap.size w W') (hk : k ≤ n) (hc : n ≤ c) :
    ∀ ad, (if c = k then A else A.map (fun x => x.add (k * 2))) = some ad → ∀ j u, (flat (S.drop k))[j]? = some u → W'.cell? (ad.add j) = some u := by
  intro ad had
  cases A with
  | none => split at had <;> simp at had
  | some a =>
    obtain ⟨g, rfl⟩ := hA a rfl
    refine src_drop hown hb hk hc ad ?_
    rw [← had]
    split
    · rfl
    · simp [Addr.add]
theorem put_end {G : Nat → Prop} {w W2 wc w3 : World} {mb xb k c3 : Nat} {T S' : List Item} {id r : Int} {A3 : Option Addr} {xs : List Value} (PS : PutS G w mb T id r W2 xb) (hb : Below W2.heap.size W2 wc) (hb3 : Below wc.heap.size wc w3)
    (hown : w3.ownsRow wc.heap.size 83 2 (.slice A3 k c3) k xs) (hk : k = S'.length) (hx : xs = flat S') : RfLeft G w mb S' (w3.setCell ⟨mb, 0, none⟩ (.slice A3 k c3)) := by
  subst hk hx
  have h2 := PS.kp.size
  have h3 := hb.size
  have h4 := PS.lt
  obtain ⟨A, c, hB, _, _⟩ := PS.rf.body
  have BM := (((hB.kp (Kp.of_below hb fun _ => False) (fun h => h)).kp (Kp.of_below hb3 fun _ => False) (fun h => h)).set_ 0 (Value.slice A3 S'.length c3))
  refine ⟨⟨PS.rf.fm.elim (fun h => .inl h) (fun h => .inr h), A3, c3, by simpa using BM, ?_, fun q hq => ?_⟩, ?_⟩
  · exact own_kp (ownsRow_base hown (Nat.zero_le _)) ((Kp.refl (fun q => q = mb) w3).setCell (p := ⟨mb, 0, none⟩) (.inl rfl) _) (fun k hk e => by have := own_base hown hk; omega)
  · have := own_base hown hq
    exact ⟨.inr (by omega), by omega⟩
  · exact ((PS.kp.below hb).below hb3).setCell (p := ⟨mb, 0, none⟩) (.inl rfl) _

set_option maxHeartbeats 8000000 in
set_option maxRecDepth 100000 in
theorem rput_ok {G : Nat → Prop} {w : World} {mb : Nat} {S : List Item} (h : Rf G w mb S) (hs : Srt S) (hg : Good S) (id r : Int) (hok : 0 ≤ id ∧ id ≤ 9999 ∧ 0 ≤ r ∧ r ≤ 9007199254740991) (hS : S.length ≤ 900) :
    Calls Try.prog 22 #[.pointer (some ⟨mb, 0, none⟩), .int .i64 id, .int .i64 r] w fun e w' => e = .returned (.int .i64 0) ∧ RfLeft G w mb (putS id r S) w' := by
  obtain ⟨i0, hi0, hz0, hz1, hz2⟩ := info_parts Try.info83
  obtain ⟨o1, o2, o3, o4⟩ := hok
  have o1' : ¬ id < 0 := by omega
  have o3' : ¬ r < 0 := by omega
  have HA := hid_ (at_c h id (by omega))
  have HH := hid_ h
  have HS := hid_ hs
  have HG := hid_ hg
  clear h hs hg
  go_enter Try.func22, Try.ntmps22
  go_wp2_with fail
  refine HA.out.mono ?_
  rintro e w' ⟨rfl, z, rfl, hz⟩
  have hone : ∃ k : Nat, (k < S.length ∧ (S.getD k (0, 0)).1 = id ∧ z = k) ∨ (id ∉ S.map (·.1) ∧ z = -1 ∧ k = 0) := by
    rcases hz with ⟨k, h1, h2, h3⟩ | ⟨h1, h2⟩
    · exact ⟨k, .inl ⟨h1, h2, h3⟩⟩
    · exact ⟨0, .inr ⟨h1, h2, rfl⟩⟩
  obtain ⟨k, hone⟩ := hone
  clear hz HA
  go_upto_if 29 with fail
  go_cut [] (fun wx => RfLeft G w mb (outS id S) wx)
  case first =>
    rcases hone with ⟨hk, hki, rfl⟩ | ⟨hno, rfl, rfl⟩
    · have b0 : (0 : Int) ≤ (k : Int) := by omega
      have HO := hid_ (out_c HH.out hk (by omega))
      have HKI := hid_ hki
      clear hki
      go_wp2_with fail
      refine HO.out.mono ?_
      rintro e w1 ⟨rfl, hl⟩
      have HL := hid_ (show RfLeft G w mb (outS id S) w1 by rw [← outS_erase HS.out HG.out hk HKI.out]; exact hl)
      clear hl HO
      go_wp2_with fail
      go_meet
      exact HL.out
    · have HL := hid_ (show RfLeft G w mb (outS id S) w by rw [outS_none hno]; exact ⟨HH.out.mono fun q hq => .inl hq, Kp.refl _ _⟩)
      clear hno
      go_wp2_with fail
      go_meet
      exact HL.out
  case rest =>
    clear hone
    have PS := hid_ (PutS.of hcut HH.out.lt id r)
    clear hcut
    go_upto_block 0 with fail
    generalize wc.alloc (Obj.cells #[Value.int IntKind.i64 id, Value.int IntKind.i64 r] 83) = W2 at *
    generalize wc.heap.size = xb at *
    have lenT : (outS id S).length ≤ 900 := Nat.le_trans (List.length_filter_le _ _) hS
    have HPT := hid_ (show putS id r S = ins (id, r) (outS id S) from rfl)
    generalize outS id S = T at *
    go_cut [9] (fun s9 wx => ∃ i : Nat, s9 = .int .i64 i ∧ i ≤ T.length ∧ Below W2.heap.size W2 wx ∧ (∀ j, j < i → ltI (T.getD j (0, 0)) (id, r) = true) ∧ (i < T.length → ltI (T.getD i (0, 0)) (id, r) = false))
    case first =>
      go_wp2_with fail
      go_loopw [9] (fun v wr => ∃ i : Nat, v = .int .i64 i ∧ i ≤ T.length ∧ Below W2.heap.size W2 wr ∧ ∀ j, j < i → ltI (T.getD j (0, 0)) (id, r) = true) (fun v _ => T.length - (intOf v).toNat)
      case atStart => exact ⟨0, rfl, by omega, Below.refl _ _, fun _ h => by omega⟩
      case round =>
        obtain ⟨i, rfl, hi, hbl, hall⟩ := hrel
        have HB := hid_ hbl
        have HAll := hid_ hall
        clear hbl hall
        have x0 : wr.cell? ⟨xb, 0, none⟩ = some (.int .i64 id) := below_cell HB.out (PS.out.blk.cell 0)
        have x1 : wr.cell? ⟨xb, 1, none⟩ = some (.int .i64 r) := below_cell HB.out (PS.out.blk.cell 1)
        by_cases hlt : i < T.length
        · obtain ⟨g, c, hc, hcx⟩ := (PS.out.rf.below HB.out).cells (by omega)
          obtain ⟨y0, y1⟩ := hcx i hlt
          have b0 : (0 : Int) ≤ (i : Int) := by omega
          have b1 : (i : Int) < (T.length : Int) := by omega
          generalize hp : T.getD i (0, 0) = p at *
          have HP := hid_ hp
          obtain ⟨pa, pb⟩ := p
          clear hp hcx
          go_wp2
          go_region_held3 (fun W => W.cell? ⟨mb, 0, none⟩ = some (.slice (some ⟨g, 0, none⟩) T.length c) ∧ W.cell? ⟨g, i * 2, none⟩ = some (.int .i64 pa) ∧ W.cell? ⟨g, i * 2 + 1, none⟩ = some (.int .i64 pb) ∧ W.cell? ⟨xb, 0, none⟩ = some (.int .i64 id) ∧ W.cell? ⟨xb, 1, none⟩ = some (.int .i64 r))
            ((repeat' apply And.intro) <;> first | (go_keep; done) | (go_simp; done) | (exact below_cell hbl2 (by go_simp)))
            (first | (go_at_call 42; refine (rahead_c _ _ _ _ _).mono ?_; (rintro e w' ⟨rfl, hbl2⟩)))
          have HB3 := hid_ (HB.out.trans (((Below.refl _ wr).drew.trans hbl2).mono HB.out.size))
          clear hbl2
          cases he : ltI (pa, pb) (id, r) with
          | true =>
            have HE := hid_ he
            clear he
            go_wp2
            go_roundw
            case rel => exact ⟨i + 1, by go_num, by omega, HB3.out, fun j hj => by
              by_cases e : j = i
              · subst e; rw [HP.out]; exact HE.out
              · exact HAll.out j (by omega)⟩
            case measure => simp [intOf]; omega
          | false =>
            have HE := hid_ he
            clear he
            go_wp2
            go_meet
            exact ⟨i, rfl, hi, HB3.out, HAll.out, fun _ => by rw [HP.out]; exact HE.out⟩
        · obtain ⟨A, c, hc⟩ := (PS.out.rf.below HB.out).head
          have b1 : ¬ (i : Int) < (T.length : Int) := by omega
          have b2 : decide ((i : Int) < (T.length : Int)) = false := decide_eq_false b1
          go_wp2
          go_quiet (fail)
          go_wp2
          go_meet
          exact ⟨i, rfl, hi, bdrewN HB.out _, HAll.out, fun h => absurd h hlt⟩
    case rest =>
      obtain ⟨i, rfl, hi, hbl, hall, hstop⟩ := hcut
      have HB := hid_ hbl
      have HI := hid_ (HPT.out.trans (ins_at hi hall hstop))
      clear hbl hall hstop HPT
      obtain ⟨A, c, hB, hown, hq⟩ := (PS.out.rf.below HB.out).body
      have hX := hid_ (PS.out.blk.kp (Kp.of_below HB.out fun _ => False) (fun h => h))
      have c0 := hB.cell 0
      have f0 := hB.frozen 0
      have lt0 := hB.lt
      have ltx := hX.out.lt
      have nmx : mb ≠ xb := by have := PS.out.lo; have := PS.out.lt; omega
      have x0 : wc.cell? ⟨xb, 0, none⟩ = some (.int .i64 id) := hX.out.cell 0
      have x1 : wc.cell? ⟨xb, 1, none⟩ = some (.int .i64 r) := hX.out.cell 1
      have HBlk := hid_ hB
      have HOwn := hid_ hown
      have HQ := hid_ hq
      have hl1 : (flat (T.take i)).length = i * 2 := by rw [flat_length, List.length_take]; omega
      have hl2 : (flat (T.drop i)).length = (T.length - i) * 2 := by rw [flat_length, List.length_drop]
      have HL1 := hid_ hl1
      have HL2 := hid_ hl2
      have hi64 : (0 : Int) ≤ (i : Int) := by omega
      generalize hn : T.length = n at *
      have HN := hid_ hn
      have hn2 : (i : Int) ≤ (n : Int) := by omega
      clear hB hown hq hl1 hl2 hn
      have HM1 := hid_ (show 0 + i ≤ maxLen by unfold maxLen; omega)
      have HM2 := hid_ (show i + 1 ≤ maxLen by unfold maxLen; omega)
      have HM3 := hid_ (show i + 1 + (n - i) ≤ maxLen by unfold maxLen; omega)
      have ne0 := World.new_ne wc ⟨mb, 0, none⟩ c0
      have hAc : (A = none → n = 0 ∧ c = 0) ∧ n ≤ c ∧ c ≤ 9223372036854775807 ∧ (∀ ad, A = some ad → ∃ g : Nat, ad = ⟨g, 0, none⟩) := by
        rcases HOwn.out.2 with ⟨hv, h0⟩ | ⟨g, cap, cur, hv, hg0, hgh, hnc, hcm, _⟩
        · injection hv with hv1 hv2 hv3
          subst hv1 hv2 hv3
          exact ⟨fun _ => ⟨rfl, rfl⟩, Nat.le_refl _, by omega, fun ad h => (by cases h)⟩
        · injection hv with hv1 hv2 hv3
          subst hv1 hv3
          exact ⟨fun h => (by cases h), by omega, by unfold maxLen at hcm; omega, fun ad h => (by injection h with h; exact ⟨g, h.symm⟩)⟩
      obtain ⟨hA1, hA2, hA3, hA4⟩ := hAc
      have HA1 := hid_ hA1
      have HA4 := hid_ hA4
      clear hA1 hA4
      have hnc2 : (n : Int) ≤ (c : Int) := by omega
      have hic : (i : Int) ≤ (c : Int) := by omega
      have k0a : (wc.drew.alloc (.cells #[.int .i64 id, .int .i64 r] 83)).cell? ⟨mb, 0, none⟩ = some (.slice A n c) := (World.cell?_alloc_past _ _ _ lt0).trans c0
      go_wp2
      go_region_law (first
          | (refine step_append_any (by rfl) (.tmp 57) (.tmp 63) 78 (by rfl) wc.heap.size 83 i0 _ 2 16 (by kernel_rfl) hi0 hz0 hz1 hz2 rfl (by omega) (.slice none 0 0) 0 [] (by rfl) (World.ownsRow_nil _ _ _ _) A i c (flat (T.take i)) (by rfl) HL1.out (fun h => (by have := HA1.out h; omega)) (by first | exact src_takeA HOwn.out HA4.out (Below.refl _ _).drew | exact src_takeA HOwn.out HA4.out ((Below.refl _ _).drew.alloc (Nat.le_refl _) _)) (flat_one _) HM1.out (by omega) (by first | exact Nat.le_refl _ | exact alloc_le _ _) ?_; intro A1 c1 w1 hown1 hgrow1; simp only [Nat.zero_add, List.nil_append] at hown1; have HB1 := hid_ (by first | exact ((Below.refl wc.heap.size wc).drew).grown hgrow1 (Nat.le_refl _) (fun k hk => (by simp [Value.ownBlock] at hk)) | exact (((Below.refl wc.heap.size wc).drew).alloc (Nat.le_refl _) _).grown hgrow1 (alloc_le _ _) (fun k hk => (by simp [Value.ownBlock] at hk)) : Below wc.heap.size wc w1); have k1 := below_cell HB1.out c0; have k1a : (w1.alloc (.cells #[.int .i64 id, .int .i64 r] 83)).cell? ⟨mb, 0, none⟩ = some (.slice A n c) := (World.cell?_alloc_past _ _ _ (World.block_lt_of_cell? w1 _ k1)).trans k1; have y0 := below_cell HB1.out x0; have y1 := below_cell HB1.out x1)
          | (refine step_append_any (by rfl) (.tmp 64) (.tmp 66) 78 (by rfl) wc.heap.size 83 i0 _ 2 16 (by kernel_rfl) hi0 hz0 hz1 hz2 rfl (by omega) (.slice A1 i c1) i _ (by rfl) (by first | exact hown1 | exact hown1.alloc _) _ 1 1 [.int .i64 id, .int .i64 r] (by rfl) (by rfl) some_none (by intro ad had; injection had with had; subst had; first | exact World.news_of_block (heap_alloc_new _ _) | exact World.news_of_block ((hgrow1.block _ (by simp) (by simp [Value.ownBlock])).trans (heap_alloc_new _ _))) (by simp [Value.oneCell']) HM2.out (by omega) (by first | exact HB1.out.size | exact Nat.le_trans HB1.out.size (alloc_le _ _)) ?_; intro A2 c2 w2 hown2 hgrow2; have HB2 := hid_ (by first | exact HB1.out.grown hgrow2 HB1.out.size (fun k hk => own_base hown1 hk) | exact (HB1.out.alloc HB1.out.size _).grown hgrow2 (Nat.le_trans HB1.out.size (alloc_le _ _)) (fun k hk => own_base hown1 hk) : Below wc.heap.size wc w2); have k2 := below_cell HB2.out c0)
          | (refine step_append_any (by rfl) (.tmp 67) (.tmp 73) 78 (by rfl) wc.heap.size 83 i0 _ 2 16 (by kernel_rfl) hi0 hz0 hz1 hz2 rfl (by omega) (.slice A2 (i + 1) c2) (i + 1) _ (by rfl) hown2 _ (n - i) _ (flat (T.drop i)) (by rfl) HL2.out (src_noneA HA1.out) (src_dropA HOwn.out HA4.out HB2.out hi hA2) (flat_one _) HM3.out (by omega) HB2.out.size ?_; intro A3 c3 w3 hown3 hgrow3; have HB3 := hid_ (HB2.out.grown hgrow3 HB2.out.size (fun k hk => own_base hown2 hk) : Below wc.heap.size wc w3); have k3 := below_cell HB3.out c0; have k4 := (HB3.out.frozen (p := ⟨mb, 0, none⟩) lt0).trans f0))
      all_goals
        have HE := hid_ (put_end (S' := putS id r S) PS.out HB.out HB3.out hown3 (by rw [HI.out, List.length_append, List.length_cons, List.length_take, List.length_drop, HN.out]; omega) (by rw [HI.out, flat_append, flat_cons]; simp [List.append_assoc]))
        clear hown1 hown2 hown3 hgrow1 hgrow2 hgrow3
        go_wp2_with fail
        all_goals
          go_ret
          exact ⟨rfl, HE.out⟩
end Go.Proofs.Ytkoacfkglfgalaa
