/- A cache by what it stands for: Put. Conditions: those that each theorem names. -/
import Derived.Test.YtogedbednfbkmaaUa
import Derived.Deep.DeepCutAuto
import Derived.Deep.CutBlock
import Derived.Laws.Strings
namespace Go.Proofs.Ytogedbednfbkmaa
open Go.RowKit Go.Maps

theorem below_drewN (B : Nat) (w : World) (n : Nat) : Below B w (w.drewN n) := ⟨rfl, rfl, rfl, Nat.le_refl _, fun _ _ => rfl⟩
theorem emp (k : ByteArray) : k.toList.isEmpty = decide (k.size = 0) := by
  rw [ByteArray.toList_eq]
  show k.data.toList.isEmpty = decide (k.data.size = 0)
  rw [← Array.length_toList]
  cases k.data.toList <;> simp
/-- One of the numbers in the cache's block is another one. -/
theorem CX.field {F : Nat → Prop} {w0 w : World} {cb : Nat} {h h' : Hd} {L : List Me} (hX : CX F w0 w cb h L) (j : Nat) (u : Value) (e : ∀ sv, (h.cells sv).setIfInBounds j u = h'.cells sv) (hm : h'.mb = h.mb) : CX F w0 (w.setCell ⟨cb, j, none⟩ u) cb h' L := by
  obtain ⟨sv, D, r, hsv, hM, hI⟩ := hX.body
  have hk1 := (Kp.refl (fun q => q = cb) w).setCell (p := ⟨cb, j, none⟩) (.inl rfl) u
  exact ⟨hX.kp.trans hk1 (fun q hq => .inl (hq ▸ hX.fc)), hX.fc, hm ▸ hX.fm, hX.fe, hX.len, hX.heap, ⟨sv, D, r.field j u h' (e sv), hsv, by rw [hm]; exact map_kp hM hk1 (fun e => blk_map_ne r.head hM e.symm), hI⟩, fun m hm => (hX.vals m hm).kp hk1 (fun q cs _ hB e => Blk.ne_ r.head hB (by decide) e.symm), hX.keys, hX.ok⟩
theorem CX.drewN {F : Nat → Prop} {w0 w : World} {cb : Nat} {h : Hd} {L : List Me} (hX : CX F w0 w cb h L) (n : Nat) : CX F w0 (w.drewN n) cb h L := by
  obtain ⟨sv, D, r, hsv, hM, hI⟩ := hX.body
  have hk1 := (Kp.refl (fun _ => False) w).drewN n
  exact ⟨hX.kp.drewN n, hX.fc, hX.fm, hX.fe, hX.len, hX.heap, ⟨sv, D, r.drewN n, hsv, map_kp hM hk1 id, hI⟩, fun m hm => (hX.vals m hm).kp hk1 (fun _ _ _ _ => id), hX.keys, hX.ok⟩
/-- What holds while entries are thrown out. -/
def PutR (F : Nat → Prop) (w3 : World) (cb mb : Nat) (c : Cs) (k : ByteArray) (z : Nat) (lv th : Int) (T : List En) (L' : List Me) (wx : World) : Prop :=
  evict c.room z lv th T = evict c.room z c.level c.thrown (outE k c.S) ∧ CX F w3 wx cb ⟨c.room, lv, c.uses, szS T, c.found, c.missed, th, mb⟩ L' ∧ (L'.map Me.e).Perm T ∧ Gd c.uses T ∧ (0 ≤ lv ∧ lv ≤ 1000000 * c.uses) ∧ (0 ≤ th ∧ th + T.length ≤ c.uses) ∧ k ∉ T.map En.key ∧ (szS T : Int) ≤ c.room
section
variable {F : Nat → Prop} {w w' : World} {cb : Nat} {c : Cs} {k : ByteArray} {A : Option Addr} {n cc : Nat} {xs : List Int}
set_option maxHeartbeats 8000000 in
set_option maxRecDepth 100000 in
theorem put_c (hC : IsC F w cb c) (hk : k.size ≤ 1000000) (hs : Small c) (hrd : RdB w A n cc xs) (hn : n ≤ cc) (hn2 : n ≤ 1000000000) (cost : Int) :
    Calls Try.prog 14 #[.pointer (some ⟨cb, 0, none⟩), .string k, .slice A n cc, .int .i64 cost] w fun e w' => e = .returned (.int .i64 (putC c k xs cost).1) ∧ Left F w cb (putC c k xs cost).2 w' := by
  have HCl := hid_ (clone_c hrd (by omega) hn)
  have HC := hid_ hC
  have HS := hid_ hs
  have HX := hid_ hrd.len
  clear hrd hs hC
  go_enter Try.func14, Try.ntmps14
  go_wp2_with fail
  refine HCl.out.mono ?_
  rintro e w1 ⟨A', c', rfl, hown, hb1⟩
  have HO := hid_ (And.intro hown hb1)
  clear hown hb1
  go_wp2_with fail
  have hB2 : Below w.heap.size w (w1.alloc (.cells #[.int .i64 0, .int .i64 0, .string k, .slice A' n c', .int .i64 cost, .int .i64 0] 74)) := HO.out.2.alloc HO.out.2.size _
  have hE : Ent (w1.alloc (.cells #[.int .i64 0, .int .i64 0, .string k, .slice A' n c', .int .i64 cost, .int .i64 0] 74)) ⟨w1.heap.size, .slice A' n c', ⟨k, xs, cost, 0, 0⟩⟩ 0 := Blk.new w1 74 _
  have hV : Vl (fun q => w.heap.size ≤ q) (w1.alloc (.cells #[.int .i64 0, .int .i64 0, .string k, .slice A' n c', .int .i64 cost, .int .i64 0] 74)) (.slice A' n c') xs := (Vl.of_own HO.out.1 HX.out.symm).kp (Kp.of_below ((Below.refl _ w1).alloc (Nat.le_refl _) _) fun _ => False) (fun _ _ _ _ => id)
  have hls : w.heap.size ≤ w1.heap.size ∧ w1.heap.size < (w1.alloc (.cells #[.int .i64 0, .int .i64 0, .string k, .slice A' n c', .int .i64 cost, .int .i64 0] 74)).heap.size := ⟨HO.out.2.size, by simp⟩
  generalize w1.alloc (.cells #[.int .i64 0, .int .i64 0, .string k, .slice A' n c', .int .i64 cost, .int .i64 0] 74) = w2 at *
  generalize w1.heap.size = gx at *
  have HB2 := hid_ hB2
  have HE := hid_ hE
  have HV := hid_ hV
  have HLs := hid_ hls
  have hC2 := HC.out.blocks.below hB2
  have HC2 := hid_ hC2
  obtain ⟨mb, L, hX, hp⟩ := hC2.body
  obtain ⟨sv, D, r, hsv, hM, hI⟩ := hX.body
  have H0 := hid_ (none_c cb _ sv r.head)
  clear hB2 hE hV hls hC2 HO HCl hX hp hsv hM hI
  refine H0.out.mono ?_
  rintro e w3 ⟨rfl, rfl⟩
  by_cases hbad : badE k cost = true
  · have hpc : putC c k xs cost = (2, c) := by unfold putC; rw [if_pos hbad]
    have hcs : k.size = 0 ∨ (¬ k.size = 0 ∧ 200 < k.size) ∨ (¬ k.size = 0 ∧ ¬ 200 < k.size ∧ cost < 0) ∨ (¬ k.size = 0 ∧ ¬ 200 < k.size ∧ ¬ cost < 0 ∧ 1000000 < cost) := by
      have := of_decide_eq_true hbad
      omega
    have HFin := hid_ (show Left F w cb (putC c k xs cost).2 w2 by
      rw [hpc]
      exact ⟨HC2.out.mono (fun q hq _ => .inl hq.1), Kp.of_below HB2.out F⟩)
    have HPc := hid_ hpc
    clear hbad hpc
    rcases hcs with h0 | ⟨h0, h1⟩ | ⟨h0, h1, h2⟩ | ⟨h0, h1, h2, h3⟩
    · have he : k.toList.isEmpty = true := by rw [emp]; exact decide_eq_true h0
      go_wp2
      go_ret
      exact ⟨by rw [HPc.out]; rfl, HFin.out⟩
    · have he : k.toList.isEmpty = false := by rw [emp]; exact decide_eq_false h0
      have h1' : 200 < (k.size : Int) := by omega
      go_wp2
      go_ret
      exact ⟨by rw [HPc.out]; rfl, HFin.out⟩
    · have he : k.toList.isEmpty = false := by rw [emp]; exact decide_eq_false h0
      have h1' : ¬ 200 < (k.size : Int) := by omega
      go_wp2
      go_ret
      exact ⟨by rw [HPc.out]; rfl, HFin.out⟩
    · have he : k.toList.isEmpty = false := by rw [emp]; exact decide_eq_false h0
      have h1' : ¬ 200 < (k.size : Int) := by omega
      go_wp2
      go_ret
      exact ⟨by rw [HPc.out]; rfl, HFin.out⟩
  · have hok : ¬ k.size = 0 ∧ ¬ 200 < k.size ∧ ¬ cost < 0 ∧ ¬ 1000000 < cost := by
      have : ¬ (k.size = 0 ∨ 200 < k.size ∨ cost < 0 ∨ 1000000 < cost) := fun h => hbad (decide_eq_true h)
      omega
    obtain ⟨h0, h1, h2, h3⟩ := hok
    have he : k.toList.isEmpty = false := by rw [emp]; exact decide_eq_false h0
    have h1' : ¬ 200 < (k.size : Int) := by omega
    have c0 : w2.cell? ⟨cb, 0, none⟩ = some (.int .i64 c.room) := r.head.cell 0
    have HSz := hid_ (size_c (m := ⟨gx, .slice A' n c', ⟨k, xs, cost, 0, 0⟩⟩) (HE.out.drew) (HV.out.kp (Kp.refl (fun _ => False) w2).drew (fun _ _ _ _ => id)) (by show xs.length ≤ 2000000000; rw [HX.out]; omega) (by show k.size ≤ 2000000000; omega))
    have hszE : (szE ⟨k, xs, cost, 0, 0⟩ : Int) = (k.size : Int) + (xs.length : Int) := by unfold szE; simp
    rw [show (⟨gx, Value.slice A' n c', ⟨k, xs, cost, 0, 0⟩⟩ : Me).e = ⟨k, xs, cost, 0, 0⟩ from rfl] at HSz
    generalize hz : szE ⟨k, xs, cost, 0, 0⟩ = z at *
    have HBad := hid_ hbad
    have HszE := hid_ hszE
    clear hbad hszE
    by_cases hroom : (z : Int) > c.room
    · have hpc : putC c k xs cost = (5, c) := by unfold putC; rw [if_neg HBad.out, if_pos (by rw [← HszE.out]; exact hroom)]
      have HFin := hid_ (show ∀ m, Left F w cb (putC c k xs cost).2 (w2.drewN m) from fun m => by
        rw [hpc]
        exact ⟨(HC2.out.below (below_drewN _ w2 m)).mono (fun q hq _ => .inl hq.1), (Kp.of_below HB2.out F).drewN m⟩)
      have HPc := hid_ hpc
      have hroom' : c.room < (z : Int) := hroom
      clear hpc hroom
      unfold ptr at HSz
      go_wp2_with fail
      go_region_held3 (fun W => W.cell? ⟨cb, 0, none⟩ = some (.int .i64 c.room))
        (first | exact c0 | (go_keep; done))
        ((go_at_call 34; refine HSz.out.mono ?_; rintro e w3 ⟨rfl, nd, rfl⟩))
      go_wp2
      go_ret
      exact ⟨by rw [HPc.out]; rfl, HFin.out _⟩
    · have hroom' : ¬ c.room < (z : Int) := hroom
      clear hroom
      unfold ptr at HSz
      go_wp2_with fail
      go_region_held3 (fun W => W.cell? ⟨cb, 0, none⟩ = some (.int .i64 c.room))
        (first | exact c0 | (go_keep; done))
        ((go_at_call 34; refine HSz.out.mono ?_; rintro e w3 ⟨rfl, nd, rfl⟩))
      have hpc : putC c k xs cost = (0, useE { c with level := (evict c.room (k.size + xs.length) c.level c.thrown (outE k c.S)).1, thrown := (evict c.room (k.size + xs.length) c.level c.thrown (outE k c.S)).2.1 } ⟨k, xs, cost, 0, 0⟩ (evict c.room (k.size + xs.length) c.level c.thrown (outE k c.S)).2.2) := by
        unfold putC
        rw [if_neg HBad.out, if_neg (by rw [← HszE.out]; omega)]
      rw [← HszE.out] at hpc
      have HPc := hid_ hpc
      have HC3 := hid_ (HC2.out.below (below_drewN _ w2 (1 + nd)))
      have HE3 := hid_ (HE.out.drewN (1 + nd))
      have HV3 := hid_ (HV.out.kp (S := fun _ => False) ((Kp.refl _ w2).drewN (1 + nd)) (fun _ _ _ _ => id))
      have HB3 := hid_ (HB2.out.trans ((below_drewN w2.heap.size w2 (1 + nd)).mono HB2.out.size))
      have hls3 : w.heap.size ≤ gx ∧ gx < (w2.drewN (1 + nd)).heap.size := HLs.out
      have HL3 := hid_ hls3
      clear hpc HC2 HE HV HB2 HLs hls3 HSz c0 H0 r
      generalize w2.drewN (1 + nd) = w3 at *
      obtain ⟨mb, L, hX, hp⟩ := HC3.out.body
      obtain ⟨sv, D, r, hsv, hM, hI⟩ := hX.body
      have hlk : ∃ p : Option Addr, (Instr.lookup 62 (.map (some mb)) (.string k) false).run Try.prog w3 = .ok (.pointer p) w3 ∧ ((p = none ∧ ∀ m ∈ L, m.e.key ≠ k) ∨ ∃ (i : Nat) (hi : i < L.length), p = some ⟨(L[i]'hi).g, 0, none⟩ ∧ (L[i]'hi).e.key = k) := by
        rcases look hM hI k (by unfold maxLen; omega) with ⟨hno, hrun⟩ | ⟨m, hm, he, hrun⟩
        · exact ⟨none, hrun, .inl ⟨rfl, hno⟩⟩
        · obtain ⟨i, hi, hmi⟩ := List.mem_iff_getElem.1 hm
          exact ⟨_, hrun, .inr ⟨i, hi, by rw [hmi], by rw [hmi]; exact he⟩⟩
      obtain ⟨p, hrun, hpp⟩ := hlk
      have c7 : w3.cell? ⟨cb, 7, none⟩ = some (.map (some mb)) := r.head.cell 7
      have HX3 := hid_ (And.intro hX hp)
      have HPp := hid_ hpp
      clear hX hp hsv hM hI r hpp
      go_upto_if 46 with fail
      go_cut [] (fun wx => ∃ L1, CX (fun q => F q ∧ q < w.heap.size) w3 wx cb { hdOf c mb with size := szS (outE k c.S) } L1 ∧ (L1.map Me.e).Perm (outE k c.S))
      case first =>
        rcases HPp.out with ⟨rfl, hno⟩ | ⟨i, hi, rfl, hik⟩
        · have HFin := hid_ (show ∃ L1, CX (fun q => F q ∧ q < w.heap.size) w3 w3 cb { hdOf c mb with size := szS (outE k c.S) } L1 ∧ (L1.map Me.e).Perm (outE k c.S) from by
            have e1 : outE k c.S = c.S := outE_none (hasE_not.1 (hasE_no HX3.out.2 hno))
            rw [e1]
            exact ⟨L, HX3.out.1, HX3.out.2⟩)
          clear hno hrun
          go_wp2_with fail
          go_meet
          exact HFin.out
        · have hsz := HC.out.ok.sz
          have hrm := HC.out.ok.room
          have HO := hid_ (out_c HX3.out.1 i hi (by show 0 ≤ (szS c.S : Int) ∧ (szS c.S : Int) ≤ 1000000000000; omega))
          unfold ptr at HO
          have HF := hid_ (show ∀ w' L', CX (fun q => F q ∧ q < w.heap.size) w3 w' cb { hdOf c mb with size := (hdOf c mb).size - szE (L[i]'hi).e } L' → (L' ++ [L[i]'hi]).Perm L → ∃ L1, CX (fun q => F q ∧ q < w.heap.size) w3 w' cb { hdOf c mb with size := szS (outE k c.S) } L1 ∧ (L1.map Me.e).Perm (outE k c.S) from fun w' L' hX' hp' => by
            have hn := HC.out.ok.gd.once
            have hs := szS_out hp' HX3.out.2 hn
            have hpo := out_of hp' HX3.out.2 hn
            rw [hik] at hs hpo
            refine ⟨L', ?_, hpo⟩
            have e3 : (hdOf c mb).size - szE (L[i]'hi).e = szS (outE k c.S) := by show (szS c.S : Int) - _ = _; omega
            rw [e3] at hX'
            exact hX')
          generalize (L[i]'hi).g = gi at *
          clear hrun
          go_wp2_with fail
          refine HO.out.mono ?_
          rintro e w4 ⟨rfl, L', hX', hp'⟩
          have HD := hid_ (HF.out _ _ hX' hp')
          clear hX' hp'
          go_wp2_with fail
          go_meet
          exact HD.out
      case rest =>
        clear hrun HPp HX3
        obtain ⟨L1, hX1, hp1⟩ := hcut
        have HX1 := hid_ (And.intro hX1 hp1)
        clear hX1 hp1
        have hR0 := hid_ (show ∃ lv th T L', PutR (fun q => F q ∧ q < w.heap.size) w3 cb mb c k z lv th T L' wc from by
          have ho := HC.out.ok
          have h1 := outE_len k c.S
          have h2 := szS_outE k c.S
          have := ho.thr
          have := ho.sz
          exact ⟨c.level, c.thrown, outE k c.S, L1, rfl, HX1.out.1, HX1.out.2, ho.gd.out k, ho.lev, ⟨ho.thr.1, by omega⟩, fun hm => by
            obtain ⟨y, hy, e2⟩ := List.mem_map.1 hm
            exact (mem_outE.1 hy).2 e2, by omega⟩)
        clear HX1
        go_wp2_with fail
        go_loopw [] (fun wr => ∃ lv th T L', PutR (fun q => F q ∧ q < w.heap.size) w3 cb mb c k z lv th T L' wr) (fun wr => (intOf ((wr.cell? ⟨cb, 3, none⟩).getD undef)).toNat)
        case atStart => exact hR0.out
        case round =>
          obtain ⟨lv, th, T, L', hR⟩ := hrel
          have HR := hid_ hR
          obtain ⟨hev, hX, hp, hG, hlv, hth, hkT, hsT⟩ := hR
          obtain ⟨sv, D, r, hsv, hM, hI⟩ := hX.body
          have c3 : wr.cell? ⟨cb, 3, none⟩ = some (.int .i64 (szS T)) := r.head.cell 3
          have c0 : wr.cell? ⟨cb, 0, none⟩ = some (.int .i64 c.room) := r.head.cell 0
          have hnx : ¬ (F gx ∧ gx < w.heap.size) := fun x => by have := HL3.out; omega
          have hEx := HE3.out.kp hX.kp hnx
          have hVx := HV3.out.kp hX.kp (fun q cs hq _ x => by omega)
          have HSx := hid_ (size_c (m := ⟨gx, .slice A' n c', ⟨k, xs, cost, 0, 0⟩⟩) hEx.drew (hVx.kp (Kp.refl (fun _ => False) wr).drew (fun _ _ _ _ => id)) (by show xs.length ≤ 2000000000; rw [HX.out]; omega) (by show k.size ≤ 2000000000; omega))
          rw [show (⟨gx, Value.slice A' n c', ⟨k, xs, cost, 0, 0⟩⟩ : Me).e = ⟨k, xs, cost, 0, 0⟩ from rfl, hz] at HSx
          unfold ptr at HSx
          have hrm := HC.out.ok.room
          have q1 : IntKind.i64.wrap ((szS T : Int) + (z : Int)) = (szS T : Int) + (z : Int) := IntWalk.i64_in _ (by omega)
          clear hev hX hp hG hlv hth hkT r hsv hM hI hEx hVx hnx
          by_cases hmore : c.room < (szS T : Int) + (z : Int)
          · go_wp2_with fail
            go_region_held3 (fun W => W.cell? ⟨cb, 3, none⟩ = some (.int .i64 (szS T)) ∧ W.cell? ⟨cb, 0, none⟩ = some (.int .i64 c.room))
              (first | exact ⟨c3, c0⟩ | (refine And.intro ?_ ?_ <;> (go_keep; done)))
              ((go_at_call 34; refine HSx.out.mono ?_; rintro e w4 ⟨rfl, nd2, rfl⟩))
            obtain ⟨hev, hX, hp, hG, hlv, hth, hkT, hsT⟩ := HR.out
            cases T with
            | nil => simp [szS] at hmore; omega
            | cons x0 T' =>
              have hX4 := hX.drewN (1 + nd2)
              have hpos : 0 < L'.length := by
                have := hp.length_eq
                simp at this; omega
              have hm0 : (L'[0]'hpos).e = x0 := by
                rw [← at_eq L' 0 hpos]
                exact head_is hX4.heap hp hG.srt
              obtain ⟨sv, D, r, hsv, hM, hI⟩ := hX4.body
              obtain ⟨rg, cap, hv, hrg, hcl⟩ := r.item hpos
              have c8 : (wr.drewN (1 + nd2)).cell? ⟨cb, 8, none⟩ = some sv := r.head.cell 8
              rw [hv] at c8
              have d0 := hcl 0 hpos
              have e0 : (wr.drewN (1 + nd2)).cell? ⟨(L'[0]'hpos).g, 0, none⟩ = some (.int .i64 x0.worth) := by
                have := (r.ents 0 hpos).cell 0
                rw [hm0] at this
                exact this
              have c1 : (wr.drewN (1 + nd2)).cell? ⟨cb, 1, none⟩ = some (.int .i64 lv) := r.head.cell 1
              have c6 : (wr.drewN (1 + nd2)).cell? ⟨cb, 6, none⟩ = some (.int .i64 th) := r.head.cell 6
              have f1 := r.head.frozen 1
              have f6 := r.head.frozen 6
              have hne : cb ≠ (L'[0]'hpos).g := r.head_ne (List.getElem_mem hpos)
              have b0 : (0 : Int) < (L'.length : Int) := by omega
              have hx0 := hG.ok x0 (by simp)
              have hu := HS.out.1
              have q2 : IntKind.i64.wrap (th + 1) = th + 1 := IntWalk.i64_in _ (by omega)
              have hX5 := (hX4.field (h' := ⟨c.room, x0.worth, c.uses, szS (x0 :: T'), c.found, c.missed, th, mb⟩) 1 (.int .i64 x0.worth) (fun _ => rfl) rfl).field (h' := ⟨c.room, x0.worth, c.uses, szS (x0 :: T'), c.found, c.missed, th + 1, mb⟩) 6 (.int .i64 (th + 1)) (fun _ => rfl) rfl
              have HO := hid_ (out_c hX5 0 hpos (by show 0 ≤ (szS (x0 :: T') : Int) ∧ (szS (x0 :: T') : Int) ≤ 1000000000000; omega))
              have HNext := hid_ (show ∀ w5 L'', CX (fun q => F q ∧ q < w.heap.size) w3 w5 cb ⟨c.room, x0.worth, c.uses, (szS (x0 :: T') : Int) - szE (L'[0]'hpos).e, c.found, c.missed, th + 1, mb⟩ L'' → (L'' ++ [L'[0]'hpos]).Perm L' → PutR (fun q => F q ∧ q < w.heap.size) w3 cb mb c k z x0.worth (th + 1) T' L'' w5 from fun w5 L'' hX6 hp6 => by
                have e3 : ((szS (x0 :: T') : Int)) - szE (L'[0]'hpos).e = szS T' := by rw [hm0, szS_cons]; omega
                rw [e3] at hX6
                have hT' : (L''.map Me.e).Perm T' := by
                  have h5 := (hp6.map Me.e).trans hp
                  rw [List.map_append] at h5
                  have h6 := List.perm_append_comm.trans h5
                  simp only [List.map_cons, List.map_nil, List.singleton_append, hm0] at h6
                  exact (List.perm_cons x0).1 h6
                refine ⟨?_, hX6, hT', hG.tail, ⟨hx0.2.2.2.2.1, hx0.2.2.2.2.2.1⟩, ⟨by omega, by simp at hth; omega⟩, fun hm => hkT (by simp at hm ⊢; exact .inr hm), by rw [szS_cons] at hsT; omega⟩
                rw [← hev]
                conv => rhs; unfold evict
                rw [if_pos (by omega)])
              have HszD := hid_ (show szS T' < szS (x0 :: T') by
                rw [szS_cons]
                unfold szE
                omega)
              unfold ptr at HO
              clear hev hX hp hG hlv hth hkT hsT r hsv hM hI hX4 hX5 hcl hx0 hm0 hv
              generalize (L'[0]'hpos).g = g0 at *
              have hne2 : g0 ≠ cb := fun e => hne e.symm
              generalize wr.drewN (1 + nd2) = w5 at *
              go_wp2_with fail
              refine HO.out.mono ?_
              rintro e w6 ⟨rfl, L'', hX6, hp6⟩
              have HR6 := hid_ (HNext.out _ _ hX6 hp6)
              have z3 : w6.cell? ⟨cb, 3, none⟩ = some (.int .i64 (szS T')) := by
                obtain ⟨_, hX7, _⟩ := HR6.out
                obtain ⟨sv7, D7, r7, _⟩ := hX7.body
                exact r7.head.cell 3
              have HZ := hid_ (And.intro c3 z3)
              clear hX6 hp6 c3 z3
              go_wp2
              go_roundw
              case rel => exact ⟨_, _, _, _, HR6.out⟩
              case measure =>
                rw [HZ.out.1, HZ.out.2]
                have := HszD.out
                simp [intOf]
                omega
          · go_wp2_with fail
            go_region_held3 (fun W => W.cell? ⟨cb, 3, none⟩ = some (.int .i64 (szS T)) ∧ W.cell? ⟨cb, 0, none⟩ = some (.int .i64 c.room))
              (first | exact ⟨c3, c0⟩ | (refine And.intro ?_ ?_ <;> (go_keep; done)))
              ((go_at_call 34; refine HSx.out.mono ?_; rintro e w4 ⟨rfl, nd2, rfl⟩))
            obtain ⟨hev, hX, hp, hG, hlv, hth, hkT, hsT⟩ := HR.out
            have hX4 := hX.drewN (1 + nd2)
            obtain ⟨sv, D, r, hsv, hM, hI⟩ := hX4.body
            have hnx : ¬ (F gx ∧ gx < w.heap.size) := fun x => by have := HL3.out; omega
            have hEx := HE3.out.kp hX4.kp hnx
            have hVx := HV3.out.kp hX4.kp (fun q cs hq _ x => by omega)
            have hu := HS.out.1
            have ho := HC.out.ok
            have hfn := ho.fnd
            have HU := hid_ (use_c cb _ sv ⟨gx, .slice A' n c', ⟨k, xs, cost, 0, 0⟩⟩ 0 r.head hEx (by show 0 ≤ c.uses ∧ c.uses ≤ 1000000000; omega) (by show 0 ≤ lv ∧ lv ≤ 1000000000000000; omega) (by show 0 ≤ cost ∧ cost ≤ 1000000; omega))
            have hevT : evict c.room z c.level c.thrown (outE k c.S) = (lv, th, T) := by
              rw [← hev]
              cases T with
              | nil => rfl
              | cons x0 T' => unfold evict; rw [if_neg (by omega)]
            have HEv := hid_ hevT
            have HX4 := hid_ (And.intro hX4 (And.intro hp (And.intro hG (And.intro hlv (And.intro hth (And.intro hkT hsT))))))
            have HRr := hid_ (And.intro r (And.intro hsv (And.intro hM hI)))
            have HVx := hid_ (And.intro hVx hEx)
            have HX4g := hid_ (show ∀ m ∈ L', m.g ≠ gx from fun m hm e => by
              rcases hX4.fe m hm with h | h
              · exact hnx (e ▸ h)
              · have := HL3.out; omega)
            have HLt := hid_ (show L'.length < 100000 from by
              have h5 := hp.length_eq
              rw [List.length_map] at h5
              omega)
            have HGn := hid_ (show gx ∉ L'.map Me.g from fun hm => by
              obtain ⟨m, hm2, e⟩ := List.mem_map.1 hm
              exact HX4g.out m hm2 e)
            unfold ptr at HU
            clear hev hX hX4 hp hG hlv hth hkT hsT r hsv hM hI hEx hVx hnx hevT c3 c0 hfn ho
            generalize wr.drewN (1 + nd2) = w4 at *
            go_wp2_with fail
            refine HU.out.mono ?_
            rintro e w5 ⟨rfl, hB5, hE5', hk5'⟩
            have hE5 : Ent w5 ⟨gx, .slice A' n c', ⟨k, xs, cost, lv + cost, c.uses + 1⟩⟩ 0 := hE5'
            have hk5 : Kp (fun q => q = cb ∨ q = gx) w4 w5 := hk5'
            clear hE5' hk5'
            obtain ⟨r, hsv, hM, hI⟩ := HRr.out
            have nmc : mb ≠ cb := fun e => blk_map_ne r.head hM e.symm
            have nmg : mb ≠ gx := fun e => blk_map_ne HVx.out.2 hM e.symm
            have hM5 := map_kp hM hk5 (fun e => e.elim nmc nmg)
            obtain ⟨w6, hrun6, hM6, hturn6⟩ := hM5.store Try.law9 Try.underlying62 (by have := HX4.out.1.len; have := hI.size; unfold maxLen; omega) (keyOf_str (s := k) (by unfold maxLen; omega)) (show ptrElem (.pointer (some ⟨gx, 0, none⟩)) = some (gD gx, []) from rfl)
            have hk6 := turned_kp hturn6
            have hB6 := hB5.kp hk6 (fun e => nmc e.symm)
            have hE6 := hE5.kp hk6 (fun e => nmg e.symm)
            have c7 : w5.cell? ⟨cb, 7, none⟩ = some (.map (some mb)) := hB5.cell 7
            have c3 : w6.cell? ⟨cb, 3, none⟩ = some (.int .i64 (szS T)) := hB6.cell 3
            have f3 := hB6.frozen 3
            have hk46 : Kp (fun q => q = cb ∨ q = gx ∨ q = mb) w4 w6 := (hk5.mono (S' := fun q => q = cb ∨ q = gx ∨ q = mb) (fun q hq => hq.imp id .inl)).trans hk6 (fun q hq => .inl (.inr (.inr hq)))
            have hV6 := HVx.out.1.kp hk46 (fun q cs _ hB => by
              rintro (e | e | e)
              · subst e; exact Blk.ne_ r.head hB (by decide) rfl
              · subst e; exact Blk.ne_ HVx.out.2 hB (by decide) rfl
              · exact map_val_ne hB hM e)
            have HS6 := hid_ (size_c (m := ⟨gx, .slice A' n c', ⟨k, xs, cost, lv + cost, c.uses + 1⟩⟩) hE6.drew (hV6.kp (Kp.refl (fun _ => False) w6).drew (fun _ _ _ _ => id)) (by show xs.length ≤ 2000000000; rw [HX.out]; omega) (by show k.size ≤ 2000000000; omega))
            have hz6 : szE (⟨gx, .slice A' n c', ⟨k, xs, cost, lv + cost, c.uses + 1⟩⟩ : Me).e = z := hz
            rw [hz6] at HS6
            have HK := hid_ (And.intro hk46 (And.intro hB6 (And.intro hE6 (And.intro hM6 hV6))))
            have HNm := hid_ (And.intro nmc nmg)
            unfold ptr at HS6
            clear r hsv hM hI hB5 hE5 hk5 hM5 hM6 hturn6 hk6 hB6 hE6 hk46 hV6 nmc nmg hz6
            have q3 : IntKind.i64.wrap ((szS T : Int) + (z : Int)) = (szS T : Int) + (z : Int) := q1
            have H7 := hid_ (fun nd : Nat => put7 (x := ⟨gx, .slice A' n c', ⟨k, xs, cost, lv + cost, c.uses + 1⟩⟩) (h7 := ⟨c.room, lv, c.uses + 1, (szS T : Int) + z, c.found, c.missed, th, mb⟩) HRr.out.1 HRr.out.2.2.1 HVx.out.2 HX4g.out HK.out.1 HK.out.2.1 HK.out.2.2.1 HK.out.2.2.2.1 (1 + nd) (.int .i64 ((szS T : Int) + (z : Int))) rfl)
            go_wp2_with fail
            go_region_with (go_at_call 34; refine HS6.out.mono ?_; rintro e w9 ⟨rfl, nd3, rfl⟩)
            all_goals
              obtain ⟨r7, hE7, hk47, hM7⟩ := H7.out nd3
              have hpush := hpush_c (M := fun w L => CM (fun q => Fr cb sv L' q ∨ q = gx) _ cb _ w L ∧ L.length < 100000 ∧ (Fr cb sv L' gx ∨ gx = gx) ∧ gx ∉ L.map Me.g ∧ ∃ k0, Ent w ⟨gx, .slice A' n c', ⟨k, xs, cost, lv + cost, c.uses + 1⟩⟩ k0) ordM CM.headM CM.lessM CM.swapM CM.lenM (CM.pushM ⟨gx, .slice A' n c', ⟨k, xs, cost, lv + cost, c.uses + 1⟩⟩) _ L' ⟨r7.cm_with HX4.out.1.len, HLt.out, .inr rfl, HGn.out, 0, hE7⟩ HLt.out HX4.out.1.heap
              have HPu := hid_ hpush
              have H78 := hid_ (And.intro r7 (And.intro hk47 hM7))
              clear r7 hE7 hk47 hM7 hpush
              generalize (w6.drewN (1 + nd3)).setCell ⟨cb, 3, none⟩ (.int .i64 ((szS T : Int) + (z : Int))) = w7 at *
              unfold ptr at HPu
              go_wp2_with fail
              refine HPu.out.mono ?_
              rintro e w8 ⟨rfl, L9, hCM, hp9, hh9⟩
              obtain ⟨r7, hk47, hM7⟩ := H78.out
              obtain ⟨hX4, hp, hG, hlv, hth, hkT, hsT⟩ := HX4.out
              obtain ⟨r, hsv, hM, hI⟩ := HRr.out
              have ho := HC.out.ok
              have hok : Ok (putC c k xs cost).2 := by
                rw [HPc.out, HEv.out]
                refine Ok.use (c := { c with level := lv, thrown := th, S := T }) ⟨hG, ho.room, hlv, ho.fnd, ho.mis, hth, hsT⟩ ⟨k, xs, cost, 0, 0⟩ T hG hkT ⟨by show 0 < k.size; omega, by show k.size ≤ 200; omega, by show 0 ≤ cost; omega, by show cost ≤ 1000000; omega⟩ hth.2 ?_
                show ((szS T : Int) + (szE ⟨k, xs, cost, 0, 0⟩ : Int)) ≤ c.room
                rw [hz]; omega
              have hS : (putC c k xs cost).2.S.Perm ((⟨k, xs, cost, lv + cost, c.uses + 1⟩ : En) :: T) := by
                rw [HPc.out, HEv.out]
                exact insE_perm _ T
              have hh7 : (⟨c.room, lv, c.uses + 1, (szS T : Int) + z, c.found, c.missed, th, mb⟩ : Hd) = hdOf (putC c k xs cost).2 mb := by
                rw [HPc.out, HEv.out]
                have : szS (insE ⟨k, xs, cost, lv + cost, c.uses + 1⟩ T) = szS T + z := by
                  rw [szS_insE]
                  show szE ⟨k, xs, cost, 0, 0⟩ + szS T = _
                  omega
                unfold hdOf useE
                show _ = (⟨c.room, lv, c.uses + 1, ((szS (insE ⟨k, xs, cost, lv + cost, c.uses + 1⟩ T) : Nat) : Int), c.found, c.missed, th, mb⟩ : Hd)
                rw [this]
                rfl
              have hLeft := put9 (x := ⟨gx, .slice A' n c', ⟨k, xs, cost, lv + cost, c.uses + 1⟩⟩) hX4 r hsv hM hI HB3.out hp hok hS hh7 HVx.out.2 HL3.out.1 hkT ⟨by show k.size ≤ 200; omega, by show xs.length ≤ 1073741824; rw [HX.out]; omega, by show 0 ≤ cost; omega, by show cost ≤ 1000000; omega⟩ HVx.out.1 r7 hk47 hM7 hCM hp9 hh9
              have HLf := hid_ hLeft
              have HP0 := hid_ (show (putC c k xs cost).1 = 0 by rw [HPc.out])
              clear hLeft hok hS hh7 r7 hk47 hM7 hX4 hp hG hlv hth hkT hsT r hsv hM hI ho hCM hp9 hh9
              go_wp2
              go_ret
              exact ⟨by rw [HP0.out]; rfl, HLf.out⟩
end
end Go.Proofs.Ytogedbednfbkmaa
