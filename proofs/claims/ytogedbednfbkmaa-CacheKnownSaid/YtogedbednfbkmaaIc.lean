/- The reference cache: its function use. Conditions: those that each theorem names. -/
import Derived.Test.YtogedbednfbkmaaIb
import Derived.Deep.DeepCutAuto
import Derived.Deep.CutBlock
import Derived.Deep.DrawnRows
namespace Go.Proofs.Ytogedbednfbkmaa
open Go.RowKit Go.Maps
attribute [local go_sem ↓] Go.wp_at_zero Go.wp_at_succ

def cellsR (c : Cs) (s : Value) : Array Value := #[.int .i64 c.room, .int .i64 c.level, .int .i64 c.uses, .int .i64 c.found, .int .i64 c.missed, .int .i64 c.thrown, s]
section
variable {X : Nat → Prop} {w w' W : World} {mb : Nat} {c c2 : Cs}
theorem Rm.fields (h : Rm X w mb c) (hS : c2.S = c.S) (hk : Kp (fun q => q = mb) w W) (hB : ∀ s, Blk w mb 57 (cellsR c s) → Blk W mb 57 (cellsR c2 s)) : Rm X W mb c2 := by
  obtain ⟨L, A, cap, h1, hBw, hown, hq, hv⟩ := h.body
  exact ⟨h.fm, L, A, cap, h1.trans hS.symm, hB _ hBw, own_kp hown hk (fun k hk2 e => (hq k hk2).2 e), hq, fun p hp => (hv p hp).kp hk (fun _ cs _ hb e => hBw.ne_ hb (by decide) e.symm)⟩
theorem RmLeft.then_ {w1 : World} (h : RmLeft X w mb c w1) (l : RmLeft (fun q => X q ∨ w.heap.size ≤ q) w1 mb c2 w') : RmLeft X w mb c2 w' :=
  ⟨l.rm.mono (fun _ hq _ => hq.elim id (fun x => .inr (Nat.le_trans h.kp.size x))), h.kp.trans l.kp (fun _ hq => .inl hq)⟩
theorem Rm.here (h : Rm X w mb c) : RmLeft X w mb c w := ⟨h.mono fun _ hq _ => .inl hq, Kp.refl _ _⟩
theorem RmLeft.below {w1 : World} (h : RmLeft X w mb c w1) (hb : Below w1.heap.size w1 w') : RmLeft X w mb c w' :=
  ⟨h.rm.below hb, h.kp.below hb⟩
end

/-- What holds where the new entry lies at xb. -/
structure UseS (X : Nat → Prop) (w : World) (mb : Nat) (c : Cs) (e : En) (A' : Option Addr) (c' : Nat) (W : World) (xb : Nat) : Prop where
  rm : Rm X W mb { c with uses := c.uses + 1 }
  blk : Blk W xb 85 #[.string e.key, .slice A' e.val.length c', .int .i64 e.cost, .int .i64 (c.level + e.cost), .int .i64 (c.uses + 1)]
  kp : Kp (fun q => q = mb) w W
  lo : w.heap.size ≤ xb
  val : Vl X W (.slice A' e.val.length c') e.val
  lt : mb < w.heap.size
theorem use_end {X : Nat → Prop} {w W2 wc w3 : World} {mb xb k c3 c' : Nat} {c : Cs} {e : En} {S' : List En} {L' : List Lf} {A3 A' : Option Addr} {xs : List Value} (US : UseS X w mb c e A' c' W2 xb) (hb : Below W2.heap.size W2 wc) (hb3 : Below wc.heap.size wc w3)
    (hown : w3.ownsRow wc.heap.size 85 5 (.slice A3 k c3) k xs) (hk : k = L'.length) (hx : xs = flat5 L') (hS : L'.map Prod.snd = S') (hv : ∀ p ∈ L', Vl X W2 p.1 p.2.val) : RmLeft X w mb { c with uses := c.uses + 1, S := S' } (w3.setCell ⟨mb, 6, none⟩ (.slice A3 k c3)) := by
  subst hk hx hS
  have h2 := US.kp.size
  have h3 := hb.size
  have h4 := US.lt
  obtain ⟨L, A, cp, _, hB, _, _, _⟩ := US.rm.body
  have hB3 := (hB.kp (Kp.of_below hb fun _ => False) (fun h => h)).kp (Kp.of_below hb3 fun _ => False) (fun h => h)
  have BM := hB3.set_ 6 (Value.slice A3 L'.length c3)
  have K3 : Kp (fun q => q = mb) w3 (w3.setCell ⟨mb, 6, none⟩ (.slice A3 L'.length c3)) := (Kp.refl (fun q => q = mb) _).setCell (p := ⟨mb, 6, none⟩) (.inl rfl) _
  refine ⟨⟨.inl US.rm.fm, L', A3, c3, rfl, by simpa using BM, ?_, fun q hq => ?_, fun p hp => ?_⟩, ?_⟩
  · exact own_kp (ownsRow_base hown (Nat.zero_le _)) K3 (fun k hk e => by have := own_base hown hk; omega)
  · have := own_base hown hq
    exact ⟨.inr (by omega), by omega⟩
  · exact ((((hv p hp).kp (Kp.of_below hb fun _ => False) (fun _ _ _ _ x => x)).kp (Kp.of_below hb3 fun _ => False) (fun _ _ _ _ x => x)).kp K3 (fun q cs _ hb e => hB3.ne_ hb (by decide) e.symm)).mono (fun q hq _ => .inl hq)
  · exact ((US.kp.below hb).below hb3).trans K3 (fun _ hq => .inl hq)

/-- Where a new entry goes. -/
theorem insE_at {x : En} : ∀ {S : List En} {i : Nat}, i ≤ S.length → (∀ j (hj : j < S.length), j < i → ltE S[j] x = true) → (∀ hi : i < S.length, ltE S[i] x = false) → insE x S = S.take i ++ x :: S.drop i
  | [], 0, _, _, _ => rfl
  | [], i + 1, h, _, _ => by simp at h
  | y :: S, 0, _, _, h => by
    have := h (by simp)
    simp only [List.getElem_cons_zero] at this
    simp [insE, this]
  | y :: S, i + 1, hi, ha, hs => by
    have h0 := ha 0 (by simp) (by omega)
    simp only [List.getElem_cons_zero] at h0
    have := insE_at (x := x) (S := S) (i := i) (by simpa using hi) (fun j hj hji => by have := ha (j + 1) (by simpa using hj) (by omega); simpa using this) (fun h => by have := hs (by simpa using h); simpa using this)
    simp [insE, h0, this]
theorem alloc_le (w : World) (o : Obj) : w.heap.size ≤ (w.alloc o).heap.size := by simp
theorem src_noneA {A : Option Addr} {f : Addr → Addr} {c i n : Nat} (hA : A = none → n = 0 ∧ c = 0) : (if c = i then A else A.map f) = none → n - i = 0 ∧ c - i = 0 := by
  intro h
  split at h
  · have := hA h; omega
  · have := hA (by simpa using h); omega
theorem src5_takeA {w W' : World} {A : Option Addr} {n c i : Nat} {L : List Lf} (hown : w.ownsRow 0 85 5 (.slice A n c) n (flat5 L)) (hA : ∀ ad, A = some ad → ∃ g : Nat, ad = ⟨g, 0, none⟩) (hb : Below w.heap.size w W') :
    ∀ ad, A = some ad → ∀ j u, (flat5 (L.take i))[j]? = some u → W'.cell? (ad.add j) = some u := by
  intro ad had
  obtain ⟨g, rfl⟩ := hA ad had
  subst had
  exact src5_take hown hb _ rfl
theorem src5_dropA {w W' : World} {A : Option Addr} {n c k : Nat} {L : List Lf} (hown : w.ownsRow 0 85 5 (.slice A n c) n (flat5 L)) (hA : ∀ ad, A = some ad → ∃ g : Nat, ad = ⟨g, 0, none⟩) (hb : Below w.heap.size w W') (hk : k ≤ n) (hc : n ≤ c) :
    ∀ ad, (if c = k then A else A.map (fun x => x.add (k * 5))) = some ad → ∀ j u, (flat5 (L.drop k))[j]? = some u → W'.cell? (ad.add j) = some u := by
  intro ad had
  cases A with
  | none => split at had <;> simp at had
  | some a =>
    obtain ⟨g, rfl⟩ := hA a rfl
    refine src5_drop hown hb hk hc ad ?_
    rw [← had]
    split
    · rfl
    · simp [Addr.add]

set_option maxHeartbeats 8000000 in
set_option maxRecDepth 100000 in
theorem ruse_c {X : Nat → Prop} {w : World} {mb : Nat} {c : Cs} (h : Rm X w mb c) {e : En} {A' : Option Addr} {c' : Nat} (hval : Vl X w (.slice A' e.val.length c') e.val) (wo us : Int) (hS : c.S.length ≤ 900) (hu : ∀ y ∈ c.S, y.used ≤ c.uses) (b1 : 0 ≤ c.uses ∧ c.uses ≤ 1000000) (b2 : 0 ≤ c.level ∧ c.level ≤ 1000000000000000) (b3 : 0 ≤ e.cost ∧ e.cost ≤ 1000000) :
    Calls Try.prog 57 #[.pointer (some ⟨mb, 0, none⟩), .agg #[.string e.key, .slice A' e.val.length c', .int .i64 e.cost, .int .i64 wo, .int .i64 us]] w fun e1 w' => e1 = .returned (.tuple #[]) ∧ RmLeft X w mb (useE c e c.S) w' := by
  obtain ⟨i0, hi0, hz0, hz1, hz2⟩ := info_parts Try.info85
  have HH := hid_ h
  have HVal := hid_ hval
  have HU := hid_ hu
  have HE := hid_ (show useE c e c.S = { c with uses := c.uses + 1, S := insE { e with worth := c.level + e.cost, used := c.uses + 1 } c.S } from rfl)
  have hlt := h.lt
  have cc1 : w.cell? ⟨mb, 1, none⟩ = some (.int .i64 c.level) := by obtain ⟨L, A, cap, _, hB, _⟩ := h.body; exact hB.cell 1
  have cc2 : w.cell? ⟨mb, 2, none⟩ = some (.int .i64 c.uses) := by obtain ⟨L, A, cap, _, hB, _⟩ := h.body; exact hB.cell 2
  have ff2 : w.frozen? ⟨mb, 2, none⟩ = false := by obtain ⟨L, A, cap, _, hB, _⟩ := h.body; exact hB.frozen 2
  clear h hval hu
  obtain ⟨u1, u2⟩ := b1
  obtain ⟨l1, l2⟩ := b2
  obtain ⟨c1, c2⟩ := b3
  have q1 : IntKind.i64.wrap (c.uses + 1) = c.uses + 1 := IntWalk.i64_in _ (by omega)
  have q2 : IntKind.i64.wrap (c.level + e.cost) = c.level + e.cost := IntWalk.i64_in _ (by omega)
  go_enter Try.func57, Try.ntmps57
  go_upto_region 4 with (fail)
  go_cut [3] (fun s3 wx => ∃ xb : Nat, s3 = .pointer (some ⟨xb, 0, none⟩) ∧ UseS X w mb c e A' c' wx xb)
  case first =>
    go_wp2
    go_region
    all_goals
      go_wp2
      go_meet
      refine ⟨w.heap.size, rfl, ?_⟩
      have K0 : Kp (fun q => q = mb) w (w.setCell ⟨mb, 2, none⟩ (.int .i64 (c.uses + 1))) := (Kp.refl (fun q => q = mb) _).setCell (p := ⟨mb, 2, none⟩) (.inl rfl) _
      have K1 := (K0.alloc (Obj.cells #[Value.string e.key, Value.slice A' e.val.length c', Value.int IntKind.i64 e.cost, Value.int IntKind.i64 (c.level + e.cost), Value.int IntKind.i64 (c.uses + 1)] 85)).drew
      have hs : (w.setCell ⟨mb, 2, none⟩ (.int .i64 (c.uses + 1))).heap.size = w.heap.size := by simp
      obtain ⟨L, A, cap, _, hB0, _⟩ := HH.out.body
      refine ⟨HH.out.fields rfl K1 (fun s hB => ?_), ?_, K1, Nat.le_refl _, ?_, hlt⟩
      · exact (((hB.set_ 2 (.int .i64 (c.uses + 1))).alloc (Obj.cells #[Value.string e.key, Value.slice A' e.val.length c', Value.int IntKind.i64 e.cost, Value.int IntKind.i64 (c.level + e.cost), Value.int IntKind.i64 (c.uses + 1)] 85)).drew : Blk _ mb 57 (cellsR { c with uses := c.uses + 1 } s))
      · have := (Blk.new (w.setCell ⟨mb, 2, none⟩ (.int .i64 (c.uses + 1))) 85 #[Value.string e.key, Value.slice A' e.val.length c', Value.int IntKind.i64 e.cost, Value.int IntKind.i64 (c.level + e.cost), Value.int IntKind.i64 (c.uses + 1)]).drew
        rw [hs] at this
        exact this
      · exact HVal.out.kp K1 (fun _ cs _ hb e => hB0.ne_ hb (by decide) e.symm)
  case rest =>
    obtain ⟨xb, rfl, hUS⟩ := hcut
    have US := hid_ hUS
    clear hUS cc1 cc2 ff2
    generalize hW2 : wc = W2 at *
    clear hW2
    obtain ⟨L, A, cap, h1, hB, hown, hq, hv⟩ := US.out.rm.body
    have hl : L.length = c.S.length := by rw [← show L.map Prod.snd = c.S from h1, List.length_map]
    have H1 := hid_ (show L.map Prod.snd = c.S from h1)
    have HOwn := hid_ hown
    have HV := hid_ hv
    have cL : W2.cell? ⟨mb, 6, none⟩ = some (.slice A L.length cap) := hB.cell 6
    have f0 := hB.frozen 6
    have lt0 := hB.lt
    have x0 : W2.cell? ⟨xb, 0, none⟩ = some (.string e.key) := US.out.blk.cell 0
    have x1 : W2.cell? ⟨xb, 1, none⟩ = some (.slice A' e.val.length c') := US.out.blk.cell 1
    have x2 : W2.cell? ⟨xb, 2, none⟩ = some (.int .i64 e.cost) := US.out.blk.cell 2
    have x3 : W2.cell? ⟨xb, 3, none⟩ = some (.int .i64 (c.level + e.cost)) := US.out.blk.cell 3
    have x4 : W2.cell? ⟨xb, 4, none⟩ = some (.int .i64 (c.uses + 1)) := US.out.blk.cell 4
    obtain ⟨hA1, hA2, hA3, hA4, hA5⟩ := own_parts hown
    generalize hn : L.length = n at *
    have HN := hid_ hn
    have HLn := hid_ hl
    have hn9 : n ≤ 900 := by omega
    have HA1 := hid_ hA1
    have HA4 := hid_ hA4
    have HA5 := hid_ hA5
    clear h1 hB hown hq hv hn hl hA1 hA4 hA5 hS
    go_upto_block 0 with fail
    go_cut [4] (fun s4 wx => ∃ i nd : Nat, s4 = .int .i64 i ∧ i ≤ n ∧ wx = W2.drewN nd ∧ (∀ j (hj : j < L.length), j < i → ltE L[j].2 { e with worth := c.level + e.cost, used := c.uses + 1 } = true) ∧ (∀ hi : i < L.length, ltE L[i].2 { e with worth := c.level + e.cost, used := c.uses + 1 } = false))
    case first =>
      go_wp2_with fail
      go_loopw [4] (fun v wr => ∃ i nd : Nat, v = .int .i64 i ∧ i ≤ n ∧ wr = W2.drewN nd ∧ ∀ j (hj : j < L.length), j < i → ltE L[j].2 { e with worth := c.level + e.cost, used := c.uses + 1 } = true) (fun v _ => n - (intOf v).toNat)
      case atStart => exact ⟨0, 0, rfl, by omega, rfl, fun _ _ h => by omega⟩
      case round =>
        obtain ⟨i, nd, rfl, hi, rfl, hall⟩ := hrel
        have HAll := hid_ hall
        clear hall
        have cL' : (W2.drewN nd).cell? ⟨mb, 6, none⟩ = some (.slice A n cap) := cL
        by_cases hlt : i < n
        · have hiL : i < L.length := by rw [HN.out]; exact hlt
          have hown := HOwn.out
          rw [← HN.out] at hown
          obtain ⟨g, hg, hcx⟩ := own5 hown (by omega)
          obtain ⟨_, _, _, y3, _⟩ := hcx i hiL
          subst hg
          have y3' : (W2.drewN nd).cell? ⟨g, i * 5 + 3, none⟩ = some (.int .i64 L[i].2.worth) := y3
          have x3' : (W2.drewN nd).cell? ⟨xb, 3, none⟩ = some (.int .i64 (c.level + e.cost)) := x3
          have b0 : (0 : Int) ≤ (i : Int) := by omega
          have b1 : (i : Int) < (n : Int) := by omega
          have HUi := hid_ (show L[i].2.used ≤ c.uses from HU.out _ (by rw [← H1.out]; exact List.mem_map.2 ⟨_, List.getElem_mem hiL, rfl⟩))
          have HUn := hid_ (show ltE L[i].2 { e with worth := c.level + e.cost, used := c.uses + 1 } = decide (L[i].2.worth ≤ c.level + e.cost) by
            have := HUi.out
            simp only [ltE, decide_eq_decide]
            omega)
          clear hcx hown
          generalize L[i].2.worth = yw at *
          by_cases hle : yw ≤ c.level + e.cost
          · have HLe := hid_ hle
            go_wp2_with fail
            go_quiet (fail)
            go_wp2
            go_roundw
            case rel => exact ⟨i + 1, nd + nq, by go_num, by omega, (by first | rfl | exact drewN_two _ _ _), fun j hj hji => by
              by_cases e1 : j = i
              · subst e1; rw [HUn.out]; exact decide_eq_true HLe.out
              · exact HAll.out j hj (by omega)⟩
            case measure => simp [intOf]; omega
          · have HLe := hid_ hle
            go_wp2_with fail
            go_quiet (fail)
            go_wp2
            go_meet
            exact ⟨i, nd + nq, rfl, hi, (by first | rfl | exact drewN_two _ _ _), HAll.out, fun _ => by rw [HUn.out]; exact decide_eq_false (by have := HLe.out; omega)⟩
        · have b1 : ¬ (i : Int) < (n : Int) := by omega
          have b2 : decide ((i : Int) < (n : Int)) = false := decide_eq_false b1
          go_wp2
          go_quiet (fail)
          go_wp2
          go_meet
          exact ⟨i, nd + nq, rfl, hi, (by first | rfl | exact drewN_two _ _ _), HAll.out, fun h => absurd h (by rw [HN.out]; exact hlt)⟩
    case rest =>
      obtain ⟨i, nd, rfl, hi, rfl, hall, hstop⟩ := hcut
      have hb : Below W2.heap.size W2 (W2.drewN nd) := ⟨rfl, rfl, rfl, Nat.le_refl _, fun _ _ => rfl⟩
      have HB := hid_ hb
      have HI := hid_ (show insE { e with worth := c.level + e.cost, used := c.uses + 1 } c.S = (L.take i ++ ((.slice A' e.val.length c', { e with worth := c.level + e.cost, used := c.uses + 1 }) : Lf) :: L.drop i).map Prod.snd by
        rw [← H1.out, insE_at (i := i) (by rw [List.length_map, HN.out]; exact hi) (fun j hj hji => by
            have := hall j (by simpa using hj) hji
            simpa using this) (fun h => by
            have := hstop (by simpa using h)
            simpa using this), List.map_append, List.map_cons, List.map_take, List.map_drop])
      have HVN := hid_ (show ∀ p ∈ (L.take i ++ ((.slice A' e.val.length c', { e with worth := c.level + e.cost, used := c.uses + 1 }) : Lf) :: L.drop i), Vl X W2 p.1 p.2.val from fun p hp => by
        rw [List.mem_append, List.mem_cons] at hp
        rcases hp with hp | rfl | hp
        · exact HV.out p (List.mem_of_mem_take hp)
        · exact US.out.val
        · exact HV.out p (List.mem_of_mem_drop hp))
      have HOne := hid_ (fun p hp => (HV.out p hp).one : ∀ p ∈ L, p.1.oneCell' = true)
      clear hall hstop hb
      have HOw2 := hid_ (own_kp HOwn.out ((Kp.refl (fun _ => False) W2).drewN nd) (fun _ _ h => h))
      have c0 : (W2.drewN nd).cell? ⟨mb, 6, none⟩ = some (.slice A n cap) := cL
      have g0 : (W2.drewN nd).frozen? ⟨mb, 6, none⟩ = false := f0
      have lt1 : mb < (W2.drewN nd).heap.size := lt0
      have ltx : xb < (W2.drewN nd).heap.size := US.out.blk.lt
      have nmx : mb ≠ xb := by have := US.out.lo; have := US.out.lt; omega
      have y0 : (W2.drewN nd).cell? ⟨xb, 0, none⟩ = some (.string e.key) := x0
      have y1 : (W2.drewN nd).cell? ⟨xb, 1, none⟩ = some (.slice A' e.val.length c') := x1
      have y2 : (W2.drewN nd).cell? ⟨xb, 2, none⟩ = some (.int .i64 e.cost) := x2
      have y3 : (W2.drewN nd).cell? ⟨xb, 3, none⟩ = some (.int .i64 (c.level + e.cost)) := x3
      have y4 : (W2.drewN nd).cell? ⟨xb, 4, none⟩ = some (.int .i64 (c.uses + 1)) := x4
      clear cL f0 lt0 x0 x1 x2 x3 x4
      generalize W2.drewN nd = wc at *
      generalize e.val.length = evl at *
      generalize hew : c.level + e.cost = ew at *
      generalize heu : c.uses + 1 = eu at *
      have HL1 := hid_ (show (flat5 (L.take i)).length = i * 5 by rw [flat5_length, List.length_take, HN.out]; omega)
      have HL2 := hid_ (show (flat5 (L.drop i)).length = (n - i) * 5 by rw [flat5_length, List.length_drop, HN.out])
      have hi64 : (0 : Int) ≤ (i : Int) := by omega
      have hn2 : (i : Int) ≤ (n : Int) := by omega
      have HM1 := hid_ (show 0 + i ≤ maxLen by unfold maxLen; omega)
      have HM2 := hid_ (show i + 1 ≤ maxLen by unfold maxLen; omega)
      have HM3 := hid_ (show i + 1 + (n - i) ≤ maxLen by unfold maxLen; omega)
      have ne0 := World.new_ne wc ⟨mb, 6, none⟩ c0
      have hnc2 : (n : Int) ≤ (cap : Int) := by omega
      have hic : (i : Int) ≤ (cap : Int) := by omega
      have k0a : (wc.drew.alloc (.cells #[.string e.key, .slice A' evl c', .int .i64 e.cost, .int .i64 ew, .int .i64 eu] 85)).cell? ⟨mb, 6, none⟩ = some (.slice A n cap) := (World.cell?_alloc_past _ _ _ lt1).trans c0
      go_wp2
      go_region_law (first
          | (refine step_append_any (by rfl) (.tmp 50) (.tmp 56) 55 (by rfl) wc.heap.size 85 i0 _ 5 64 (by kernel_rfl) hi0 hz0 hz1 hz2 rfl (by omega) (.slice none 0 0) 0 [] (by rfl) (World.ownsRow_nil _ _ _ _) A i cap (flat5 (L.take i)) (by rfl) HL1.out (fun h => (by have := HA1.out h; omega)) (by first | exact src5_takeA HOw2.out HA4.out (Below.refl _ _).drew | exact src5_takeA HOw2.out HA4.out ((Below.refl _ _).drew.alloc (Nat.le_refl _) _)) (one5_take HOne.out _) HM1.out (by omega) (by first | exact Nat.le_refl _ | exact alloc_le _ _) ?_; intro A1 c1 w1 hown1 hgrow1 hat1; clear hat1; simp only [Nat.zero_add, List.nil_append] at hown1; have HB1 := hid_ (by first | exact ((Below.refl wc.heap.size wc).drew).grown hgrow1 (Nat.le_refl _) (fun k hk => (by simp [Value.ownBlock] at hk)) | exact (((Below.refl wc.heap.size wc).drew).alloc (Nat.le_refl _) _).grown hgrow1 (alloc_le _ _) (fun k hk => (by simp [Value.ownBlock] at hk)) : Below wc.heap.size wc w1); have k1 := below_cell HB1.out c0; have k1a : (w1.alloc (.cells #[.string e.key, .slice A' evl c', .int .i64 e.cost, .int .i64 ew, .int .i64 eu] 85)).cell? ⟨mb, 6, none⟩ = some (.slice A n cap) := (World.cell?_alloc_past _ _ _ (World.block_lt_of_cell? w1 _ k1)).trans k1; have z0 := below_cell HB1.out y0; have z1 := below_cell HB1.out y1; have z2 := below_cell HB1.out y2; have z3 := below_cell HB1.out y3; have z4 := below_cell HB1.out y4)
          | (refine step_append_any (by rfl) (.tmp 57) (.tmp 59) 55 (by rfl) wc.heap.size 85 i0 _ 5 64 (by kernel_rfl) hi0 hz0 hz1 hz2 rfl (by omega) (.slice A1 i c1) i _ (by rfl) (by first | exact hown1 | exact hown1.alloc _) _ 1 1 [.string e.key, .slice A' evl c', .int .i64 e.cost, .int .i64 ew, .int .i64 eu] (by rfl) (by rfl) some_none (by intro ad had; injection had with had; subst had; first | exact World.news_of_block (heap_alloc_new _ _) | exact World.news_of_block ((hgrow1.block _ (by simp) (by simp [Value.ownBlock])).trans (heap_alloc_new _ _))) (by simp [Value.oneCell']) HM2.out (by omega) (by first | exact HB1.out.size | exact Nat.le_trans HB1.out.size (alloc_le _ _)) ?_; intro A2 c2 w2 hown2 hgrow2 hat2; clear hat2; have HB2 := hid_ (by first | exact HB1.out.grown hgrow2 HB1.out.size (fun k hk => own_base hown1 hk) | exact (HB1.out.alloc HB1.out.size _).grown hgrow2 (Nat.le_trans HB1.out.size (alloc_le _ _)) (fun k hk => own_base hown1 hk) : Below wc.heap.size wc w2); have k2 := below_cell HB2.out c0)
          | (refine step_append_any (by rfl) (.tmp 60) (.tmp 66) 55 (by rfl) wc.heap.size 85 i0 _ 5 64 (by kernel_rfl) hi0 hz0 hz1 hz2 rfl (by omega) (.slice A2 (i + 1) c2) (i + 1) _ (by rfl) hown2 _ (n - i) _ (flat5 (L.drop i)) (by rfl) HL2.out (src_noneA HA1.out) (src5_dropA HOw2.out HA4.out HB2.out hi hA2) (one5_drop HOne.out _) HM3.out (by omega) HB2.out.size ?_; intro A3 c3 w3 hown3 hgrow3 hat3; clear hat3; have HB3 := hid_ (HB2.out.grown hgrow3 HB2.out.size (fun k hk => own_base hown2 hk) : Below wc.heap.size wc w3); have k3 := below_cell HB3.out c0; have k4 := (HB3.out.frozen (p := ⟨mb, 6, none⟩) lt1).trans g0))
      all_goals
        have HEnd := hid_ (use_end (S' := insE { e with worth := ew, used := eu } c.S) US.out HB.out HB3.out hown3 (by rw [List.length_append, List.length_cons, List.length_take, List.length_drop, HN.out]; omega) (by rw [flat5_append, flat5_cons]; simp [List.append_assoc, cell5]) HI.out.symm HVN.out)
        clear hown1 hown2 hown3 hgrow1 hgrow2 hgrow3
        go_wp2_with fail
        all_goals
          first | go_end0 | (go_wp2; go_returns) | go_returns
          subst hew heu
          exact ⟨rfl, HEnd.out⟩
end Go.Proofs.Ytogedbednfbkmaa
