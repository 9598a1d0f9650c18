/- A heap's method Copy, by what the heap stands for. Conditions: those that each theorem names. -/
import Derived.Test.YtkoacfkglfgalaaQ
import Derived.Laws.Externs
import Derived.MapKept
namespace Go.Proofs.Ytkoacfkglfgalaa
open Go.RowKit Go.Maps

/-- A row's items in memory of their own. -/
theorem rclone_c {w : World} {base n : Nat} {sv : Value} {xs : List Value} (h : w.ownsRow base 65 2 sv n xs) (h1 : ∀ u ∈ xs, u.oneCell' = true) (hn : n ≤ 100000) :
    Calls Try.prog 43 #[sv] w fun e w' => ∃ A c, e = .returned (.slice A n c) ∧ w'.ownsRow w.heap.size 65 2 (.slice A n c) n xs ∧ Below w.heap.size w w' := by
  obtain ⟨i0, hi0, hz0, hz1, hz2⟩ := info_parts Try.info65
  have qT : ∀ (w : World) (a : Option Addr) (n c n' c' : Nat), (binOp .eql 67 (.slice a n c) (.slice none n' c')).run Try.prog w = .ok (.bool a.isNone) w := fun w a n c n' c' => Lib.run_eql_slice_nil w _ _ a n c n' c' Try.underlying67
  rcases h.2 with ⟨rfl, rfl⟩ | ⟨g, cap, cur, rfl, hg, hh, hnc, hcm, hcs, ht⟩
  · have hx : xs = [] := List.eq_nil_of_length_eq_zero (by simpa using h.1)
    subst hx
    clear h h1
    go_enter Try.func43, Try.ntmps43
    go_wp2
    go_ret
    exact ⟨none, 0, rfl, World.ownsRow_nil _ _ _ _, Below.refl _ _⟩
  · have hlt : g < w.heap.size := Blk.lt (t := 65) hh
    have hnews : ∀ j u, xs[j]? = some u → (w.alloc (.cells #[] 65)).cell? ((⟨g, 0, none⟩ : Addr).add j) = some u := fun j u hu => by
      rw [add_at, World.cell?_alloc_past _ _ _ hlt]
      exact own_cell h j u hu
    have hlen : xs.length = n * 2 := h.1
    have HN := hid_ hnews
    have H1 := hid_ h1
    have HL := hid_ hlen
    have hmx : 0 + n ≤ maxLen := by unfold maxLen; omega
    have HM := hid_ hmx
    clear h hh ht hnews h1 hlen hmx hcs hcm
    go_enter Try.func43, Try.ntmps43
    go_wp2_with (first | (at_builtin; refine wpList_append_own_at _ rfl (.tmp 5) (.tmp 6) 67 rfl w.heap.size 65 i0 _ 2 16 Try.underlying67 hi0 hz0 hz1 hz2 rfl (by omega) _ 0 [] rfl (World.ownsRow_made w #[] 0 (Nat.le_refl _) (Nat.zero_le _) (by simp)) ⟨g, 0, none⟩ n cap xs rfl HL.out HN.out H1.out HM.out (by omega) (by simp) ?_; intro v' w1 hown hgrow hnil hloc))
    simp only [Nat.zero_add, List.nil_append] at hown
    obtain ⟨A, c, hv⟩ : ∃ A c, v' = .slice A n c := by
      rcases hown.2 with ⟨hv, h0⟩ | ⟨g', cap', _, hv, _⟩
      · exact ⟨none, 0, by rw [hv, h0]⟩
      · exact ⟨_, _, hv⟩
    have hgrow2 : (w.alloc (.cells #[] 65)).grownBy w1 (some w.heap.size) := hgrow
    have hbl : Below w.heap.size w w1 := ((Below.refl _ _).alloc (Nat.le_refl _) _).grown hgrow2 (by simp) (fun k hk => by
      injection hk with hk
      omega)
    go_ret
    refine ⟨A, c, by rw [← hv]; rfl, ?_, hbl⟩
    rw [← hv]
    simpa using hown

theorem mclone_c {w : World} {b n : Nat} {D : DataW Unit} (h : MapIs w b n D) :
    Calls Try.prog 44 #[.map (some b)] w fun e w' => e = .returned (.map (some w.heap.size)) ∧ MapIs w' w.heap.size n D ∧ Below w.heap.size w w' := by
  have hlt := h.lt
  obtain ⟨es, clock, hb, F, hs, hD⟩ := h
  have hq : ∀ (w : World) (p : Option Nat), (binOp .eql 59 (.map p) (.map none)).run Try.prog w = .ok (.bool p.isNone) w := fun w p => run_eql_map_nil w _ _ _ p Try.underlying59
  have hcl : (Extern.MapsClone.clone #[.iface 59 (.map (some b))]).run Try.prog w = .ok (.iface 59 (.map (some w.heap.size))) (w.alloc (.map es clock)) := by
    have e : Extern.MapsClone.clone #[.iface 59 (.map (some b))] = (getObj b >>= fun o => match o with
        | .map entries clock => (newObj (.map entries clock) >>= fun n => pure (.iface 59 (.map (some n))))
        | _ => stuck "maps.clone: a map expected") := rfl
    rw [e]
    simp [MapKept.run_getObj_map hb, Result.andThen, go_sem]
  have hta : ∀ W, (Instr.typeAssert (.iface 59 (.map (some w.heap.size))) 20 59 false).run Try.prog W = .ok (.map (some w.heap.size)) W := fun W => by simp [Instr.typeAssert, run_underlying Try.underlying59, go_sem, Result.andThen]
  have HB := hid_ hb
  have HC := hid_ hcl
  have HD := hid_ hD
  clear hb hcl hD
  go_enter Try.func44, Try.ntmps44
  go_wp2
  rw [run_callFunc_extern Try.func55 (by kernel_rfl) (by kernel_rfl) (by kernel_rfl) (e := Extern.MapsClone.clone) (by kernel_rfl), HC.out]
  simp only [Result.andThen]
  rw [Oper.upon_value]
  go_wp2
  go_ret
  exact ⟨rfl, ⟨es, clock, (MapKept.heap_alloc w _).1, F, hs, HD.out⟩, (Below.refl _ w).alloc (Nat.le_refl _) _⟩

theorem flat_one (L : List Item) : ∀ u ∈ flat L, u.oneCell' = true := by
  intro u hu
  unfold flat at hu
  obtain ⟨p, _, hp⟩ := List.mem_flatMap.1 hu
  simp at hp
  rcases hp with rfl | rfl <;> rfl

section
variable {F : Nat → Prop} {w : World} {hb : Nat} {S : List Item}
set_option maxHeartbeats 1000000 in
theorem copy_c (h : IsH F w hb S) : Calls Try.prog 26 #[.pointer (some ⟨hb, 0, none⟩)] w fun e w' => ∃ hb', e = .returned (.pointer (some ⟨hb', 0, none⟩)) ∧ IsH (fun q => w.heap.size ≤ q) w' hb' S ∧ Below w.heap.size w w' := by
  obtain ⟨rb, mb, L, hM, hh, hp⟩ := h.body
  obtain ⟨sv, D, hR, hI, hq⟩ := hM.start
  have hlen := hM.good.len
  have H0 := hid_ (none_some hb _ _ w ⟨rb, 0, none⟩ rfl hR.head)
  have H1 := hid_ (hnew_c w)
  have HA := hid_ (And.intro hh (And.intro hp (And.intro h.srt hM.good)))
  have HI := hid_ hI
  have HR := hid_ hR
  clear h hM hh hp hI hq hR
  go_enter Try.func26, Try.ntmps26
  go_wp2_with fail
  refine H0.out.mono ?_
  rintro e w' ⟨rfl, rfl⟩
  go_wp2_with fail
  refine H1.out.mono ?_
  rintro e w1 ⟨hb1, rfl, hN, hbel⟩
  have HB := hid_ hbel
  obtain ⟨rb1, mb1, L1, hM1, hh1, hp1⟩ := hN.body
  obtain ⟨sv1, D1, hR1, hI1, hq1⟩ := hM1.start
  have f1 := hM1.fh
  have f2 := hM1.fr
  have R1 := HR.out.below hbel
  have z0 := hR1.head.cell 0
  have z1 := hR1.head.cell 1
  have z2 := hR1.row.cell 0
  have y0 := R1.head.cell 0
  have y1 := R1.head.cell 1
  have y2 := R1.row.cell 0
  have HR1 := hid_ hR1
  have HQ1 := hid_ hq1
  have HR2 := hid_ R1
  have fr0 := hR1.row.frozen 0
  have fh1 := hR1.head.frozen 1
  have lr1 := hR1.row.lt
  have lh1 := hR1.head.lt
  have lh := HR.out.head.lt
  have lr := HR.out.row.lt
  have n1 : hb1 ≠ rb1 := hR1.head.ne_ hR1.row (by decide)
  have n2 : hb ≠ rb1 := by omega
  have n3 : rb ≠ rb1 := by omega
  have n4 : hb ≠ hb1 := by omega
  have n5 : rb ≠ hb1 := by omega
  clear hbel hN hM1 hh1 hp1 hI1 hR1 R1 hq1
  go_wp2
  go_region_held3 (fun W => W.cell? ⟨hb1, 0, none⟩ = some (.pointer (some ⟨rb1, 0, none⟩)) ∧ W.cell? ⟨hb, 0, none⟩ = some (.pointer (some ⟨rb, 0, none⟩)) ∧ W.cell? ⟨hb, 1, none⟩ = some (.map (some mb)) ∧ W.cell? ⟨rb, 0, none⟩ = some sv)
    ((repeat' apply And.intro) <;> first | (go_keep; done) | (go_simp; done))
    (first
      | (go_at_call 43; refine (rclone_c HR2.out.drew.own (flat_one L) (by omega)).mono ?_; (rintro e w2 ⟨A, c, rfl, hown, hbl⟩; have r0 := below_cell hbl z0; have r1 := below_cell hbl y0; have r2 := below_cell hbl y1; have r3 := below_cell hbl y2))
      | (go_at_call 44; refine (mclone_c (HR2.out.drew.below hbl).map).mono ?_; (rintro e w3 ⟨rfl, hmap, hbl3⟩; have s0 := below_cell hbl3 r0; have s1 := below_cell hbl3 r1; have s2 := below_cell hbl3 r2; have s3 := below_cell hbl3 r3; have s4 := below_cell hbl3 (below_cell hbl z2); have s5 := below_cell hbl3 (below_cell hbl z1); have g0 := (hbl3.frozen (p := ⟨rb1, 0, none⟩) (Nat.lt_of_lt_of_le lr1 hbl.size)).trans ((hbl.frozen (p := ⟨rb1, 0, none⟩) lr1).trans fr0); have g1 := (hbl3.frozen (p := ⟨hb1, 1, none⟩) (Nat.lt_of_lt_of_le lh1 hbl.size)).trans ((hbl.frozen (p := ⟨hb1, 1, none⟩) lh1).trans fh1))))
  have HO := hid_ hown
  have HMp := hid_ hmap
  have HB2 := hid_ hbl
  have HB3 := hid_ hbl3
  clear hown hmap hbl hbl3 r0 r1 r2 r3 s0 s1 s2 s3 s4 s5 g0 g1
  go_wp2
  go_ret
  have b1 := HB.out
  have b2 : Below w1.heap.size w1 w2 := (Below.refl _ w1).drew.trans HB2.out
  have b3 := HB3.out
  obtain ⟨hh, hp, hs, hg⟩ := HA.out
  have hR1 := HR1.out
  have hR3 := (hR1.below b2).below b3
  have sz1 := b1.size
  have sz2 := b2.size
  have hob : ∀ q, (Value.slice A L.length c).ownBlock = some q → w1.heap.size ≤ q := fun q hq => (HO.out.lt q hq).1
  have hq1 : w1.heap.size ≤ w2.heap.size := b2.size
  have hk : Kp (fun q => w.heap.size ≤ q) w ((w3.setCell ⟨rb1, 0, none⟩ (.slice A L.length c)).setCell ⟨hb1, 1, none⟩ (.map (some w2.heap.size))) :=
    (((Kp.of_below b1 (fun q => w.heap.size ≤ q)).below b2).below b3 |>.setCell (p := ⟨rb1, 0, none⟩) (.inl f2) _).setCell (p := ⟨hb1, 1, none⟩) (.inl f1) _
  refine ⟨hb1, rfl, ⟨hs, rb1, w2.heap.size, L, ⟨hg, Kp.refl _ _, f1, f2, by omega, .slice A L.length c, D, ⟨?_, ?_, ?_, ?_⟩, HI.out, fun q hq => .inl (by have := hob q hq; omega)⟩, hh, hp⟩, hk.toBelow (Nat.le_refl _) (fun k hk h => by omega)⟩
  · have := (hR3.head.far (p := ⟨rb1, 0, none⟩) n1 (.slice A L.length c)).set_ 1 (.map (some w2.heap.size))
    simpa using this
  · have := (hR3.row.set_ 0 (.slice A L.length c)).far (p := ⟨hb1, 1, none⟩) (Ne.symm n1) (.map (some w2.heap.size))
    simpa using this
  · have h0 : w3.ownsRow 0 65 2 (.slice A L.length c) L.length (flat L) := by
      have := own_kp HO.out (Kp.of_below b3 fun _ => False) (fun _ _ => id)
      obtain ⟨k1, k2⟩ := this
      refine ⟨k1, k2.imp id (fun ⟨g, cap, cur, e1, e2, e3⟩ => ⟨g, cap, cur, e1, Nat.zero_le _, e3⟩)⟩
    exact own_kp h0 (((Kp.refl (fun q => q = rb1 ∨ q = hb1) w3).setCell (p := ⟨rb1, 0, none⟩) (.inl (.inl rfl)) _).setCell (p := ⟨hb1, 1, none⟩) (.inl (.inr rfl)) _) (fun q hq e => by
      have := hob q hq
      have h1 := hR1.head.lt
      have h2 := hR1.row.lt
      omega)
  · have h1 := hR1.head.lt
    have h2 := hR1.row.lt
    exact (HMp.out.setCell (a := ⟨rb1, 0, none⟩) (by simp; omega) _).setCell (a := ⟨hb1, 1, none⟩) (by simp; omega) _
end
end Go.Proofs.Ytkoacfkglfgalaa
