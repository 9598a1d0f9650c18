/- The row of entries: its methods Push, Pop. Conditions: those that each theorem names. -/
import Derived.Test.YtogedbednfbkmaaC
import Derived.Test.YtogedbednfbkmaaAp
namespace Go.Proofs.Ytogedbednfbkmaa
open Go.RowKit Go.Maps

theorem assert_ptr (g : Nat) (W : World) : (Instr.typeAssert (.iface 67 (.pointer (some ⟨g, 0, none⟩))) 20 67 false).run Try.prog W = .ok (.pointer (some ⟨g, 0, none⟩)) W := by kernel_rfl
theorem Try.info67 : (Try.prog.info? 67).map (fun i => (i.zero, i.size, i.bytes)) = some (some (.pointer none), 1, 8) := by kernel_rfl

section
variable {w w' : World} {cb : Nat} {h : Hd} {sv sv' : Value} {L : List Me}
/-- The row's slice is another one. -/
theorem RowIs.resliced {w1 : World} {x : Me} (r : RowIs w cb h sv L) (hk : Kp (fun q => q = x.g ∨ sv.ownBlock = some q) w w1) (hx : Ent w1 x L.length) (hg : x.g ∉ L.map Me.g) (hne : cb ≠ x.g)
    (hown : w1.ownsRow 0 67 1 sv' (L.length + 1) ((L.map fun m => ptr m.g) ++ [ptr x.g])) : RowIs (w1.setCell ⟨cb, 8, none⟩ sv') cb h sv' (L ++ [x]) := by
  have hcs : ∀ q, sv.ownBlock = some q → q ≠ cb ∧ ∀ m ∈ L, q ≠ m.g := fun q hq => r.own_ne hq
  have hhead : Blk w1 cb 66 (h.cells sv) := r.head.kp hk (fun x => x.elim hne (fun y => (hcs cb y).1 rfl))
  have hsb : ∀ q, sv'.ownBlock = some q → q ≠ cb := fun q hq e => own_blk_ne hown hhead (by decide) (e ▸ hq)
  refine ⟨?_, ?_, fun i hi => ?_, ?_⟩
  · exact hhead.set_ 8 sv'
  · have := own_kp hown ((Kp.refl (fun q => q = cb) w1).setCell (p := ⟨cb, 8, none⟩) (.inl rfl) sv') (fun q hq e => hsb q hq e)
    simpa using this
  · by_cases e : i < L.length
    · rw [List.getElem_append_left e]
      have h1 := (r.ents i e).kp hk (fun y => y.elim (fun z => hg (List.mem_map.2 ⟨_, List.getElem_mem e, z⟩)) (fun z => (hcs _ z).2 _ (List.getElem_mem e) rfl))
      exact h1.far (Ne.symm (r.head_ne (List.getElem_mem e))) _
    · have : i = L.length := by simp at hi; omega
      subst this
      simp only [List.getElem_concat_length]
      exact hx.far (Ne.symm hne) _
  · rw [List.map_append, List.nodup_append]
    exact ⟨r.nd, by simp, fun a ha b hb e => hg (by simp at hb; rw [hb] at e; rw [← e]; exact ha)⟩

set_option maxHeartbeats 1000000 in
set_option maxRecDepth 100000 in
theorem push_c {x : Me} {k0 : Int} (r : RowIs w cb h sv L) (hx : Ent w x k0) (hg : x.g ∉ L.map Me.g) (hL : L.length ≤ 100000) :
    Calls Try.prog 95 #[.pointer (some ⟨cb, 8, none⟩), .iface 67 (ptr x.g)] w fun e w' => e = .returned (.tuple #[]) ∧
      ∃ sv', RowIs w' cb h sv' (L ++ [x]) ∧ Kp (fun q => q = cb ∨ q = x.g ∨ sv.ownBlock = some q) w w' ∧ (∀ q, sv'.ownBlock = some q → sv.ownBlock = some q ∨ w.heap.size ≤ q) := by
  obtain ⟨i0, hi0, hz0, hz1, hz2⟩ := info_parts Try.info67
  obtain ⟨A, c, hv⟩ := r.shape
  subst hv
  have c8 : w.cell? ⟨cb, 8, none⟩ = some (.slice A L.length c) := r.head.cell 8
  have f8 := r.head.frozen 8
  have x5 := hx.cell 5
  have fx := hx.frozen 5
  have lc := r.head.lt
  have lx := hx.lt
  have hne : cb ≠ x.g := Blk.ne_ r.head hx (by decide)
  have hsx : ∀ q, (Value.slice A L.length c).ownBlock = some q → q ≠ x.g := fun q hq e => own_blk_ne r.own hx (by decide) (e ▸ hq)
  have hsc : ∀ q, (Value.slice A L.length c).ownBlock = some q → q ≠ cb := fun q hq => (r.own_ne hq).1
  have hE : Ent (w.setCell ⟨x.g, 5, none⟩ (.int .i64 L.length)) x L.length := hx.set_ 5 (.int .i64 L.length)
  have hO : (w.setCell ⟨x.g, 5, none⟩ (.int .i64 L.length)).ownsRow 0 67 1 (.slice A L.length c) L.length (L.map fun m => ptr m.g) := own_kp r.own ((Kp.refl (fun q => q = x.g) w).setCell (p := ⟨x.g, 5, none⟩) (.inl rfl) _) (fun q hq e => hsx q hq e)
  have hK : Kp (fun q => q = x.g) w (w.setCell ⟨x.g, 5, none⟩ (.int .i64 L.length)) := (Kp.refl (fun q => q = x.g) w).setCell (p := ⟨x.g, 5, none⟩) (.inl rfl) _
  have d8 : (w.setCell ⟨x.g, 5, none⟩ (.int .i64 L.length)).cell? ⟨cb, 8, none⟩ = some (.slice A L.length c) := hK.cell c8 (fun e => hne e)
  have HR := hid_ r
  have HS := hid_ (And.intro hsx hsc)
  have HE := hid_ hE
  have HO := hid_ hO
  have HK := hid_ hK
  have HM := hid_ (show L.length + 1 ≤ maxLen by unfold maxLen; omega)
  generalize hlen : L.length = len at *
  have HLen := hid_ hlen
  have hta := assert_ptr x.g
  have d8' : ((w.setCell ⟨x.g, 5, none⟩ (.int .i64 len)).alloc (.cells #[.pointer (some ⟨x.g, 0, none⟩)] 67)).cell? ⟨cb, 8, none⟩ = some (.slice A len c) := (World.cell?_alloc_past _ _ _ (by simp [World.setCell]; exact lc)).trans d8
  have f8' : ((w.setCell ⟨x.g, 5, none⟩ (.int .i64 len)).alloc (.cells #[.pointer (some ⟨x.g, 0, none⟩)] 67)).frozen? ⟨cb, 8, none⟩ = false := (World.frozen?_alloc_past _ _ _ (by simp [World.setCell]; exact lc)).trans (by go_simp)
  have HS2 := hid_ (show some cb ≠ (Value.slice A len c).ownBlock from fun e => hsc cb e.symm rfl)
  have HN := hid_ (show ∀ ad, some (⟨w.heap.size, 0, none⟩ : Addr) = some ad → ∀ j u, [ptr x.g][j]? = some u → ((w.setCell ⟨x.g, 5, none⟩ (.int .i64 len)).alloc (.cells #[.pointer (some ⟨x.g, 0, none⟩)] 67)).cell? (ad.add j) = some u from fun ad had j u hu => by
    injection had with had
    subst had
    match j, hu with
    | 0, hu =>
      injection hu with hu
      subst hu
      rw [add_at, World.cell?_alloc_at _ _ _ _ (by simp [World.setCell])]
      rfl)
  have gx : x.g = x.g := rfl
  clear r hsx hsc hE hO hK hlen hx
  unfold ptr
  go_enter Try.func95, Try.ntmps95
  go_wp2_with (first | (at_builtin; refine wpList_append_any rfl (.tmp 17) (.tmp 19) 64 rfl 0 67 i0 _ 1 8 Try.underlying64 hi0 hz0 hz1 hz2 rfl (by omega) (.slice A len c) len (L.map fun m => ptr m.g) rfl (World.ownsRow.alloc HO.out _) (some ⟨w.heap.size, 0, none⟩) 1 1 [ptr x.g] rfl rfl (fun h => by cases h) HN.out (by simp [ptr, Value.oneCell']) HM.out (by omega) (Nat.zero_le _) ?_; intro A1 c1 w1 hown1 hgrow1 hat; have k8 := hgrow1.cell (a := ⟨cb, 8, none⟩) d8' HS2.out; have k9 := (World.frozen?_of_block (a := ⟨cb, 8, none⟩) (hgrow1.block cb (by simp; omega) HS2.out)).trans f8'))
  go_returns
  have hK1 : Kp (fun q => q = x.g ∨ (Value.slice A len c).ownBlock = some q) w w1 := ((HK.out.alloc _).mono (S' := fun q => q = x.g ∨ (Value.slice A len c).ownBlock = some q) (fun q hq => .inl hq)).grown hgrow1 (fun q hq => .inl (.inr hq))
  have hE1 : Ent w1 x L.length := by
    rw [HLen.out]
    exact ((HE.out.alloc _).kp (Kp.grown (S := fun q => (Value.slice A len c).ownBlock = some q) (Kp.refl _ _) hgrow1 (fun q hq => .inl hq)) (fun q => HS.out.1 _ q rfl))
  have hR := HR.out.resliced (sv' := .slice A1 (len + 1) c1) hK1 hE1 hg hne (by rw [HLen.out]; exact hown1)
  refine ⟨rfl, _, hR, (hK1.mono (S' := fun q => q = cb ∨ q = x.g ∨ (Value.slice A len c).ownBlock = some q) (fun q hq => .inr hq)).setCell (p := ⟨cb, 8, none⟩) (.inl (.inl rfl)) _, fun q hq => (hat q hq).imp id (fun e => ?_)⟩
  simp [World.setCell] at e
  omega

/-- The row is one shorter. -/
theorem RowIs.popped {x : Me} {rg cap : Nat} (r : RowIs w cb h (.slice (some ⟨rg, 0, none⟩) (L.length + 1) cap) (L ++ [x])) : RowIs (w.setCell ⟨cb, 8, none⟩ (.slice (some ⟨rg, 0, none⟩) L.length cap)) cb h (.slice (some ⟨rg, 0, none⟩) L.length cap) L := by
  obtain ⟨n1, n2⟩ := r.own_ne (k := rg) rfl
  refine ⟨r.head.set_ 8 _, ?_, fun i hi => ?_, ?_⟩
  · have hk := (Kp.refl (fun q => q = cb) w).setCell (p := ⟨cb, 8, none⟩) (.inl rfl) (.slice (some ⟨rg, 0, none⟩) L.length cap)
    have hO := own_kp r.own hk (fun q hq e => n1 (by
      have : rg = q := by simpa [Value.ownBlock] using hq
      rw [this]; exact e))
    obtain ⟨h1, h2⟩ := hO
    refine ⟨by simp, ?_⟩
    rcases h2 with ⟨hv, _⟩ | ⟨g, cap', cur, hv, hg, hh, hn, hc, hs, ht⟩
    · cases hv
    · injection hv with q1 q2 q3
      injection q1 with q1
      injection q1 with q1
      subst q1
      refine .inr ⟨rg, cap', cur, by rw [q3], hg, hh, by simp at hn; omega, hc, hs, ?_⟩
      have hl : (L ++ [x]).length * 1 = L.length + 1 := by simp
      rw [hl] at ht
      have := congrArg (List.take L.length) ht
      rw [List.take_take] at this
      simp only [List.map_append, List.map_cons, List.map_nil] at this
      rw [show min L.length (L.length + 1) = L.length by omega, List.take_append_of_le_length (by simp)] at this
      rw [Nat.mul_one, this, List.take_of_length_le (by simp)]
  · have e : (L ++ [x])[i]'(by simp; omega) = L[i] := List.getElem_append_left hi
    have := r.ents i (by simp; omega)
    rw [e] at this
    have hne := r.head_ne (m := L[i]) (by simp)
    exact this.far (Ne.symm hne) _
  · have := r.nd
    rw [List.map_append, List.nodup_append] at this
    exact this.1

set_option maxHeartbeats 1000000 in
set_option maxRecDepth 100000 in
theorem popm_c {x : Me} (r : RowIs w cb h sv (L ++ [x])) (hL : L.length ≤ 100000) :
    Calls Try.prog 94 #[.pointer (some ⟨cb, 8, none⟩)] w fun e w' => e = .returned (.iface 67 (ptr x.g)) ∧
      ∃ sv', RowIs w' cb h sv' L ∧ Kp (fun q => q = cb) w w' ∧ sv'.ownBlock = sv.ownBlock := by
  have hl1 : L.length < (L ++ [x]).length := by simp
  obtain ⟨g, cap, hv, hg, hc⟩ := r.item hl1
  have ri := hc L.length hl1
  have ex : (L ++ [x])[L.length] = x := by simp
  rw [ex] at ri
  have hcap : L.length + 1 ≤ cap ∧ cap ≤ maxLen := by
    rcases r.own.2 with ⟨h1, _⟩ | ⟨_, cap', _, h1, _, _, h2, h3, _⟩
    · rw [h1] at hv; cases hv
    · rw [h1] at hv
      injection hv with _ _ hv
      subst hv
      exact ⟨by simpa using h2, h3⟩
  obtain ⟨hcap1, hcap2⟩ := hcap
  subst hv
  simp only [List.length_append, List.length_cons, List.length_nil, Nat.zero_add] at r
  have c8 : w.cell? ⟨cb, 8, none⟩ = some (.slice (some ⟨g, 0, none⟩) (L.length + 1) cap) := r.head.cell 8
  have f8 := r.head.frozen 8
  have HR := hid_ r.popped
  generalize hlen : L.length = len at *
  have HLen := hid_ hlen
  have HC := hid_ hcap2
  clear r hlen hc ex hl1 hcap2
  have q1 : IntKind.i64.wrap ((len : Int) + 1 - 1) = (len : Int) := by rw [show (len : Int) + 1 - 1 = len by omega]; exact IntWalk.i64_in _ (by omega)
  have q4 : IntKind.i64.wrap (len : Int) = (len : Int) := IntWalk.i64_in _ (by omega)
  have q2 : (0 : Int) ≤ (len : Int) := by omega
  have q3 : (len : Int) < (len : Int) + 1 := by omega
  have q5 : (len : Int) ≤ (cap : Int) := by omega
  unfold ptr
  go_enter Try.func94, Try.ntmps94
  go_wp2
  go_ret
  exact ⟨rfl, _, HR.out, (Kp.refl (fun q => q = cb) w).setCell (p := ⟨cb, 8, none⟩) (.inl rfl) _, rfl⟩
end
end Go.Proofs.Ytogedbednfbkmaa
