/- A cache by what it stands for: Keys. Conditions: those that each theorem names. -/
import Derived.Test.YtogedbednfbkmaaY
namespace Go.Proofs.Ytogedbednfbkmaa
open Go.RowKit Go.Maps

theorem Try.info9 : (Try.prog.info? 9).map (fun i => (i.zero, i.size, i.bytes)) = some (some (.string ⟨#[]⟩), 1, 16) := by kernel_rfl
def keysC (c : Cs) : List ByteArray := c.S.map En.key
section
variable {F : Nat → Prop} {w w' : World} {cb : Nat} {c : Cs}
set_option maxHeartbeats 4000000 in
set_option maxRecDepth 100000 in
theorem keys_c (hC : IsC F w cb c) : Calls Try.prog 19 #[.pointer (some ⟨cb, 0, none⟩)] w fun e w' => ∃ A c', e = .returned (.slice A c.S.length c') ∧ w'.ownsRow w.heap.size 9 1 (.slice A c.S.length c') c.S.length ((keysC c).map .string) ∧ Below w.heap.size w w' := by
  obtain ⟨i0, hi0, hz0, hz1, hz2⟩ := info_parts Try.info9
  obtain ⟨mb, L, hX, hp⟩ := hC.body
  obtain ⟨sv, D, r, hsv, hM, hI⟩ := hX.body
  have hlen := hX.len
  have hL : L.length = c.S.length := by rw [← hp.length_eq, List.length_map]
  have H0 := hid_ (none_c cb _ sv r.head)
  have c8 : w.cell? ⟨cb, 8, none⟩ = some sv := r.head.cell 8
  have HCl := hid_ (rclone_c r.own (ptrs_one L) hlen)
  have HR := hid_ (And.intro r hp)
  have HS := hid_ hC.ok.gd.srt
  rw [← hL]
  clear hX hsv hM hI hC r hp hL
  go_enter Try.func19, Try.ntmps19
  go_wp2_with fail
  refine H0.out.mono ?_
  rintro e w1 ⟨rfl, rfl⟩
  go_wp2_with fail
  refine HCl.out.mono ?_
  rintro e w1 ⟨A, cc, rfl, hown, hb1⟩
  have hent : ∀ m ∈ L, ∃ k, Ent w1 m k := fun m hm => by
    obtain ⟨i, hi, e⟩ := List.mem_iff_getElem.1 hm
    have := HR.out.1.ents i hi
    rw [e] at this
    exact ⟨_, this.kp (Kp.of_below hb1 fun _ => False) id⟩
  have HSt := hid_ (sort_c hown hent HR.out.2 HS.out hlen)
  have HO := hid_ (And.intro hown (And.intro hb1 hent))
  clear hown hb1 hent
  go_wp2_with fail
  refine HSt.out.mono ?_
  rintro e w2 ⟨rfl, Ls, hLs, hLe, hk2, hcl⟩
  have hlL : Ls.length = L.length := hLs.length_eq
  have hb2 : Below w.heap.size w w2 := HO.out.2.1.trans (hk2.toBelow HO.out.2.1.size (fun q hq x => by have := own_base HO.out.1 x; omega))
  have hent2 : ∀ m ∈ Ls, ∃ k, Ent w2 m k := fun m hm => by
    obtain ⟨k, hE⟩ := HO.out.2.2 m (hLs.mem_iff.1 hm)
    exact ⟨k, hE.kp hk2 (fun x => own_blk_ne HO.out.1 hE (by decide) x)⟩
  have hA : 0 < Ls.length → ∃ g, A = some ⟨g, 0, none⟩ := fun h0 => by
    obtain ⟨g, cap, hv, _⟩ := World.ownsRow.form HO.out.1 (by omega)
    injection hv with hv
    exact ⟨g, hv⟩
  have H2 := hid_ (And.intro hLe (And.intro hcl (And.intro hb2 (And.intro hent2 hA))))
  have HlL := hid_ hlL
  generalize hll : L.length = len at *
  clear hLs hLe hk2 hcl hb2 hent2 hA hlL HSt HO HCl H0
  go_wp2_with fail
  go_loopw [2, 17] (fun v2 v17 wr => ∃ (i : Nat) (A : Option Addr) (c' : Nat), v17 = .int .i64 i ∧ v2 = .slice A i c' ∧ i ≤ len ∧ wr.ownsRow w2.heap.size 9 1 (.slice A i c') i (((Ls.take i).map fun m => m.e.key).map .string) ∧ Below w2.heap.size w2 wr) (fun _ v _ => len - (intOf v).toNat)
  case atStart => exact ⟨0, none, 0, rfl, rfl, by omega, by simpa using World.ownsRow_nil _ _ _ _, Below.refl _ _⟩
  case round =>
    obtain ⟨i, A1, c1, rfl, rfl, hi, hown, hb⟩ := hrel
    have HB := hid_ (And.intro hown hb)
    clear hown hb
    by_cases hlt : i < len
    · obtain ⟨hLe, hcl, hb2, hent2, hA⟩ := H2.out
      have hil : i < Ls.length := by rw [HlL.out]; exact hlt
      obtain ⟨g, rfl⟩ := hA (by omega)
      have d0 := below_cell HB.out.2 (hcl g rfl i hil)
      obtain ⟨k0, hE⟩ := hent2 _ (List.getElem_mem hil)
      have d1 : wr.cell? ⟨(Ls[i]'hil).g, 1 + 1, none⟩ = some (.string (Ls[i]'hil).e.key) := below_cell HB.out.2 (hE.cell 2)
      have d2 : wr.cell? ⟨(Ls[i]'hil).g, 2, none⟩ = some (.string (Ls[i]'hil).e.key) := d1
      have hT := hid_ (show ((Ls.take (i + 1)).map fun m => m.e.key).map Value.string = ((Ls.take i).map fun m => m.e.key).map Value.string ++ [.string (Ls[i]'hil).e.key] by
        rw [List.take_succ_eq_append_getElem hil, List.map_append, List.map_append]; rfl)
      have b0 : (0 : Int) ≤ (i : Int) := by omega
      have b1 : (i : Int) < (len : Int) := by omega
      unfold ptr at d0
      generalize (Ls[i]'hil).e.key = key at *
      generalize (Ls[i]'hil).g = gi at *
      have HM := hid_ (show i + 1 ≤ maxLen by unfold maxLen; omega)
      have HN := hid_ (show ∀ ad, some (⟨wr.heap.size, 0, none⟩ : Addr) = some ad → ∀ j u, [Value.string key][j]? = some u → (wr.alloc (.cells #[.string key] 9)).cell? (ad.add j) = some u from fun ad had j u hu => by
        injection had with had
        subst had
        match j, hu with
        | 0, hu =>
          injection hu with hu
          subst hu
          rw [add_at, World.cell?_alloc_at _ _ _ _ rfl]
          rfl)
      have hsz : w2.heap.size ≤ wr.heap.size := HB.out.2.size
      have HSz := hid_ hsz
      clear hLe hcl hb2 hent2 hA hE d1 hsz
      go_wp2_with (first | (at_builtin; refine wpList_append_any rfl (.tmp 21) (.tmp 26) 28 rfl w2.heap.size 9 i0 _ 1 16 Try.underlying28 hi0 hz0 hz1 hz2 rfl (by omega) (.slice A1 i c1) i _ rfl (World.ownsRow.alloc HB.out.1 _) (some ⟨wr.heap.size, 0, none⟩) 1 1 [.string key] rfl rfl (fun h => by cases h) HN.out (by simp [Value.oneCell']) HM.out (by omega) (by have := HSz.out; simp; omega) ?_; intro A3 c3 w3 hown3 hgrow3 hat))
      have hb4 : Below w2.heap.size w2 w3 := (HB.out.2.alloc HSz.out _).grown hgrow3 (by have := HSz.out; simp; omega) (fun q hq => own_base HB.out.1 hq)
      have HD := hid_ (And.intro hown3 hb4)
      clear hown3 hgrow3 hat hb4
      go_roundw
      case rel => exact ⟨i + 1, A3, c3, by go_num, rfl, by omega, by rw [hT.out]; exact HD.out.1, HD.out.2⟩
      case measure => simp [intOf]; omega
    · have b1 : ¬ (i : Int) < (len : Int) := by omega
      have e : i = len := by omega
      subst e
      go_wp2
      go_ret
      refine ⟨A1, c1, rfl, ?_, H2.out.2.2.1.trans (HB.out.2.mono H2.out.2.2.1.size)⟩
      have := ownsRow_base HB.out.1 H2.out.2.2.1.size
      rw [List.take_of_length_le (by rw [HlL.out]; exact Nat.le_refl _)] at this
      have e : (Ls.map fun m => m.e.key) = keysC c := by
        unfold keysC
        rw [← H2.out.1, List.map_map]
        rfl
      rw [e] at this
      exact this
end
end Go.Proofs.Ytogedbednfbkmaa
