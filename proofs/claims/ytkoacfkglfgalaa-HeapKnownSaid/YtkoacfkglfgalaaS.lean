/- A heap's method Ids, by what the heap stands for. Conditions: those that each theorem names. -/
import Derived.Test.YtkoacfkglfgalaaShelfp
import Derived.Test.YtkoacfkglfgalaaO
namespace Go.Proofs.Ytkoacfkglfgalaa
open Go.RowKit Go.Maps Go.Sort Go.Shelf

theorem sorts53 (m : Nat) : AnyZI.SortsIn Try.prog Try.sorted37_ren Fence.wide m :=
  ⟨fun blk off cap ss W hH hblk hsz => callsIn_wide.2 (AnyM.slices_Sort_int Try.sort53 blk off cap ss W hH hblk hsz),
   fun p cap W => callsIn_wide.2 (AnyM.slices_Sort_int_none Try.sort53 p cap W)⟩
theorem keys_c (mb : Option Nat) (W : World) : Calls Try.prog 38 #[.map mb] W fun e w' => e = .returned (.func (.func 54) #[] #[.pointer (some ⟨W.heap.size, 0, none⟩)]) ∧ w' = W.alloc (.cells #[.map mb] 59) :=
  callsIn_wide.1 (AnyZI.keys_in Try.keys38 Fence.wide 5 trivial rfl mb W)
set_option maxHeartbeats 1000000 in
theorem sorted_c (b nn : Nat) (D0 : DataW Unit) (w : World) (hown : MapIs w b nn D0) (hmax : Maps.size D0 ≤ maxLen) (hbytes : Maps.size D0 * 8 ≤ 140737488355328) :
    Calls Try.prog 37 #[.func (.func 54) #[] #[.pointer (some ⟨w.heap.size, 0, none⟩)]] (w.alloc (.cells #[.map (some b)] 59)) fun e w' => ∃ (v : Value) (ss : List Int), e = .returned v ∧ ss.Perm (intKeys D0) ∧
      w'.ownsRow (w.alloc (.cells #[.map (some b)] 59)).heap.size 3 1 v ss.length ((ss.mergeSort (fun x y => decide (x ≤ y))).map encZ) ∧ (v = .slice none 0 0 ↔ ss = []) ∧ Below (w.alloc (.cells #[.map (some b)] 59)).heap.size (w.alloc (.cells #[.map (some b)] 59)) w' := by
  have hbl := hown.lt
  have hseq : SeqGives Fence.wide 2 Try.prog 54 #[.pointer (some ⟨w.heap.size, 0, none⟩)] encZ (fun ss => ss.Perm (intKeys D0)) (Maps.size D0) (w.alloc (.cells #[.map (some b)] 59)) :=
    AnyZI.keys_gives (ρ := Try.keys38_ren) { Try.keys38 with } Fence.wide _ trivial rfl (by omega) w.heap.size b nn D0 _ (by simp) (by simp) (by
      obtain ⟨es, clock, hb, Ft, hs, hD⟩ := hown
      exact ⟨es, clock, (Below.heap_alloc _ _ b hbl).trans hb, Ft, hs, hD⟩)
  exact callsIn_wide.1 (AnyZI.sorted_in Try.sorted37 Fence.wide 5 trivial trivial trivial trivial rfl (by omega) (sorts53 _) (enters_of Try.func53 (by kernel_rfl) rfl) 54 #[.pointer (some ⟨w.heap.size, 0, none⟩)] trivial (enters_of Try.func54 (by kernel_rfl) rfl) _ _ hmax hbytes _ hseq)

/-- All ids, rising. -/
def idsS (S : List Item) : List Int := (S.map (·.1)).mergeSort leI
theorem keys_perm {w : World} {b n : Nat} {D : DataW Unit} {L : List Item} (h : MapIs w b n D) (hI : Idx D L) (hg : Good L) : (L.map (·.1)).Perm (intKeys D) := by
  refine CollectedI.perm (left := fun _ => false) ⟨hg.once, fun x => ?_⟩ h Try.law3 Try.underlying3 (fun _ => rfl)
  rw [show has D (.int .i64 x) = decide (x ∈ L.map (·.1)) from hI.has_ x]
  simp

section
variable {F : Nat → Prop} {w : World} {hb : Nat} {S : List Item}
theorem ids_c (h : IsH F w hb S) : Calls Try.prog 17 #[.pointer (some ⟨hb, 0, none⟩)] w fun e w' => ∃ A c, e = .returned (.slice A S.length c) ∧ w'.ownsRow w.heap.size 3 1 (.slice A S.length c) S.length ((idsS S).map (.int .i64)) ∧ Below w.heap.size w w' := by
  obtain ⟨rb, mb, L, hM, hh, hp⟩ := h.body
  obtain ⟨sv, D, hR, hI, hq⟩ := hM.start
  have hlen := hM.good.len
  have c1 := hR.head.cell 1
  have H0 := hid_ (none_some hb _ _ w ⟨rb, 0, none⟩ rfl hR.head)
  have hsz : Maps.size D ≤ L.length := hR.map.size_le
  have hperm := keys_perm hR.map hI hM.good
  have H1 := hid_ (sorted_c mb L.length D w hR.map (by unfold maxLen; omega) (by omega))
  have HP := hid_ (And.intro hperm hp)
  clear h hM hh hp hI hq hR hlen hsz hperm
  go_enter Try.func17, Try.ntmps17
  go_wp2_with fail
  refine H0.out.mono ?_
  rintro e w' ⟨rfl, rfl⟩
  go_wp2_with fail
  refine (keys_c _ _).mono ?_
  rintro e w1 ⟨rfl, rfl⟩
  go_wp2_with fail
  refine H1.out.mono ?_
  rintro e w2 ⟨v, ss, rfl, hss, hown, hnil, hbl⟩
  obtain ⟨hp1, hp2⟩ := HP.out
  have hall : ss.Perm (S.map (·.1)) := (hss.trans hp1.symm).trans (hp2.map _)
  have hl : ss.length = S.length := by rw [hall.length_eq, List.length_map]
  have hms : ss.mergeSort (fun x y => decide (x ≤ y)) = idsS S := mergeSort_of_perm_i hall
  rw [hms, hl] at hown
  obtain ⟨A, c, hv⟩ : ∃ A c, v = .slice A S.length c := by
    rcases hown.2 with ⟨hv, h0⟩ | ⟨g', cap', _, hv, _⟩
    · exact ⟨none, 0, by rw [hv, h0]⟩
    · exact ⟨_, _, hv⟩
  subst hv
  have HO := hid_ hown
  have HB := hid_ hbl
  clear hown hbl hnil hss hall hl hms hp1 hp2
  go_wp2
  go_ret
  refine ⟨A, c, rfl, ?_, (((Below.refl _ w).alloc (Nat.le_refl _) _).trans (HB.out.mono (by simp)))⟩
  obtain ⟨k1, k2⟩ := HO.out
  exact ⟨k1, k2.imp id (fun ⟨g, cap, cur, e1, e2, e3⟩ => ⟨g, cap, cur, e1, by simp at e2; omega, e3⟩)⟩
end
end Go.Proofs.Ytkoacfkglfgalaa
