/- slices.SortFunc over a row of entries. Conditions: those that each theorem names. -/
import Derived.Test.YtogedbednfbkmaaX
import Derived.Test.YtogedbednfbkmaaShelfp
import Derived.Shelf.SlSortCmp.NoneTotal
namespace Go.Proofs.Ytogedbednfbkmaa
open Go.RowKit Go.Maps Go.Sort Go.Shelf

section
variable {α : Type} [Inhabited α]
theorem sorted_kp {w : World} {g n : Nat} {os : Array Obj} (enc : α → Value) (d : Array α) : Kp (fun q => q = g) w (sortWorld enc w g 0 n d os) := by
  have h : w.grownBy (sortWorld enc w g 0 n d os) (some g) := by
    refine ⟨rfl, rfl, rfl, by simp [sortWorld], fun k hk hne => ?_⟩
    unfold sortWorld
    rw [heap_grow_old _ _ (by simpa using hk)]
    have : g ≠ k := fun e => hne (by rw [e])
    simp [putRow, mapBlock, Sort.ahead, Array.getElem?_modify, this]
  exact ⟨h.os, h.tape, h.output, h.size, fun k hk hn => h.block k hk (fun e => hn (by injection e))⟩
end

section
variable {L : List Me}
/-- An entry of L. -/
abbrev Of (L : List Me) : Type := { m : Me // m ∈ L }
def encM (a : Of L) : Value := ptr a.1.g
def cfM (a b : Of L) : Int := cmpR a.1.e.worth a.1.e.used b.1.e.worth b.1.e.used
theorem ltM_is (x y : Of L) : ltOf cfM x y = ltE x.1.e y.1.e := ltE_is x.1.e y.1.e
theorem swoM : SWO (ltOf (cfM (L := L))) where
  irrefl x := by rw [ltM_is]; exact ordE.irr _
  trans x y z h1 h2 := by rw [ltM_is] at *; exact ordE.tr _ _ _ h1 h2
  ntrans x y z h1 h2 := by
    rw [ltM_is] at *
    simp only [ltE, decide_eq_false_iff_not] at *
    omega

/-- A sorted permutation is the sorted list. -/
theorem sorted_is [Inhabited (Of L)] {S : List En} (hp : (L.map Me.e).Perm S) (hs : SrtE S) (d' : Array (Of L)) (h1 : PermIn 0 L.length L.attach.toArray d') (h2 : SortedIn (ltOf (cfM (L := L))) 0 L.length d') :
    (d'.toList.map Subtype.val).Perm L ∧ (d'.toList.map Subtype.val).map Me.e = S := by
  obtain ⟨hsz, _, hpm⟩ := h1
  have hl : d'.size = L.length := by rw [hsz]; simp
  have e1 : d'.extract 0 L.length = d' := by rw [← hl]; simp
  have e2 : (L.attach.toArray).extract 0 L.length = L.attach.toArray := by
    have : L.length = L.attach.toArray.size := by simp
    rw [this, Array.extract_size]
  rw [e1, e2] at hpm
  have hL : (d'.toList.map Subtype.val).Perm L := by
    have := hpm.map Subtype.val
    simpa using this
  refine ⟨hL, ?_⟩
  have hpS := (hL.map Me.e).trans hp
  refine srt_unique hpS ?_ hs
  rw [List.map_map]
  unfold SrtE
  rw [List.pairwise_map, List.pairwise_iff_getElem]
  intro i j hi hj hij
  have hi' : i < d'.size := by simpa using hi
  have hj' : j < d'.size := by simpa using hj
  have h3 := h2 i j (Nat.zero_le _) hij (by omega)
  rw [getElem!_pos d' j hj', getElem!_pos d' i hi', ltM_is] at h3
  -- the two are not the same, and S parts them
  have hnd : ((d'.toList.map Subtype.val).map Me.e).Nodup := hpS.nodup_iff.2 (hs.imp (fun h e => by subst e; rw [ordE.irr] at h; cases h))
  have hne : (d'[i]).1.e ≠ (d'[j]).1.e := by
    have := List.pairwise_iff_getElem.1 hnd i j (by simpa using hi') (by simpa using hj') hij
    simpa using this
  have hmi : (d'[i]).1.e ∈ S := hpS.mem_iff.1 (List.mem_map.2 ⟨_, List.mem_map.2 ⟨d'[i], by simp, rfl⟩, rfl⟩)
  have hmj : (d'[j]).1.e ∈ S := hpS.mem_iff.1 (List.mem_map.2 ⟨_, List.mem_map.2 ⟨d'[j], by simp, rfl⟩, rfl⟩)
  have htri : ∀ {T : List En}, SrtE T → ∀ x ∈ T, ∀ y ∈ T, x ≠ y → ltE x y = true ∨ ltE y x = true := by
    intro T hT x hx y hy hxy
    induction T with
    | nil => simp at hx
    | cons a T ih =>
      have h' := List.pairwise_cons.1 hT
      rcases List.mem_cons.1 hx with e | hx
      · rcases List.mem_cons.1 hy with e' | hy
        · exact absurd (e.trans e'.symm) hxy
        · exact .inl (by rw [e]; exact h'.1 y hy)
      · rcases List.mem_cons.1 hy with e' | hy
        · exact .inr (by rw [e']; exact h'.1 x hx)
        · exact ih h'.2 hx hy
  rcases htri hs _ hmi _ hmj hne with h4 | h4
  · simpa using h4
  · rw [h4] at h3; cases h3

set_option maxHeartbeats 2000000 in
set_option maxRecDepth 100000 in
theorem sort_c {w : World} {base n c : Nat} {A : Option Addr} {S : List En} (hown : w.ownsRow base 67 1 (.slice A n c) n (L.map fun m => ptr m.g)) (hent : ∀ m ∈ L, ∃ k, Ent w m k) (hp : (L.map Me.e).Perm S) (hs : SrtE S) (hn : n ≤ 100000) :
    Calls Try.prog 40 #[.slice A n c, .func (.func 41) #[] #[]] w fun e w' => e = .returned (.tuple #[]) ∧ ∃ Ls : List Me, Ls.Perm L ∧ Ls.map Me.e = S ∧ Kp (fun q => (Value.slice A n c).ownBlock = some q) w w' ∧ ∀ g, A = some ⟨g, 0, none⟩ → ∀ j (hj : j < Ls.length), w'.cell? ⟨g, j, none⟩ = some (ptr (Ls[j]'hj).g) := by
  have hl : L.length = n := by have := hown.1; simpa using this
  have wr : IntKind.u64.wrap (n : Int) = n := by simp [IntKind.wrap, IntKind.bits, IntKind.signed]; omega
  have hbl : Calls Try.prog 53 #[.int .u64 (n : Int)] w fun e w' => e = .returned (.int .i64 (Lib.bitLen n : Nat)) ∧ w' = w := by
    have h := Any.bits_Len (SlLaysF0.n15.bits (P := Try.prog) (ρ := Try.blen53_ren) Try.blen53) (n : Int) w (by omega) (by omega)
    rwa [Int.toNat_natCast] at h
  have HBl := hid_ hbl
  clear hbl
  cases L with
  | nil =>
    have hn0 : n = 0 := by simp at hl; omega
    subst hn0
    have HS := hid_ (AnyF.pdqsortCmpFunc_none (P := Try.prog) (ρ := Try.pdq52_ren) { Try.pdq52 with } A c (Lib.bitLen 0 : Nat) (.func (.func 41) #[] #[]) w)
    have hS : S = [] := by
      have := hp.length_eq
      simp at this
      exact List.eq_nil_of_length_eq_zero this.symm
    subst hS
    clear hown hent hp hs hl hn
    go_enter Try.func40, Try.ntmps40
    go_wp2_with fail
    refine HBl.out.mono ?_
    rintro e w1 ⟨rfl, rfl⟩
    go_wp2_with fail
    refine HS.out.mono ?_
    rintro e w1 ⟨rfl, rfl⟩
    go_wp2
    go_returns
    exact ⟨rfl, [], .refl _, rfl, Kp.refl _ _, fun g _ j hj => absurd hj (by simp)⟩
  | cons m0 L0 =>
    haveI : Inhabited (Of (m0 :: L0)) := ⟨⟨m0, by simp⟩⟩
    generalize hLL : m0 :: L0 = L at *
    have hpos : 0 < n := by rw [← hl, ← hLL]; simp
    obtain ⟨g, cap, hv, hg, hlt⟩ := World.ownsRow.form hown hpos
    injection hv with hv1 hv2 hv3
    subst hv1 hv3
    have hds : (L.attach.toArray).size = n := by simp [hl]
    have hH : Holds encM w g 0 L.attach.toArray := fun j hj => by
      have hj' : j < L.length := by simpa using hj
      refine ⟨?_, own_frozen hown _⟩
      rw [Nat.zero_add, own_cell hown j (ptr (L[j]'hj').g) (by simp [hj'])]
      rw [getElem!_pos _ j hj]
      simp [encM]
    have hcmp : CmpLays1 Try.prog 41 #[] encM cfM g 0 (L.attach.toArray).size w := fun m os dk _ x y => by
      obtain ⟨kx, hx⟩ := hent x.1 x.2
      obtain ⟨ky, hy⟩ := hent y.1 y.2
      have hx2 := hx.kp (sorted_kp (n := m) (os := os) encM dk) (fun e => own_blk_ne hown hx (by decide) (by rw [e]; rfl))
      have hy2 := hy.kp (sorted_kp (n := m) (os := os) encM dk) (fun e => own_blk_ne hown hy (by decide) (by rw [e]; rfl))
      exact (closure_c x.1.g y.1.g _ _ _ _ _ (hx2.cell 0) (hx2.cell 1) (hy2.cell 0) (hy2.cell 1)).mono fun e w' ⟨he, q, o, hw⟩ => ⟨he, q, #[o], by rw [hw, alloc_eq_grow]⟩
    have eg : ∀ args w, (callFunc 41 args).run Try.prog w = .ok (.enter 41 args) w := enters_of Try.func41 (by kernel_rfl) rfl
    have hlim : Lib.bitLen n < 4611686018427387904 := Nat.lt_of_le_of_lt (Lib.bitLen_le n 62 (by omega) (by omega)) (by omega)
    have hpd := Any.pdqsortCmpFunc_all (P := Try.prog) (ρ := Try.pdq52_ren) Try.pdq52 encM cfM 41 #[] swoM g 0 c L.attach.toArray w eg hcmp ⟨fun _ => rfl, hH, hlt⟩ (n + 1) 0 n (Lib.bitLen n) L.attach.toArray w (by omega) rfl (SW.start hH) (Nat.zero_le _) (by omega) (by omega) hlim (Or.inl rfl)
    rw [hds] at hpd
    have hso := pdq_sorts (ltOf (cfM (L := L))) swoM L.attach.toArray 0 n (Lib.bitLen n) true true (Nat.zero_le _) (by omega) (Or.inl rfl)
    have HFin := hid_ (show ∀ w', SW encM w g 0 (pdq (ltOf (cfM (L := L))) L.attach.toArray 0 n (Lib.bitLen n) true true) w' → ∃ Ls : List Me, Ls.Perm L ∧ Ls.map Me.e = S ∧ Kp (fun q => (Value.slice (some ⟨g, 0, none⟩) n c).ownBlock = some q) w w' ∧ ∀ g', some (⟨g, 0, none⟩ : Addr) = some ⟨g', 0, none⟩ → ∀ j (hj : j < Ls.length), w'.cell? ⟨g', j, none⟩ = some (ptr (Ls[j]'hj).g) from fun w' hSW => by
      generalize pdq (ltOf (cfM (L := L))) L.attach.toArray 0 n (Lib.bitLen n) true true = d' at *
      obtain ⟨h1, h2⟩ := hso
      rw [← hl] at h1 h2
      obtain ⟨h3, h4⟩ := sorted_is hp hs d' h1 h2
      have hd' : d'.size = (L.attach.toArray).size := h1.1
      refine ⟨d'.toList.map Subtype.val, h3, h4, ?_, fun g' hg' j hj => ?_⟩
      · obtain ⟨q, os, rfl⟩ := hSW
        exact (sorted_kp encM d').mono (fun q hq => by rw [hq]; rfl)
      · injection hg' with hg'
        injection hg' with hg'
        subst hg'
        have hj' : j < d'.size := by simpa using hj
        have := (hSW.holds hlt hH hd' j hj').1
        rw [Nat.zero_add] at this
        rw [this, getElem!_pos d' j hj']
        simp [encM])
    have HP := hid_ hpd
    clear hown hent hp hs hl hds hH hcmp eg hlim hpd hso hg hlt hLL
    go_enter Try.func40, Try.ntmps40
    go_wp2_with fail
    refine HBl.out.mono ?_
    rintro e w1 ⟨rfl, rfl⟩
    go_wp2_with fail
    refine HP.out.mono ?_
    rintro e w1 ⟨rfl, hSW⟩
    have HD := hid_ (HFin.out _ hSW)
    clear hSW
    go_wp2
    go_returns
    exact ⟨rfl, HD.out⟩
end
end Go.Proofs.Ytogedbednfbkmaa
