/- A whole cache in memory; its method out. Conditions: those that each theorem names. -/
import Derived.Test.YtogedbednfbkmaaN
import Derived.Test.YtogedbednfbkmaaO
import Derived.BigRegion
import Derived.Deep.RegionWith
namespace Go.Proofs.Ytogedbednfbkmaa
open Go.RowKit Go.Maps

/-- A cache in memory: its block cb, what it holds (h), its entries L; F its blocks since w0. -/
structure CX (F : Nat → Prop) (w0 w : World) (cb : Nat) (h : Hd) (L : List Me) : Prop where
  kp : Kp F w0 w
  fc : F cb
  fm : F h.mb
  fe : ∀ m ∈ L, F m.g ∨ w0.heap.size ≤ m.g
  len : L.length ≤ 100000
  heap : Heap ltM L L.length
  body : ∃ sv D, RowIs w cb h sv L ∧ (∀ q, sv.ownBlock = some q → F q ∨ w0.heap.size ≤ q) ∧ MapIs w h.mb (Maps.size D) D ∧ Idx D L
  vals : ∀ m ∈ L, Vl (fun q => F q ∨ w0.heap.size ≤ q) w m.v m.e.val
  keys : (L.map fun m => m.e.key).Nodup
  ok : ∀ m ∈ L, m.e.key.size ≤ 200 ∧ m.e.val.length ≤ 1073741824 ∧ 0 ≤ m.e.cost ∧ m.e.cost ≤ 1000000
/-- The blocks of a cache's row. -/
def Fr (cb : Nat) (sv : Value) (L : List Me) (q : Nat) : Prop := q = cb ∨ sv.ownBlock = some q ∨ ∃ m ∈ L, q = m.g
section
variable {F : Nat → Prop} {w0 w w' : World} {cb mb n : Nat} {h : Hd} {sv : Value} {L : List Me} {D : DataW Unit}
theorem RowIs.cm (r : RowIs w cb h sv L) (hl : L.length ≤ 100000) : CM (Fr cb sv L) w cb h w L :=
  ⟨Kp.refl _ _, .inl rfl, fun m hm => .inr (.inr ⟨m, hm, rfl⟩), hl, sv, r, fun _q hq => .inl (.inr (.inl hq))⟩
theorem RowIs.not_map (r : RowIs w cb h sv L) (hm : MapIs w mb n D) : ¬ Fr cb sv L mb := by
  rintro (e | e | ⟨m, hm2, e⟩)
  · exact blk_map_ne r.head hm e.symm
  · exact own_map_ne r.own hm e
  · obtain ⟨i, hi, e2⟩ := List.mem_iff_getElem.1 hm2
    have := r.ents i hi
    rw [e2] at this
    exact blk_map_ne this hm e.symm
theorem RowIs.not_val (r : RowIs w cb h sv L) {q : Nat} {cs : Array Value} (hB : Blk w q 5 cs) : ¬ Fr cb sv L q := by
  rintro (e | e | ⟨m, hm2, e⟩)
  · subst e; exact Blk.ne_ r.head hB (by decide) rfl
  · exact own_blk_ne r.own hB (by decide) e
  · subst e
    obtain ⟨i, hi, e2⟩ := List.mem_iff_getElem.1 hm2
    have := r.ents i hi
    rw [e2] at this
    exact Blk.ne_ this hB (by decide) rfl
theorem map_val_ne {q : Nat} {cs : Array Value} (hB : Blk w q 5 cs) (hm : MapIs w mb n D) : q ≠ mb := blk_map_ne hB hm

theorem RowIs.drewN (r : RowIs w cb h sv L) (k : Nat) : RowIs (w.drewN k) cb h sv L := r.kp ((Kp.refl (fun _ => False) w).drewN k) id (fun _ _ => id) (fun _ _ => id)
/-- One of the numbers in the cache's block is another one. -/
theorem RowIs.field (r : RowIs w cb h sv L) (j : Nat) (u : Value) (h' : Hd) (e : (h.cells sv).setIfInBounds j u = h'.cells sv) : RowIs (w.setCell ⟨cb, j, none⟩ u) cb h' sv L := by
  have hk := (Kp.refl (fun q => q = cb) w).setCell (p := ⟨cb, j, none⟩) (.inl rfl) u
  refine ⟨?_, own_kp r.own hk (fun q hq e => (r.own_ne hq).1 e), fun i hi => (r.ents i hi).kp hk (fun e => r.head_ne (List.getElem_mem hi) e.symm), r.nd⟩
  have := r.head.set_ j u
  rw [e] at this
  exact this

set_option maxHeartbeats 4000000 in
set_option maxRecDepth 100000 in
theorem out_c (hX : CX F w0 w cb h L) (i : Nat) (hi : i < L.length) (hs : 0 ≤ h.size ∧ h.size ≤ 1000000000000) :
    Calls Try.prog 35 #[.pointer (some ⟨cb, 0, none⟩), ptr (L[i]'hi).g] w fun e w' => e = .returned (.tuple #[]) ∧ ∃ L', CX F w0 w' cb { h with size := h.size - szE (L[i]'hi).e } L' ∧ (L' ++ [L[i]'hi]).Perm L := by
  obtain ⟨sv, D, r, hsv, hM, hI⟩ := hX.body
  have hE := r.ents i hi
  have hat : at_ L i = L[i] := at_eq L i hi
  have hV := hX.vals _ (List.getElem_mem hi)
  have hok := hX.ok _ (List.getElem_mem hi)
  have nmap := hid_ (r.not_map hM)
  have nval := hid_ (fun q cs (hB : Blk w q 5 cs) => r.not_val hB)
  have hFr := hid_ (show ∀ q, Fr cb sv L q → F q ∨ w0.heap.size ≤ q from fun q hq => by
    rcases hq with e | e | ⟨m, hm, e⟩
    · exact .inl (e ▸ hX.fc)
    · exact hsv q e
    · exact e ▸ hX.fe m hm)
  have H1 := hid_ (hremove_c (M := CM (Fr cb sv L) w cb h) ordM CM.headM CM.lessM CM.swapM CM.lenM w.drew L i (CM.popM (at_ L i)) ((r.cm hX.len).below (Below.refl _ w).drew) hi hX.len hX.heap)
  have x5 : w.cell? ⟨(L[i]'hi).g, 5, none⟩ = some (.int .i64 i) := hE.cell 5
  have HX := hid_ hX
  have HM := hid_ hM
  have HI := hid_ hI
  have HV := hid_ hV
  have HE := hid_ hE
  have HPm := hid_ (show ∀ L', (L' ++ [L[i]]).Perm L → ∀ m ∈ L', m.e.key ≠ (L[i]).e.key from fun L' hp m hm e => by
    have hk := (hp.map fun m => m.e.key).nodup_iff.2 hX.keys
    rw [List.map_append, List.nodup_append] at hk
    exact hk.2.2 _ (List.mem_map.2 ⟨m, hm, rfl⟩) _ (by simp) e)
  have HLi := hid_ (List.getElem_mem hi)
  rw [hat] at H1
  clear hX r hE hat hV hI hM
  generalize L[i]'hi = x at *
  unfold ptr at H1 ⊢
  go_enter Try.func35, Try.ntmps35
  go_wp2
  go_region_with (go_at_call 51; refine H1.out.mono ?_; rintro e w1 ⟨rfl, L', ⟨hCM, k, hEx⟩, hp, hh⟩)
  obtain ⟨sv1, r1, hq1⟩ := hCM.body
  have hM1 := map_kp HM.out hCM.kp nmap.out
  have hV1 := HV.out.kp hCM.kp (fun q cs _ hB => nval.out q cs hB)
  obtain ⟨w2, hrun, hM2, hturn⟩ := hM1.drew.drop Try.law9 Try.underlying62 (keyOf_str (s := x.e.key) (by unfold maxLen; omega)) 0
  have hk2 : Kp (fun q => q = h.mb) w1 w2 := (Kp.refl (fun q => q = h.mb) w1).drew.trans (turned_kp hturn) (fun q hq => .inl hq)
  have c7 : w1.cell? ⟨cb, 7, none⟩ = some (.map (some h.mb)) := r1.head.cell 7
  have x2 : w1.cell? ⟨x.g, 2, none⟩ = some (.string x.e.key) := hEx.cell 2
  have nxm : x.g ≠ h.mb := blk_map_ne hEx hM1
  have ncm : cb ≠ h.mb := blk_map_ne r1.head hM1
  have hEx2 := hEx.kp hk2 nxm
  have hV2 := hV1.kp hk2 (fun q cs _ hB => blk_map_ne hB hM1)
  have hr2 := r1.kp hk2 ncm (fun m hm e => by
    obtain ⟨j, hj, e2⟩ := List.mem_iff_getElem.1 hm
    have := r1.ents j hj
    rw [e2] at this
    exact blk_map_ne this hM1 e) (fun q hq e => own_map_ne r1.own hM1 (by rw [hq, e]))
  have y7 : w2.cell? ⟨cb, 7, none⟩ = some (.map (some h.mb)) := hr2.head.cell 7
  have y2 : w2.cell? ⟨x.g, 2, none⟩ = some (.string x.e.key) := hEx2.cell 2
  have HR2 := hid_ hr2
  have HE2 := hid_ hEx2
  have HV2 := hid_ hV2
  have HM2 := hid_ hM2
  have HP := hid_ (And.intro hp hh)
  have HCM := hid_ (And.intro hCM hq1)
  have HK2 := hid_ hk2
  clear hCM hq1 r1 hM1 hV1 hM2 hturn hk2 hEx hEx2 hV2 hr2 hp hh
  go_wp2
  go_region_held3 (fun W => W.cell? ⟨cb, 7, none⟩ = some (.map (some h.mb)) ∧ W.cell? ⟨x.g, 2, none⟩ = some (.string x.e.key))
    (first | exact ⟨c7, x2⟩ | exact ⟨y7, y2⟩)
    (first | fail)
  have c3 : w2.cell? ⟨cb, 3, none⟩ = some (.int .i64 h.size) := HR2.out.head.cell 3
  have f3 := HR2.out.head.frozen 3
  have q1 : IntKind.i64.wrap (h.size - (szE x.e : Int)) = h.size - (szE x.e : Int) := IntWalk.i64_in _ (by unfold szE; omega)
  have hsz := size_c HE2.out.drew (HV2.out.kp (Kp.refl (fun _ => False) w2).drew (fun _ _ _ _ => id)) (by omega) (by omega)
  have HSz := hid_ hsz
  clear hsz c7 x2 y7 y2 hrun
  unfold ptr at HSz
  have HFin := hid_ (show ∀ w3, Kp (fun q => q = cb) w2 w3 → RowIs w3 cb { h with size := h.size - szE x.e } sv1 L' → ∃ L'', CX F w0 w3 cb { h with size := h.size - szE x.e } L'' ∧ (L'' ++ [x]).Perm L from fun w3 hk3 hr3 => by
    obtain ⟨hp, hh⟩ := HP.out
    obtain ⟨hCM, hq1⟩ := HCM.out
    have X := HX.out
    have K12 : Kp (fun q => Fr cb sv L q ∨ q = h.mb) w w2 := (hCM.kp.mono (S' := fun q => Fr cb sv L q ∨ q = h.mb) (fun q hq => .inl hq)).trans HK2.out (fun q hq => .inl (.inr hq))
    have K13 : Kp (fun q => Fr cb sv L q ∨ q = h.mb) w w3 := K12.trans hk3 (fun q hq => .inl (.inl (.inl hq)))
    have hsub : ∀ m ∈ L', m ∈ L := fun m hm => hp.mem_iff.1 (by simp [hm])
    have hM3 : MapIs w3 h.mb (Maps.size (D.del (kl x.e.key))) (D.del (kl x.e.key)) := MapIs.tight (map_kp HM2.out hk3 (fun e => ncm e.symm))
    refine ⟨L', ⟨X.kp.trans K13 (fun q hq => hq.elim (hFr.out q) (fun e => .inl (e ▸ X.fm))), X.fc, X.fm, fun m hm => X.fe m (hsub m hm), ?_, hh, ⟨sv1, _, hr3, fun q hq => ?_, hM3, (HI.out.perm hp).del (HM.out.tidy Try.law9) (HPm.out L' hp)⟩, fun m hm => ?_, ?_, fun m hm => X.ok m (hsub m hm)⟩, hp⟩
    · have := hp.length_eq
      have := X.len
      simp at *; omega
    · rcases hq1 q hq with e | e
      · exact hFr.out q e
      · exact .inr (Nat.le_trans X.kp.size e)
    · exact (X.vals m (hsub m hm)).kp K13 (fun q cs _ hB => fun e => e.elim (nval.out q cs hB) (map_val_ne hB HM.out))
    · have := (hp.map fun m => m.e.key).nodup_iff.2 X.keys
      rw [List.map_append, List.nodup_append] at this
      exact this.1)
  go_wp2
  go_region_with (go_at_call 34; refine HSz.out.mono ?_; rintro e w3 ⟨rfl, nd, rfl⟩)
  all_goals
    have hr3 := (HR2.out.drewN (1 + nd)).field 3 (.int .i64 (h.size - szE x.e)) { h with size := h.size - szE x.e } rfl
    have hk3 := ((Kp.refl (fun q => q = cb) w2).drewN (1 + nd)).setCell (p := ⟨cb, 3, none⟩) (.inl rfl) (.int .i64 (h.size - szE x.e))
    have HD3 := hid_ (HFin.out _ hk3 hr3)
    clear hr3 hk3
    go_wp2
    go_returns
    exact ⟨rfl, HD3.out⟩
end
end Go.Proofs.Ytogedbednfbkmaa
