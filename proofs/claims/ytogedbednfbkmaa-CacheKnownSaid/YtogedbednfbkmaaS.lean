/- A cache by what it stands for: New, Drop. Conditions: those that each theorem names. -/
import Derived.Test.YtogedbednfbkmaaR
namespace Go.Proofs.Ytogedbednfbkmaa
open Go.RowKit Go.Maps

theorem outE_perm {S T : List En} (k : ByteArray) (h : S.Perm T) : (outE k S).Perm (outE k T) := h.filter _
/-- Once an entry is taken out, that is all without its key. -/
theorem out_of {L L' : List Me} {S : List En} {x : Me} (hp : (L' ++ [x]).Perm L) (hS : (L.map Me.e).Perm S) (hn : (S.map En.key).Nodup) : (L'.map Me.e).Perm (outE x.e.key S) := by
  have h1 : (L'.map Me.e ++ [x.e]).Perm S := by
    have := (hp.map Me.e).trans hS
    simpa using this
  refine List.Perm.trans ?_ (outE_perm x.e.key h1)
  have hn' := ((h1.map En.key).nodup_iff).2 hn
  rw [List.map_append, List.nodup_append] at hn'
  have hx : x.e.key ∉ (L'.map Me.e).map En.key := fun hm => hn'.2.2 _ hm x.e.key (by simp) rfl
  have e : outE x.e.key (L'.map Me.e ++ [x.e]) = L'.map Me.e := by
    have := outE_none hx
    unfold outE at this ⊢
    rw [List.filter_append, this]
    simp
  rw [e]
theorem szS_append (S T : List En) : szS (S ++ T) = szS S + szS T := by simp [szS]
theorem szS_out {L L' : List Me} {S : List En} {x : Me} (hp : (L' ++ [x]).Perm L) (hS : (L.map Me.e).Perm S) (hn : (S.map En.key).Nodup) : szS (outE x.e.key S) + szE x.e = szS S := by
  have h1 := szS_perm ((hp.map Me.e).trans hS)
  have h2 := szS_perm (out_of hp hS hn)
  rw [List.map_append, szS_append] at h1
  simp [szS] at h1 h2 ⊢
  omega
theorem outE_len (k : ByteArray) (S : List En) : (outE k S).length ≤ S.length := List.length_filter_le _ _
theorem szS_outE (k : ByteArray) (S : List En) : szS (outE k S) ≤ szS S := by
  induction S with
  | nil => simp [outE]
  | cons a S ih =>
    unfold outE at *
    rw [List.filter_cons]
    split
    · rw [szS_cons, szS_cons]; omega
    · rw [szS_cons]; omega
theorem Ok.drop {c : Cs} (h : Ok c) (k : ByteArray) : Ok (dropC c k).2 := by
  have h1 := outE_len k c.S
  have h2 := szS_outE k c.S
  have := h.thr
  have := h.sz
  exact ⟨h.gd.out k, h.room, h.lev, h.fnd, h.mis, ⟨h.thr.1, by show c.thrown + ((outE k c.S).length : Int) ≤ c.uses; omega⟩, by show (szS (outE k c.S) : Int) ≤ c.room; omega⟩
theorem Ok.new {room : Int} (h : 1 ≤ room ∧ room ≤ 1073741824) : Ok ⟨room, 0, 0, 0, 0, 0, []⟩ :=
  ⟨⟨List.Pairwise.nil, List.Pairwise.nil, fun e he => by simp at he⟩, h, ⟨Int.le_refl _, Int.le_refl _⟩, ⟨Int.le_refl _, Int.le_refl _⟩, Int.le_refl _, ⟨Int.le_refl _, by simp⟩, by simp [szS]; omega⟩

section
variable {F : Nat → Prop} {w w' : World} {cb : Nat} {c : Cs}
set_option maxHeartbeats 1000000 in
set_option maxRecDepth 100000 in
theorem drop_c (hC : IsC F w cb c) (k : ByteArray) (hk : k.size ≤ maxLen) : Calls Try.prog 21 #[.pointer (some ⟨cb, 0, none⟩), .string k] w fun e w' => e = .returned (.bool (dropC c k).1) ∧ Left F w cb (dropC c k).2 w' := by
  have HH := hid_ (has_c hC k hk)
  obtain ⟨mb, L, hX, hp⟩ := hC.body
  obtain ⟨sv, D, r, hsv, hM, hI⟩ := hX.body
  have c7 : w.cell? ⟨cb, 7, none⟩ = some (.map (some mb)) := r.head.cell 7
  rcases look hM hI k hk with ⟨hno, hrun⟩ | ⟨m, hm, he, hrun⟩
  · have hh := hasE_no hp hno
    have e1 : (dropC c k).2 = c := by
      unfold dropC
      rw [outE_none (hasE_not.1 hh)]
    have e2 : (dropC c k).1 = false := hh
    have H1 := hid_ e1
    have H2 := hid_ e2
    have HC := hid_ hC
    rw [hh] at HH
    clear hX hsv hM hI r hno hp hrun hC e1 e2 hh
    go_enter Try.func21, Try.ntmps21
    go_wp2_with fail
    refine HH.out.mono ?_
    rintro e w1 ⟨rfl, rfl⟩
    go_wp2
    go_ret
    exact ⟨by rw [H2.out]; rfl, by rw [H1.out]; exact ⟨HC.out.mono (fun q hq _ => .inl hq), Kp.refl _ _⟩⟩
  · have hh := hasE_of hp ⟨m, hm, he⟩
    obtain ⟨i, hi, hmi⟩ := List.mem_iff_getElem.1 hm
    have hrun' : (Instr.lookup 62 (.map (some mb)) (.string k) false).run Try.prog w = .ok (.pointer (some ⟨m.g, 0, none⟩)) w := hrun
    have hsz := hC.ok.sz
    have hrm := hC.ok.room
    have HO := hid_ (out_c hX i hi (by show 0 ≤ (szS c.S : Int) ∧ (szS c.S : Int) ≤ 1000000000000; omega))
    rw [hmi] at HO
    unfold ptr at HO
    have H2 := hid_ (show (dropC c k).1 = true from hh)
    have HF := hid_ (show ∀ w' L', CX F w w' cb { hdOf c mb with size := (hdOf c mb).size - szE m.e } L' → (L' ++ [m]).Perm L → Left F w cb (dropC c k).2 w' from fun w' L' hX' hp' => by
      have hn := hC.ok.gd.once
      have hs := szS_out hp' hp hn
      rw [he] at hs
      have e3 : ({ hdOf c mb with size := (hdOf c mb).size - szE m.e } : Hd) = hdOf (dropC c k).2 mb := by
        unfold hdOf dropC
        simp only
        congr 1
        omega
      rw [e3] at hX'
      exact hX'.left (hC.ok.drop k) (by have := out_of hp' hp hn; rw [he] at this; exact this))
    rw [hh] at HH
    clear hX hsv hM hI r hp hrun hC hm hmi hi hsz hrm hh
    go_enter Try.func21, Try.ntmps21
    go_wp2_with fail
    refine HH.out.mono ?_
    rintro e w1 ⟨rfl, rfl⟩
    go_wp2_with fail
    refine HO.out.mono ?_
    rintro e w2 ⟨rfl, L', hX', hp'⟩
    have HL := hid_ (HF.out _ _ hX' hp')
    clear hX' hp'
    go_wp2
    go_ret
    exact ⟨by rw [H2.out]; rfl, HL.out⟩

set_option maxHeartbeats 1000000 in
theorem new_ok (room : Int) (w : World) (h : 1 ≤ room ∧ room ≤ 1073741824) : Calls Try.prog 10 #[.int .i64 room] w fun e w' => ∃ cb, e = .returned (.tuple #[.pointer (some ⟨cb, 0, none⟩), .int .i64 0]) ∧ IsC (fun q => w.heap.size ≤ q) w' cb ⟨room, 0, 0, 0, 0, 0, []⟩ ∧ Below w.heap.size w w' := by
  have h1 : ¬ room < 1 := by omega
  have h2 : ¬ 1073741824 < room := by omega
  have hmm := @run_makeMap Try.prog
  go_enter Try.func10, Try.ntmps10
  go_wp2
  go_ret2
  have hb : Below w.heap.size w ((w.alloc (.map #[] 0)).alloc (.cells ((hdOf ⟨room, 0, 0, 0, 0, 0, []⟩ w.heap.size).cells (.slice none 0 0)) 66)) := (((Below.refl _ _).alloc (Nat.le_refl _) _).alloc (by simp) _)
  have hB : Blk ((w.alloc (.map #[] 0)).alloc (.cells ((hdOf ⟨room, 0, 0, 0, 0, 0, []⟩ w.heap.size).cells (.slice none 0 0)) 66)) (w.heap.size + 1) 66 ((hdOf ⟨room, 0, 0, 0, 0, 0, []⟩ w.heap.size).cells (.slice none 0 0)) := by
    have := Blk.new (w.alloc (.map #[] 0)) 66 ((hdOf ⟨room, 0, 0, 0, 0, 0, []⟩ w.heap.size).cells (.slice none 0 0))
    simpa using this
  refine ⟨w.heap.size + 1, rfl, ⟨Ok.new h, w.heap.size, [], ⟨Kp.refl _ _, by omega, Nat.le_refl _, fun m hm => by simp at hm, by simp, fun k h0 hk => by simp at hk, ⟨.slice none 0 0, .map [], ⟨hB, World.ownsRow_nil _ _ _ _, fun i hi => by simp at hi, List.Pairwise.nil⟩, fun q hq => by simp [Value.ownBlock] at hq, ?_, ?_⟩, fun m hm => by simp at hm, List.Pairwise.nil, fun m hm => by simp at hm⟩, .refl _⟩, hb⟩
  · exact (World.ownsMap_made w Try.prog 9 ptrElem).alloc _
  · exact ⟨fun k => ⟨(fun h => by simp [Maps.has] at h), fun ⟨m, hm, _⟩ => by simp at hm⟩, fun m hm => by simp at hm, rfl⟩
theorem new_bad (room : Int) (w : World) (h : room < 1 ∨ 1073741824 < room) : Calls Try.prog 10 #[.int .i64 room] w fun e w' => e = .returned (.tuple #[.pointer none, .int .i64 2]) ∧ w = w' := by
  have hc : room < 1 ∨ (¬ room < 1 ∧ 1073741824 < room) := by omega
  clear h
  rcases hc with h | ⟨h, h'⟩
  all_goals
    go_enter Try.func10, Try.ntmps10
    go_wp2
    go_ret2
    exact ⟨rfl, rfl⟩
end
end Go.Proofs.Ytogedbednfbkmaa
