/- The reference cache: what it is in memory; its functions at and Size. Conditions: those that each theorem names. -/
import Derived.Test.YtogedbednfbkmaaT
import Derived.Deep.RegionLaw
import Derived.BigRegion
namespace Go.Proofs.Ytogedbednfbkmaa
open Go.RowKit Go.Maps

theorem toList_ne3 {a b : ByteArray} (h : a ≠ b) : (a.toList == b.toList) = false := by
  rw [beq_eq_false_iff_ne, ByteArray.toList_eq, ByteArray.toList_eq]
  exact fun e => h (ByteArray.ext (Array.toList_inj.1 e))
/-- An entry of the reference in memory: its value, and what it is. -/
abbrev Lf := Value × En
def cell5 (p : Lf) : List Value := [.string p.2.key, p.1, .int .i64 p.2.cost, .int .i64 p.2.worth, .int .i64 p.2.used]
def flat5 (L : List Lf) : List Value := L.flatMap cell5
theorem flat5_append (L M : List Lf) : flat5 (L ++ M) = flat5 L ++ flat5 M := List.flatMap_append
theorem flat5_cons (p : Lf) (L : List Lf) : flat5 (p :: L) = cell5 p ++ flat5 L := List.flatMap_cons
theorem flat5_length : ∀ L : List Lf, (flat5 L).length = L.length * 5
  | [] => rfl
  | p :: L => by rw [flat5_cons, List.length_append, flat5_length L, List.length_cons]; show 5 + _ = _; omega
theorem flat5_take (L : List Lf) (i : Nat) : flat5 L = flat5 (L.take i) ++ flat5 (L.drop i) := by rw [← flat5_append, List.take_append_drop]
theorem flat5_at {L : List Lf} {i : Nat} (hi : i < L.length) {l : Nat} (hl : l < 5) : (flat5 L)[i * 5 + l]? = (cell5 L[i])[l]? := by
  have e : flat5 L = flat5 (L.take i) ++ (cell5 L[i] ++ flat5 (L.drop (i + 1))) := by
    rw [← flat5_cons, ← List.drop_eq_getElem_cons hi]; exact flat5_take L i
  have hl1 : (flat5 (L.take i)).length = i * 5 := by rw [flat5_length, List.length_take, Nat.min_eq_left (by omega)]
  rw [e, List.getElem?_append_right (by omega), hl1, show i * 5 + l - i * 5 = l by omega, List.getElem?_append_left (show l < 5 from hl)]
theorem flat5_one {L : List Lf} (h : ∀ p ∈ L, p.1.oneCell' = true) : ∀ u ∈ flat5 L, u.oneCell' = true := by
  intro u hu
  obtain ⟨p, hp, hu⟩ := List.mem_flatMap.1 hu
  simp only [cell5, List.mem_cons, List.not_mem_nil, or_false] at hu
  rcases hu with rfl | rfl | rfl | rfl | rfl
  · rfl
  · exact h p hp
  · rfl
  · rfl
  · rfl
theorem Vl.one {F : Nat → Prop} {w : World} {v : Value} {xs : List Int} (h : Vl F w v xs) : v.oneCell' = true := by
  obtain ⟨A, c, rfl, _⟩ := h.is_
  rfl

/-- The reference cache at mb stands for c: its blocks are in X. -/
structure Rm (X : Nat → Prop) (w : World) (mb : Nat) (c : Cs) : Prop where
  fm : X mb
  body : ∃ (L : List Lf) (A : Option Addr) (cap : Nat), L.map Prod.snd = c.S ∧ Blk w mb 57 #[.int .i64 c.room, .int .i64 c.level, .int .i64 c.uses, .int .i64 c.found, .int .i64 c.missed, .int .i64 c.thrown, .slice A L.length cap] ∧
    w.ownsRow 0 85 5 (.slice A L.length cap) L.length (flat5 L) ∧ (∀ q, (Value.slice A L.length cap).ownBlock = some q → X q ∧ q ≠ mb) ∧ ∀ p ∈ L, Vl X w p.1 p.2.val
section
variable {X Y : Nat → Prop} {w w' : World} {mb : Nat} {c : Cs}
theorem Rm.lt (h : Rm X w mb c) : mb < w.heap.size := by
  obtain ⟨L, A, cap, _, hB, _⟩ := h.body
  exact hB.lt
theorem Rm.kp {S : Nat → Prop} (h : Rm X w mb c) (hk : Kp S w w') (hd : ∀ q, X q → ¬ S q) : Rm X w' mb c := by
  obtain ⟨L, A, cap, h1, hB, hown, hq, hv⟩ := h.body
  exact ⟨h.fm, L, A, cap, h1, hB.kp hk (hd _ h.fm), own_kp hown hk (fun k hk2 => hd _ (hq k hk2).1), hq, fun p hp => (hv p hp).kp hk (fun q _ hx _ => hd q hx)⟩
theorem Rm.below (h : Rm X w mb c) (hk : Below w.heap.size w w') : Rm X w' mb c := h.kp (Kp.of_below hk fun _ => False) (fun _ _ => id)
theorem Rm.mono (h : Rm X w mb c) (hg : ∀ q, X q → q < w.heap.size → Y q) : Rm Y w mb c := by
  obtain ⟨L, A, cap, h1, hB, hown, hq, hv⟩ := h.body
  exact ⟨hg _ h.fm hB.lt, L, A, cap, h1, hB, hown, fun q hk => ⟨hg _ (hq q hk).1 (own_lt hown hk), (hq q hk).2⟩, fun p hp => (hv p hp).mono hg⟩
/-- The cells. -/
theorem own5 {L : List Lf} {A : Option Addr} {cap : Nat} (hown : w.ownsRow 0 85 5 (.slice A L.length cap) L.length (flat5 L)) (h0 : 0 < L.length) : ∃ g, A = some ⟨g, 0, none⟩ ∧ ∀ i (hi : i < L.length), w.cell? ⟨g, i * 5, none⟩ = some (.string L[i].2.key) ∧ w.cell? ⟨g, i * 5 + 1, none⟩ = some L[i].1 ∧ w.cell? ⟨g, i * 5 + 2, none⟩ = some (.int .i64 L[i].2.cost) ∧ w.cell? ⟨g, i * 5 + 3, none⟩ = some (.int .i64 L[i].2.worth) ∧ w.cell? ⟨g, i * 5 + 4, none⟩ = some (.int .i64 L[i].2.used) := by
  obtain ⟨g, cap', hv, _, hglt⟩ := hown.form h0
  injection hv with hv1 hv2 hv3
  subst hv1 hv3
  exact ⟨g, rfl, fun i hi => ⟨own_cell hown _ _ (flat5_at hi (l := 0) (by omega)), own_cell hown _ _ (flat5_at hi (l := 1) (by omega)), own_cell hown _ _ (flat5_at hi (l := 2) (by omega)), own_cell hown _ _ (flat5_at hi (l := 3) (by omega)), own_cell hown _ _ (flat5_at hi (l := 4) (by omega))⟩⟩

theorem outE_erase {S : List En} {k : Nat} {key : ByteArray} (hn : (S.map En.key).Nodup) (hk : k < S.length) (he : S[k].key = key) : S.eraseIdx k = outE key S := by
  induction S generalizing k with
  | nil => simp at hk
  | cons x S ih =>
    simp only [List.map_cons, List.nodup_cons] at hn
    rw [outE_cons]
    cases k with
    | zero =>
      have e : x.key = key := he
      rw [if_pos e, outE_none (by rw [← e]; exact hn.1)]
      rfl
    | succ k =>
      have hk' : k < S.length := by simpa using hk
      have e : x.key ≠ key := fun e => hn.1 (by rw [e, ← he]; exact List.mem_map.2 ⟨_, List.getElem_mem hk', rfl⟩)
      rw [if_neg e, ← ih hn.2 hk' he]
      rfl
theorem drewN_two (w : World) (a b : Nat) : (w.drewN a).drewN b = w.drewN (a + b) := by simp [World.drewN, Nat.add_assoc]
/-- What at answers. -/
def AtE (S : List En) (key : ByteArray) (z : Int) : Prop := (∃ k : Nat, ∃ hk : k < S.length, S[k].key = key ∧ z = k) ∨ (hasE key S = false ∧ z = -1)
set_option maxHeartbeats 1000000 in
set_option maxRecDepth 100000 in
/-- The place of a key. -/
theorem at_c (h : Rm X w mb c) (key : ByteArray) (hS : c.S.length ≤ 1000) :
    Calls Try.prog 55 #[.pointer (some ⟨mb, 0, none⟩), .string key] w fun e w' => w = w' ∧ ∃ z, e = .returned (.int .i64 z) ∧ AtE c.S key z := by
  obtain ⟨L, A, cap, h1, hB, hown, hq, hv⟩ := h.body
  have hc := hB.cell 6
  have hc' : w.cell? ⟨mb, 6, none⟩ = some (.slice A L.length cap) := hc
  have hl : L.length = c.S.length := by rw [← h1, List.length_map]
  have H1 := hid_ h1
  have HL := hid_ hl
  have HO := hid_ hown
  clear h hB hq hv hc hown h1
  generalize hn : L.length = n at *
  have HN := hid_ hn
  have hn1 : n ≤ 1000 := by omega
  clear hn hl
  go_enter Try.func55, Try.ntmps55
  go_wp2
  go_loopw [5] (fun v wr => ∃ k : Nat, v = .int .i64 k ∧ k ≤ n ∧ wr = w ∧ ∀ j (hj : j < L.length), j < k → L[j].2.key ≠ key) (fun v _ => n - (intOf v).toNat)
  case atStart => exact ⟨0, rfl, by omega, rfl, fun _ _ h => by omega⟩
  case round =>
    obtain ⟨k, rfl, hk, rfl, hall⟩ := hrel
    have HA := hid_ hall
    clear hall
    by_cases hlt : k < n
    · have hkL : k < L.length := by rw [HN.out]; exact hlt
      have hown := HO.out
      rw [← HN.out] at hown
      obtain ⟨g, hg, hcx⟩ := own5 hown (by omega)
      obtain ⟨x0, _⟩ := hcx k hkL
      subst hg
      have b0 : (0 : Int) ≤ (k : Int) := by omega
      have b1 : (k : Int) < (n : Int) := by omega
      clear hcx hown
      by_cases he : L[k].2.key = key
      · have q1 : (L[k].2.key.toList == key.toList) = true := by rw [he]; simp
        have HE := hid_ he
        clear he
        go_wp2
        go_ret
        exact ⟨rfl, k, rfl, .inl ⟨k, by rw [← HL.out]; exact hlt, by have := HE.out; simp only [← H1.out, List.getElem_map]; exact this, rfl⟩⟩
      · have q1 := toList_ne3 he
        have HE := hid_ he
        clear he
        go_wp2
        go_roundw
        case rel =>
          exact ⟨k + 1, by go_num, by omega, trivial, fun j hj h => by
            by_cases e : j = k
            · subst e; exact HE.out
            · exact HA.out j hj (by omega)⟩
        case measure => simp [intOf]; omega
    · have b1 : ¬ (k : Int) < (n : Int) := by omega
      go_wp2
      go_ret
      refine ⟨rfl, -1, rfl, .inr ⟨hasE_not.2 (fun hm => ?_), rfl⟩⟩
      obtain ⟨y, hy, e⟩ := List.mem_map.1 hm
      rw [← H1.out] at hy
      obtain ⟨p, hp, e2⟩ := List.mem_map.1 hy
      obtain ⟨j, hj, e3⟩ := List.mem_iff_getElem.1 hp
      exact HA.out j hj (by have := HN.out; omega) (by rw [e3, e2, e])
set_option maxHeartbeats 1000000 in
set_option maxRecDepth 100000 in
/-- The size of all. -/
theorem rsize_c (h : Rm X w mb c) (hS : c.S.length ≤ 1000) (hz : szS c.S ≤ 2000000000) :
    Calls Try.prog 27 #[.pointer (some ⟨mb, 0, none⟩)] w fun e w' => (∃ nd, w' = w.drewN nd) ∧ e = .returned (.int .i64 (szS c.S)) := by
  obtain ⟨L, A, cap, h1, hB, hown, hq, hv⟩ := h.body
  have hc' : w.cell? ⟨mb, 6, none⟩ = some (.slice A L.length cap) := hB.cell 6
  have hl : L.length = c.S.length := by rw [← h1, List.length_map]
  have H1 := hid_ h1
  have HO := hid_ hown
  have HV := hid_ hv
  clear h hB hq hv hown
  generalize hn : L.length = n at *
  have HN := hid_ hn
  have hn1 : n ≤ 1000 := by omega
  have HLn := hid_ hl
  clear hn hl h1
  go_enter Try.func27, Try.ntmps27
  go_wp2
  go_loopw [3, 4] (fun v3 v4 wr => ∃ k nd : Nat, v4 = .int .i64 k ∧ v3 = .int .i64 (szS ((L.take k).map Prod.snd)) ∧ k ≤ n ∧ wr = w.drewN nd) (fun _ v _ => n - (intOf v).toNat)
  case atStart => exact ⟨0, 0, rfl, rfl, by omega, rfl⟩
  case round =>
    obtain ⟨k, nd, rfl, rfl, hk, rfl⟩ := hrel
    have hc2 : (w.drewN nd).cell? ⟨mb, 6, none⟩ = some (.slice A n cap) := hc'
    by_cases hlt : k < n
    · have hkL : k < L.length := by rw [HN.out]; exact hlt
      have hown := HO.out
      rw [← HN.out] at hown
      obtain ⟨g, hg, hcx⟩ := own5 hown (by omega)
      obtain ⟨x0, x1, _⟩ := hcx k hkL
      subst hg
      obtain ⟨A', cc, hv, _⟩ := (HV.out _ (List.getElem_mem hkL)).is_
      rw [hv] at x1
      have x0' : (w.drewN nd).cell? ⟨g, k * 5, none⟩ = some (.string L[k].2.key) := x0
      have x1' : (w.drewN nd).cell? ⟨g, k * 5 + 1, none⟩ = some (.slice A' L[k].2.val.length cc) := x1
      have b0 : (0 : Int) ≤ (k : Int) := by omega
      have b1 : (k : Int) < (n : Int) := by omega
      have hs : szS ((L.take (k + 1)).map Prod.snd) = szS ((L.take k).map Prod.snd) + (L[k].2.key.size + L[k].2.val.length) := by
        rw [List.take_succ_eq_append_getElem hkL, List.map_append, szS_append]
        show _ + (szE L[k].2 + 0) = _
        unfold szE; omega
      have hle : szS ((L.take (k + 1)).map Prod.snd) ≤ szS c.S := by
        rw [← H1.out]
        conv => rhs; rw [← List.take_append_drop (k + 1) L]
        rw [List.map_append, szS_append]; omega
      have HS := hid_ hs
      rw [hs] at hle
      generalize L[k].2.key = key at *
      generalize L[k].2.val.length = vl at *
      generalize szS ((L.take k).map Prod.snd) = sm at *
      have q1 : IntKind.i64.wrap ((sm : Int) + (key.size : Int)) = (sm : Int) + (key.size : Int) := IntWalk.i64_in _ (by omega)
      have q2 : IntKind.i64.wrap ((sm : Int) + (key.size : Int) + (vl : Int)) = (sm : Int) + (key.size : Int) + (vl : Int) := IntWalk.i64_in _ (by omega)
      clear hcx hown hs x0 x1 hv
      go_wp2_with fail
      go_region_held3 (fun W => W.cell? ⟨mb, 6, none⟩ = some (.slice (some ⟨g, 0, none⟩) n cap) ∧ W.cell? ⟨g, k * 5, none⟩ = some (.string key) ∧ W.cell? ⟨g, k * 5 + 1, none⟩ = some (.slice A' vl cc)) (first | exact ⟨hc2, x0', x1'⟩ | ((repeat' apply And.intro) <;> assumption)) (fail)
      go_wp2
      go_roundw
      case rel => exact ⟨k + 1, nd + 1, by go_num, by rw [HS.out]; go_num, by omega, rfl⟩
      case measure => simp [intOf]; omega
    · have b1 : ¬ (k : Int) < (n : Int) := by omega
      have hkn : L.take k = L := List.take_of_length_le (by have := HN.out; omega)
      rw [hkn, H1.out]
      go_wp2
      go_ret
      exact ⟨⟨nd, rfl⟩, rfl⟩
end
end Go.Proofs.Ytogedbednfbkmaa
