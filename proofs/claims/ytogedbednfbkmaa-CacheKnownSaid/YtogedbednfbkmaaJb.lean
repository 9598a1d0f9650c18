/- CacheKnown: the walk. Conditions: none. -/
import Derived.Test.YtogedbednfbkmaaIh
import Derived.Test.YtogedbednfbkmaaJa
namespace Go.Proofs.Ytogedbednfbkmaa
open Go.RowKit Go.Maps

instance : Inhabited Dv := ⟨⟨0, 0, .empty, none, 0, 0, []⟩⟩
def cell4 (d : Dv) : List Value := [.int .i64 d.kind, .int .i64 d.cost, .string d.key, .slice d.A d.n d.c]
def flat4 (L : List Dv) : List Value := L.flatMap cell4
theorem flat4_at : ∀ {L : List Dv} {i : Nat} (_ : i < L.length) {l : Nat} (_ : l < 4), (flat4 L)[i * 4 + l]? = (cell4 (L.getD i default))[l]?
  | d :: L, 0, _, l, hl => by
    show (cell4 d ++ flat4 L)[0 * 4 + l]? = _
    rw [Nat.zero_mul, Nat.zero_add, List.getElem?_append_left (show l < 4 from hl)]
    rfl
  | d :: L, i + 1, hi, l, hl => by
    show (cell4 d ++ flat4 L)[(i + 1) * 4 + l]? = _
    rw [List.getElem?_append_right (show 4 ≤ (i + 1) * 4 + l by omega), show (i + 1) * 4 + l - (cell4 d).length = i * 4 + l by show (i + 1) * 4 + l - 4 = _; omega]
    exact flat4_at (by simpa using hi) hl
/-- What a literal row of calls reads as. -/
theorem RdW.of {W : World} {g : Nat} {t : TypeId} {cs : Array Value} (ds : List Dv) {n : Nat} (hB : Blk W g t cs) (hcs : cs = (flat4 ds).toArray) (hn : n = ds.length) (hl : ds.length ≤ 1000) (he : ∀ d ∈ ds, RdB W d.A d.n d.c d.xs ∧ d.n ≤ d.c ∧ d.n ≤ 9223372036854775807 ∧ d.key.size ≤ 9223372036854775807) : RdW W (some ⟨g, 0, none⟩) n (fun j => ds.getD j default) := by
  subst hcs hn
  have hat : ∀ j, j < ds.length → ∀ l, l < 4 → W.cell? ⟨g, j * 4 + l, none⟩ = (cell4 (ds.getD j default))[l]? := fun j hj l hl => by
    rw [hB.cell, List.getElem?_toArray]
    exact flat4_at hj hl
  refine ⟨by omega, fun j hj => he _ (by simp [List.getD, hj]), fun _ => ⟨g, 0, rfl, fun j hj => ?_⟩⟩
  rw [Nat.zero_add]
  exact ⟨hat j hj 0 (by omega), hat j hj 1 (by omega), hat j hj 2 (by omega), hat j hj 3 (by omega)⟩
def dv (kind cost : Int) (key : ByteArray) : Dv := ⟨kind, cost, key, none, 0, 0, []⟩
theorem dv_ok {W : World} {kind cost : Int} {key : ByteArray} (hk : key.size ≤ 1000) : RdB W (dv kind cost key).A (dv kind cost key).n (dv kind cost key).c (dv kind cost key).xs ∧ (dv kind cost key).n ≤ (dv kind cost key).c ∧ (dv kind cost key).n ≤ 9223372036854775807 ∧ (dv kind cost key).key.size ≤ 9223372036854775807 :=
  ⟨RdB.none_ W, Nat.le_refl _, Nat.zero_le _, by show key.size ≤ _; omega⟩

def endsL : List Int := [-9223372036854775808, -1, 0, 1, 199, 1000000, 1000001, 1073741824, 1073741825, 9223372036854775807]
set_option maxHeartbeats 8000000 in
set_option maxRecDepth 100000 in
theorem known_try (w : World) : Calls Try.prog 9 #[] w fun e w' => e = .returned (.bool true) ∧ Below w.heap.size w w' := by
  go_enter Try.func9, Try.ntmps9
  go_wp2_with fail
  have HF := hid_ (show Fn (w.alloc (.cells #[.int .i64 (-9223372036854775808), .int .i64 (-1), .int .i64 0, .int .i64 1, .int .i64 199, .int .i64 1000000, .int .i64 1000001, .int .i64 1073741824, .int .i64 1073741825, .int .i64 9223372036854775807] 3)) w.heap.size 3 10 (fun j => .int .i64 (endsL.getD j 0)) from
    ⟨_, Blk.new w 3 _, rfl, fun j hj => by
      match j, hj with
      | 0, _ => rfl
      | 1, _ => rfl
      | 2, _ => rfl
      | 3, _ => rfl
      | 4, _ => rfl
      | 5, _ => rfl
      | 6, _ => rfl
      | 7, _ => rfl
      | 8, _ => rfl
      | 9, _ => rfl⟩)
  have HB0 := hid_ ((Below.refl w.heap.size w).alloc (Nat.le_refl _) (.cells #[.int .i64 (-9223372036854775808), .int .i64 (-1), .int .i64 0, .int .i64 1, .int .i64 199, .int .i64 1000000, .int .i64 1000001, .int .i64 1073741824, .int .i64 1073741825, .int .i64 9223372036854775807] 3))
  generalize w.alloc (.cells #[.int .i64 (-9223372036854775808), .int .i64 (-1), .int .i64 0, .int .i64 1, .int .i64 199, .int .i64 1000000, .int .i64 1000001, .int .i64 1073741824, .int .i64 1073741825, .int .i64 9223372036854775807] 3) = w0 at *
  generalize hee : w.heap.size = ee at *
  have HEe := hid_ hee
  clear hee
  go_loop [2, 3] (fun v2 v3 => ∃ (s : ByteArray) (k : Nat), v2 = .string s ∧ v3 = .int .i64 k ∧ k ≤ 201 ∧ s.size = k) (fun _ v => 201 - (intOf v).toNat)
  case atStart => exact ⟨_, 0, rfl, rfl, by omega, rfl⟩
  case round =>
    obtain ⟨s, k, rfl, rfl, hk, hs⟩ := hrel
    have HS := hid_ hs
    have hs1 : s.size ≤ 201 := by omega
    clear hs
    by_cases hlt : k < 201
    · have b1 : (k : Int) < 201 := by omega
      go_wp2
      go_round
      case rel => exact ⟨_, k + 1, rfl, by go_num, by omega, by rw [ByteArray.size_append, HS.out]; rfl⟩
      case measure => simp [intOf]; omega
    · have b1 : ¬ (k : Int) < 201 := by omega
      have hs2 : (200 : Int) ≤ (s.size : Int) := by have := HS.out; omega
      go_wp2_with fail
      go_loopw [4] (fun v4 wr => ∃ i : Nat, v4 = .int .i64 i ∧ i ≤ 10 ∧ Below w0.heap.size w0 wr) (fun v _ => 10 - (intOf v).toNat)
      case atStart => exact ⟨0, rfl, by omega, Below.refl _ _⟩
      case round =>
        obtain ⟨i, rfl, hi, hb⟩ := hrel
        have HB := hid_ hb
        clear hb
        by_cases hli : i < 10
        · have c1 : (i : Int) < 10 := by omega
          have c0 : (0 : Int) ≤ (i : Int) := by omega
          have x0 := below_cell HB.out (HF.out.cell i hli)
          generalize endsL.getD i 0 = x at *
          have HR1 := hid_ (show RdW ((wr.alloc (.cells #[.int .u8 1] 5)).alloc (.cells (flat4 [dv 0 0 ⟨#[97]⟩, ⟨0, 0, ⟨#[98]⟩, some ⟨wr.heap.size, 0, none⟩, 1, 1, [1]⟩, dv 4 0 ⟨#[97]⟩]).toArray 53)) (some ⟨wr.heap.size + 1, 0, none⟩) 3 _ from by
            have hB := Blk.new (wr.alloc (.cells #[.int .u8 1] 5)) 53 (flat4 [dv 0 0 ⟨#[97]⟩, ⟨0, 0, ⟨#[98]⟩, some ⟨wr.heap.size, 0, none⟩, 1, 1, [1]⟩, dv 4 0 ⟨#[97]⟩]).toArray
            rw [show (wr.alloc (.cells #[.int .u8 1] 5)).heap.size = wr.heap.size + 1 by simp] at hB
            refine RdW.of [dv 0 0 ⟨#[97]⟩, ⟨0, 0, ⟨#[98]⟩, some ⟨wr.heap.size, 0, none⟩, 1, 1, [1]⟩, dv 4 0 ⟨#[97]⟩] hB rfl rfl (by show 3 ≤ 1000; omega) (fun d hd => ?_)
            simp only [List.mem_cons, List.not_mem_nil, or_false] at hd
            rcases hd with rfl | rfl | rfl
            · exact dv_ok (by decide)
            · exact ⟨(RdB.lit wr [1] (0, 0) 1 rfl (by omega)).below ((Below.refl _ _).alloc (Nat.le_refl _) _), Nat.le_refl _, by show (1 : Nat) ≤ _; omega, by show (1 : Nat) ≤ _; omega⟩
            · exact dv_ok (by decide))
          have HA1 := hid_ (((Below.refl wr.heap.size wr).alloc (Nat.le_refl _) (.cells #[.int .u8 1] 5)).alloc (by simp) (.cells (flat4 [dv 0 0 ⟨#[97]⟩, ⟨0, 0, ⟨#[98]⟩, some ⟨wr.heap.size, 0, none⟩, 1, 1, [1]⟩, dv 4 0 ⟨#[97]⟩]).toArray 53))
          go_wp2_with fail
          refine (plays_try x HR1.out).mono ?_
          rintro e w1 ⟨rfl, hb1⟩
          have hw1 : Below wr.heap.size wr w1 := HA1.out.trans (hb1.mono HA1.out.size)
          have x1 := below_cell hw1 x0
          have HB1 := hid_ (HB.out.trans (hw1.mono HB.out.size))
          have HR2 := hid_ (show RdW (w1.alloc (.cells (flat4 [dv 0 x ⟨#[97]⟩, dv 0 1 ⟨#[98]⟩, dv 4 0 ⟨#[97]⟩]).toArray 53)) (some ⟨w1.heap.size, 0, none⟩) 3 _ from by
            refine RdW.of [dv 0 x ⟨#[97]⟩, dv 0 1 ⟨#[98]⟩, dv 4 0 ⟨#[97]⟩] (Blk.new w1 53 _) rfl rfl (by show 3 ≤ 1000; omega) (fun d hd => ?_)
            simp only [List.mem_cons, List.not_mem_nil, or_false] at hd
            rcases hd with rfl | rfl | rfl
            · exact dv_ok (by decide)
            · exact dv_ok (by decide)
            · exact dv_ok (by decide))
          have HA2 := hid_ ((Below.refl w1.heap.size w1).alloc (Nat.le_refl _) (.cells (flat4 [dv 0 x ⟨#[97]⟩, dv 0 1 ⟨#[98]⟩, dv 4 0 ⟨#[97]⟩]).toArray 53))
          clear hb1 hw1 HR1 HA1 x0
          go_wp2_with fail
          refine (plays_try 400 HR2.out).mono ?_
          rintro e w2 ⟨rfl, hb2⟩
          have HB2 := hid_ (HB1.out.trans ((HA2.out.trans (hb2.mono HA2.out.size)).mono HB1.out.size))
          clear hb2 HR2 HA2 x1
          go_wp2
          go_roundw
          case rel => exact ⟨i + 1, by go_num, by omega, HB2.out⟩
          case measure => simp [intOf]; omega
        · have c1 : ¬ (i : Int) < 10 := by omega
          have hsl : (s.extract 0 200).size ≤ 1000 := by rw [ByteArray.size_extract]; omega
          have HDs := hid_ (show ∀ W : World, ∀ d ∈ [dv 0 0 ⟨#[]⟩, dv 0 0 s, dv 0 0 (s.extract 0 200), dv 7 0 ⟨#[]⟩, dv 4 0 ⟨#[]⟩, dv 6 0 s, dv 6 0 (s.extract 0 200)], RdB W d.A d.n d.c d.xs ∧ d.n ≤ d.c ∧ d.n ≤ 9223372036854775807 ∧ d.key.size ≤ 9223372036854775807 from fun W d hd => by
            simp only [List.mem_cons, List.not_mem_nil, or_false] at hd
            rcases hd with rfl | rfl | rfl | rfl | rfl | rfl | rfl
            · exact dv_ok (by decide)
            · exact dv_ok (by omega)
            · exact dv_ok hsl
            · exact dv_ok (by decide)
            · exact dv_ok (by decide)
            · exact dv_ok (by omega)
            · exact dv_ok hsl)
          have HR3 := hid_ (show RdW ((wr.alloc (.cells (flat4 [dv 0 0 ⟨#[]⟩, dv 0 0 s, dv 0 0 (s.extract 0 200), dv 7 0 ⟨#[]⟩, dv 4 0 ⟨#[]⟩, dv 6 0 s, dv 6 0 (s.extract 0 200)]).toArray 53)).drew) (some ⟨wr.heap.size, 0, none⟩) 7 _ from
            RdW.of [dv 0 0 ⟨#[]⟩, dv 0 0 s, dv 0 0 (s.extract 0 200), dv 7 0 ⟨#[]⟩, dv 4 0 ⟨#[]⟩, dv 6 0 s, dv 6 0 (s.extract 0 200)] (Blk.new wr 53 _).drew rfl rfl (by show 7 ≤ 1000; omega) (HDs.out _))
          have HA3 := hid_ (((Below.refl wr.heap.size wr).alloc (Nat.le_refl _) (.cells (flat4 [dv 0 0 ⟨#[]⟩, dv 0 0 s, dv 0 0 (s.extract 0 200), dv 7 0 ⟨#[]⟩, dv 4 0 ⟨#[]⟩, dv 6 0 s, dv 6 0 (s.extract 0 200)]).toArray 53)).drew)
          clear hsl
          go_wp2_with fail
          go_region_held3 (fun _ => True) (trivial) ((go_at_call 7; go_loud (refine (plays_try 300 HR3.out).mono ?_); rintro e w1 ⟨rfl, hb1⟩; have HB1 := hid_ (HB.out.trans ((HA3.out.trans (hb1.mono HA3.out.size)).mono HB.out.size)); clear hb1))
          go_wp2_with fail
          go_loopw [5, 6] (fun v5 v6 wx => ∃ z : Nat, v6 = .int .i64 z ∧ z ≤ 2 ∧ Nh wx v5 ∧ Below w1.heap.size w1 wx) (fun _ v _ => 2 - (intOf v).toNat)
          case atStart => exact ⟨0, rfl, by omega, .inl rfl, Below.refl _ _⟩
          case round =>
            obtain ⟨z, rfl, hz, hn, hbx⟩ := hrel
            rename_i v5 _ _
            have HN := hid_ hn
            have HX := hid_ hbx
            clear hn hbx
            by_cases hlz : z < 2
            · have d1 : (z : Int) < 2 := by omega
              go_wp2_with fail
              refine (get_n HN.out _).mono ?_
              rintro e wa ⟨rfl, rfl⟩
              go_wp2_with fail
              refine (counts_n HN.out).mono ?_
              rintro e wa ⟨rfl, rfl⟩
              go_wp2_with fail
              refine (put_n HN.out _ _).mono ?_
              rintro e wa ⟨rfl, hba⟩
              have HNa := hid_ (HN.out.below hba)
              have HXa := hid_ (HX.out.trans (hba.mono HX.out.size))
              clear hba
              go_wp2_with fail
              refine (has_n HNa.out _).mono ?_
              rintro e wb ⟨rfl, rfl⟩
              go_wp2_with fail
              refine (drop_n HNa.out _).mono ?_
              rintro e wb ⟨rfl, rfl⟩
              go_wp2_with fail
              refine (keys_n HNa.out).mono ?_
              rintro e wb ⟨rfl, rfl⟩
              go_wp2_with fail
              refine (len_n HNa.out).mono ?_
              rintro e wb ⟨rfl, rfl⟩
              go_wp2_with fail
              refine (size_n HNa.out).mono ?_
              rintro e wb ⟨rfl, rfl⟩
              go_wp2_with fail
              refine (level_n HNa.out).mono ?_
              rintro e wb ⟨rfl, rfl⟩
              go_wp2
              go_roundw
              case rel => exact ⟨z + 1, by go_num, by omega, .inr ⟨_, rfl, Blk.new _ _ _⟩, HXa.out.trans (((Below.refl _ _).alloc (Nat.le_refl _) _).mono HXa.out.size)⟩
              case measure => simp [intOf]; omega
            · have d1 : ¬ (z : Int) < 2 := by omega
              go_wp2_with fail
              refine (works_c _).mono ?_
              rintro e wa ⟨rfl, hl⟩
              have HB9 := hid_ (HB0.out.trans ((HB1.out.trans ((HX.out.trans (hl.mono HX.out.size)).mono HB1.out.size)).mono (by have := HB0.out.size; have := HEe.out; omega)))
              clear hl
              go_wp2
              go_ret
              exact ⟨rfl, by rw [HEe.out]; exact HB9.out⟩
end Go.Proofs.Ytogedbednfbkmaa
