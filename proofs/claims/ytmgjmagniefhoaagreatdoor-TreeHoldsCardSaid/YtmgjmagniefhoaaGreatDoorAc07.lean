/- spoil: it writes into the copy's own rows alone. Conditions: those that each theorem names. -/
import Derived.Test.YtmgjmagniefhoaaGreatDoorAc02
namespace Go.Proofs.YtmgjmagniefhoaaGreatDoor
open Go.RowKit Go.Maps
section
variable {w0 W W1 : World}
/-- A row of the call's own, whatever lies in it. -/
def Any (W : World) (base : Nat) (e : TypeId) (sz : Nat) (v : Value) (n : Nat) : Prop := ∃ xs, W.ownsRow base e sz v n xs
theorem Any.put {base sz n g j : Nat} {e : TypeId} {v : Value} (h : Any W base e sz v n) (u : Value) : Any (W.setCell ⟨g, j, none⟩ u) base e sz v n := by
  obtain ⟨xs, h⟩ := h
  by_cases hg : v.ownBlock = some g
  · rcases h.2 with ⟨hv, _⟩ | ⟨g', cap', cur, hv, _⟩
    · subst hv; cases hg
    · subst hv
      have hg : g' = g := by injection hg
      subst hg
      exact ⟨_, own_set h j u⟩
  · exact ⟨xs, own_kp h ((Kp.refl (fun q => q = g) W).setCell (p := ⟨g, j, none⟩) (.inl rfl) u) fun q hq e => hg (by rw [hq, show q = g from e])⟩
theorem Any.below {base sz n : Nat} {e : TypeId} {v : Value} (h : Any W base e sz v n) (hb : Below W.heap.size W W1) : Any W1 base e sz v n := by
  obtain ⟨xs, h⟩ := h
  exact ⟨xs, own_kp h (Kp.of_below hb fun _ => False) (fun _ _ e => e)⟩
/-- Where its cells lie. -/
theorem Any.get {base sz n : Nat} {e : TypeId} {v : Value} (h : Any W base e sz v n) (h0 : 0 < n) : ∃ g c, v = .slice (some ⟨g, 0, none⟩) n c ∧ v.ownBlock = some g ∧ (∀ j, j < n * sz → ∃ u, W.cell? ⟨g, j, none⟩ = some u) ∧ ∀ j, W.frozen? ⟨g, j, none⟩ = false := by
  obtain ⟨xs, h⟩ := h
  obtain ⟨g, c, rfl⟩ := own_head h h0
  refine ⟨g, c, rfl, rfl, fun j hj => ?_, fun j => own_frozen h j⟩
  have hl : j < xs.length := by rw [h.1]; exact hj
  exact ⟨_, own_cell h j _ (List.getElem?_eq_getElem hl)⟩
/-- What spoil has in memory. -/
structure SpS (w0 W : World) (base bx : Nat) (nm iv tv fv nv : Value) (m : Tr.Md) (fx : List Fx) (nx : List Nx) : Prop where
  bel : Below base w0 W
  box : Blk W bx 31 #[nm, iv, tv, fv, nv]
  i : Any W base 9 1 iv m.imports.length
  t : Any W base 59 2 tv m.types.length
  f : W.ownsRow base 54 5 fv m.fns.length (flatF fx)
  n : W.ownsRow base 57 6 nv m.nodes.length (flatN nx)
  fo : ∀ x ∈ fx, Any W base 67 2 x.2.1 x.1.vars.length ∧ Any W base 67 2 x.2.2 x.1.params.length
  no : ∀ x ∈ nx, Any W base 9 1 x.2.1 x.1.keys.length ∧ Any W base 3 1 x.2.2 x.1.l.length
variable {base bx : Nat} {nm iv tv fv nv : Value} {m : Tr.Md} {fx : List Fx} {nx : List Nx}
theorem SpS.put (h : SpS w0 W base bx nm iv tv fv nv m fx nx) {e : TypeId} {sz n g : Nat} {v : Value} (hv : Any W base e sz v n) (hg : v.ownBlock = some g) (h1 : 54 ≠ e) (h2 : 57 ≠ e) (h3 : e ≠ 31) (j : Nat) (u : Value) : SpS w0 (W.setCell ⟨g, j, none⟩ u) base bx nm iv tv fv nv m fx nx := by
  obtain ⟨xs, hx⟩ := hv
  have hk := (Kp.refl (fun q => q = g) W).setCell (p := ⟨g, j, none⟩) (.inl rfl) u
  refine ⟨h.bel.setCell (p := ⟨g, j, none⟩) (own_base hx hg) u, h.box.kp hk fun e => own_blk_ne hx h.box h3 (by rw [show bx = g from e]; exact hg), h.i.put u, h.t.put u, own_kp h.f hk fun q hq e => ?_, own_kp h.n hk fun q hq e => ?_, fun x hx => ⟨(h.fo x hx).1.put u, (h.fo x hx).2.put u⟩, fun x hx => ⟨(h.no x hx).1.put u, (h.no x hx).2.put u⟩⟩
  · exact own_ne h.f hx h1 hq (by rw [show q = g from e]; exact hg)
  · exact own_ne h.n hx h2 hq (by rw [show q = g from e]; exact hg)
theorem Hi.sp (h : Hi base w0 iv tv fv nv m fx nx) (hb : base ≤ w0.heap.size) : SpS w0 (w0.alloc (.cells #[.string (st m.name), iv, tv, fv, nv] 31)) base w0.heap.size (.string (st m.name)) iv tv fv nv m fx nx := by
  have hW := below_alloc w0 (.cells #[.string (st m.name), iv, tv, fv, nv] 31)
  have h' := h.below hW
  exact ⟨hW.mono hb, Blk.new _ _ _, ⟨_, h'.i⟩, ⟨_, h'.t⟩, h'.f, h'.n, fun x hx => ⟨⟨_, (h'.fo x hx).1⟩, ⟨_, (h'.fo x hx).2⟩⟩, fun x hx => ⟨⟨_, (h'.no x hx).1⟩, ⟨_, (h'.no x hx).2⟩⟩⟩
end
set_option maxHeartbeats 16000000 in
set_option maxRecDepth 100000 in
theorem spoil_c {w : World} {base : Nat} {iv tv fv nv : Value} {m : Tr.Md} {fx : List Fx} {nx : List Nx} (h : Hi base w iv tv fv nv m fx nx) (hb : base ≤ w.heap.size) :
    Calls Tryz.prog 21 #[.agg #[.string (st m.name), iv, tv, fv, nv]] w fun e w' => (∃ v, e = .returned v) ∧ Below base w w' := by
  obtain ⟨Ai, ci, rfl⟩ := own_form h.i
  obtain ⟨At, ct, rfl⟩ := own_form h.t
  obtain ⟨Af, cf, rfl⟩ := own_form h.f
  obtain ⟨An, cn, rfl⟩ := own_form h.n
  have HS := hid_ (h.sp hb)
  have HZ := hid_ h.sz
  have HFE := hid_ h.fe
  have HNE := hid_ h.ne
  have hz1 := h.sz.im
  have hz2 := h.sz.ty
  have hz3 := h.sz.fn
  have hz4 := h.sz.nd
  clear h
  go_enter Tryz.func21, Tryz.ntmps21
  go_wp2_with fail
  generalize w.alloc (.cells #[.string (st m.name), .slice Ai m.imports.length ci, .slice At m.types.length ct, .slice Af m.fns.length cf, .slice An m.nodes.length cn] 31) = W0 at *
  go_loopg [2] (m.imports.length + 1) (fun g v2 wr => ∃ i : Nat, v2 = .int .i64 i ∧ i ≤ m.imports.length ∧ SpS w wr base w.heap.size (.string (st m.name)) (.slice Ai m.imports.length ci) (.slice At m.types.length ct) (.slice Af m.fns.length cf) (.slice An m.nodes.length cn) m fx nx ∧ m.imports.length - i + 1 ≤ g)
  case atStart => exact ⟨0, rfl, by omega, HS.out, by omega⟩
  case round =>
    clear HS
    obtain ⟨i, rfl, hi, hs, hg⟩ := hrel
    have HS := hid_ hs
    clear hs
    have c1 : wr.cell? ⟨w.heap.size, 1, none⟩ = some (.slice Ai m.imports.length ci) := HS.out.box.cell 1
    by_cases hlt : i < m.imports.length
    · have b0 : (0 : Int) ≤ (i : Int) := by omega
      have b1 : (i : Int) < (m.imports.length : Int) := by omega
      obtain ⟨g1, c1', hz, ho, hc, hf⟩ := HS.out.i.get (by omega)
      injection hz with hz hzl hzc
      clear hzl
      subst hz hzc
      obtain ⟨u1, hu1⟩ := hc i (by omega)
      have f1 := hf i
      have HSn := hid_ (HS.out.put HS.out.i ho (by decide) (by decide) (by decide) i (.string ⟨#[115, 112, 111, 105, 108, 116]⟩))
      clear hc hf ho
      go_wp2_with fail
      go_roundg (gk - 1)
      case rel => exact ⟨i + 1, by go_num, by omega, HSn.out, by omega⟩
      case measure => omega
    · obtain rfl : i = m.imports.length := by omega
      clear hi hg hlt
      go_wp2_with fail
      clear c1
      obtain ⟨wo1, rfl⟩ : ∃ wo : World, wo = wr := ⟨_, rfl⟩
      obtain ⟨gk1, rfl⟩ : ∃ g, g = gk := ⟨_, rfl⟩
      go_loopg [3] (m.types.length + 1) (fun g v2 wr => ∃ i : Nat, v2 = .int .i64 i ∧ i ≤ m.types.length ∧ SpS w wr base w.heap.size (.string (st m.name)) (.slice Ai m.imports.length ci) (.slice At m.types.length ct) (.slice Af m.fns.length cf) (.slice An m.nodes.length cn) m fx nx ∧ m.types.length - i + 1 ≤ g)
      case atStart => exact ⟨0, rfl, by omega, HS.out, by omega⟩
      case round =>
        clear HS
        obtain ⟨i, rfl, hi, hs, hg⟩ := hrel
        have HS := hid_ hs
        clear hs
        have c1 : wr.cell? ⟨w.heap.size, 2, none⟩ = some (.slice At m.types.length ct) := HS.out.box.cell 2
        by_cases hlt : i < m.types.length
        · have b0 : (0 : Int) ≤ (i : Int) := by omega
          have b1 : (i : Int) < (m.types.length : Int) := by omega
          obtain ⟨g1, c1', hz, ho, hc, hf⟩ := HS.out.t.get (by omega)
          injection hz with hz hzl hzc
          clear hzl
          subst hz hzc
          obtain ⟨u1, hu1⟩ := hc (i * 2) (by omega)
          obtain ⟨u2, hu2⟩ := hc (i * 2 + 1) (by omega)
          have f1 := hf (i * 2)
          have f2 := hf (i * 2 + 1)
          have HSn := hid_ ((HS.out.put HS.out.t ho (by decide) (by decide) (by decide) (i * 2) (.string ⟨#[]⟩)).put (HS.out.t.put _) ho (by decide) (by decide) (by decide) (i * 2 + 1) (.int .i64 0))
          clear hc hf ho
          go_wp2_with fail
          go_roundg (gk - 1)
          case rel => exact ⟨i + 1, by go_num, by omega, HSn.out, by omega⟩
          case measure => omega
        · obtain rfl : i = m.types.length := by omega
          clear hi hg hlt
          go_wp2_with fail
          clear c1
          obtain ⟨wo1, rfl⟩ : ∃ wo : World, wo = wr := ⟨_, rfl⟩
          obtain ⟨gk1, rfl⟩ : ∃ g, g = gk := ⟨_, rfl⟩
          go_loopg [4, 5, 6] (m.fns.length + 1) (fun g v2 _ _ wr => ∃ i : Nat, v2 = .int .i64 i ∧ i ≤ m.fns.length ∧ SpS w wr base w.heap.size (.string (st m.name)) (.slice Ai m.imports.length ci) (.slice At m.types.length ct) (.slice Af m.fns.length cf) (.slice An m.nodes.length cn) m fx nx ∧ m.fns.length - i + 1 ≤ g)
          case atStart => exact ⟨0, rfl, by omega, HS.out, by omega⟩
          case round =>
            clear HS
            obtain ⟨i, rfl, hi, hs, hg⟩ := hrel
            have HS := hid_ hs
            clear hs
            have c1 : wr.cell? ⟨w.heap.size, 3, none⟩ = some (.slice Af m.fns.length cf) := HS.out.box.cell 3
            by_cases hlt : i < m.fns.length
            · have b0 : (0 : Int) ≤ (i : Int) := by omega
              have b1 : (i : Int) < (m.fns.length : Int) := by omega
              obtain ⟨g1, c1', hz⟩ := own_head HS.out.f (by omega)
              injection hz with hz hzl hzc
              clear hzl
              subst hz hzc
              obtain ⟨hix, hxe⟩ := map_at HFE.out i hlt
              have hmem := List.getElem_mem hix
              have hbd := HZ.out.fb _ (List.getElem_mem hlt)
              rw [hxe] at hbd
              have hfa := fun j hj => flatF_at fx i hix j hj
              generalize fx[i] = x at *
              obtain ⟨fd, vv, pv⟩ := x
              obtain ⟨xv, hxv⟩ := (HS.out.fo _ hmem).1
              obtain ⟨xp, hxp⟩ := (HS.out.fo _ hmem).2
              have gxv : wr.ownsRow base 67 2 vv fd.vars.length xv := hxv
              have gxp : wr.ownsRow base 67 2 pv fd.params.length xp := hxp
              clear hxv hxp
              obtain ⟨Av, av, rfl⟩ := own_form gxv
              obtain ⟨Ap, ap, rfl⟩ := own_form gxp
              have hbd1 : fd.vars.length * 24 ≤ 140737488351232 := hbd.1
              have hbd2 : fd.params.length * 24 ≤ 140737488351232 := hbd.2
              have HA1 := hid_ (show (flatF fx)[i * 5 + 1]? = some (.slice Av fd.vars.length av) from hfa 1 (by omega))
              have HA2 := hid_ (show (flatF fx)[i * 5 + 2]? = some (.slice Ap fd.params.length ap) from hfa 2 (by omega))
              have Hmem := hid_ hmem
              have t1 := own_cell HS.out.f _ _ HA2.out
              clear hxe hix hbd hfa gxv gxp hmem
              go_wp2_with fail
              clear c1 t1
              obtain ⟨wi1, rfl⟩ : ∃ wo : World, wo = wr := ⟨_, rfl⟩
              obtain ⟨gi1, rfl⟩ : ∃ g, g = gk := ⟨_, rfl⟩
              go_loopg [5] (fd.params.length + 1) (fun g v2 wr => ∃ k : Nat, v2 = .int .i64 k ∧ k ≤ fd.params.length ∧ SpS w wr base w.heap.size (.string (st m.name)) (.slice Ai m.imports.length ci) (.slice At m.types.length ct) (.slice (some ⟨g1, 0, none⟩) m.fns.length cf) (.slice An m.nodes.length cn) m fx nx ∧ fd.params.length - k + 1 ≤ g)
              case atStart => exact ⟨0, rfl, by omega, HS.out, by omega⟩
              case round =>
                clear HS
                obtain ⟨k, rfl, hk, hs, hg2⟩ := hrel
                have HS := hid_ hs
                clear hs
                have c1 : wr.cell? ⟨w.heap.size, 3, none⟩ = some (.slice (some ⟨g1, 0, none⟩) m.fns.length cf) := HS.out.box.cell 3
                have t1 := own_cell HS.out.f _ _ HA2.out
                by_cases hlt2 : k < fd.params.length
                · have d0 : (0 : Int) ≤ (k : Int) := by omega
                  have d1 : (k : Int) < (fd.params.length : Int) := by omega
                  have hany : Any wr base 67 2 (.slice Ap fd.params.length ap) fd.params.length := (HS.out.fo _ Hmem.out).2
                  obtain ⟨g2, c2', hz, ho, hc, hf⟩ := hany.get (by omega)
                  injection hz with hz hzl hzc
                  clear hzl
                  subst hz hzc
                  obtain ⟨u1, hu1⟩ := hc (k * 2) (by omega)
                  obtain ⟨u2, hu2⟩ := hc (k * 2 + 1) (by omega)
                  have f1 := hf (k * 2)
                  have f2 := hf (k * 2 + 1)
                  have HSn := hid_ ((HS.out.put hany ho (by decide) (by decide) (by decide) (k * 2) (.string ⟨#[]⟩)).put (hany.put _) ho (by decide) (by decide) (by decide) (k * 2 + 1) (.int .i64 0))
                  clear hc hf ho hany
                  go_wp2_with fail
                  go_roundg (gk - 1)
                  case rel => exact ⟨k + 1, by go_num, by omega, HSn.out, by omega⟩
                  case measure => omega
                · obtain rfl : k = fd.params.length := by omega
                  clear hg2 hlt2 hk
                  go_wp2_with fail
                  clear c1 t1
                  obtain ⟨wj1, rfl⟩ : ∃ wo : World, wo = wr := ⟨_, rfl⟩
                  obtain ⟨gj1, rfl⟩ : ∃ g, g = gk := ⟨_, rfl⟩
                  go_loopg [6] (fd.vars.length + 1) (fun g v2 wr => ∃ k : Nat, v2 = .int .i64 k ∧ k ≤ fd.vars.length ∧ SpS w wr base w.heap.size (.string (st m.name)) (.slice Ai m.imports.length ci) (.slice At m.types.length ct) (.slice (some ⟨g1, 0, none⟩) m.fns.length cf) (.slice An m.nodes.length cn) m fx nx ∧ fd.vars.length - k + 1 ≤ g)
                  case atStart => exact ⟨0, rfl, by omega, HS.out, by omega⟩
                  case round =>
                    clear HS
                    obtain ⟨k, rfl, hk, hs, hg2⟩ := hrel
                    have HS := hid_ hs
                    clear hs
                    have c1 : wr.cell? ⟨w.heap.size, 3, none⟩ = some (.slice (some ⟨g1, 0, none⟩) m.fns.length cf) := HS.out.box.cell 3
                    have t1 := own_cell HS.out.f _ _ HA1.out
                    by_cases hlt2 : k < fd.vars.length
                    · have d0 : (0 : Int) ≤ (k : Int) := by omega
                      have d1 : (k : Int) < (fd.vars.length : Int) := by omega
                      have hany : Any wr base 67 2 (.slice Av fd.vars.length av) fd.vars.length := (HS.out.fo _ Hmem.out).1
                      obtain ⟨g2, c2', hz, ho, hc, hf⟩ := hany.get (by omega)
                      injection hz with hz hzl hzc
                      clear hzl
                      subst hz hzc
                      obtain ⟨u1, hu1⟩ := hc (k * 2) (by omega)
                      obtain ⟨u2, hu2⟩ := hc (k * 2 + 1) (by omega)
                      have f1 := hf (k * 2)
                      have f2 := hf (k * 2 + 1)
                      have HSn := hid_ ((HS.out.put hany ho (by decide) (by decide) (by decide) (k * 2) (.string ⟨#[]⟩)).put (hany.put _) ho (by decide) (by decide) (by decide) (k * 2 + 1) (.int .i64 0))
                      clear hc hf ho hany
                      go_wp2_with fail
                      go_roundg (gk - 1)
                      case rel => exact ⟨k + 1, by go_num, by omega, HSn.out, by omega⟩
                      case measure => omega
                    · obtain rfl : k = fd.vars.length := by omega
                      clear hg2 hlt2 hk
                      go_wp2_with fail
                      clear c1 t1
                      go_roundg (gi1 - 1)
                      case rel => exact ⟨i + 1, by go_num, by omega, HS.out, by omega⟩
                      case measure => omega
            · obtain rfl : i = m.fns.length := by omega
              clear hi hg hlt
              go_wp2_with fail
              clear c1
              obtain ⟨wo2, rfl⟩ : ∃ wo : World, wo = wr := ⟨_, rfl⟩
              obtain ⟨gk2, rfl⟩ : ∃ g, g = gk := ⟨_, rfl⟩
              go_loopg [7, 8, 9] (m.nodes.length + 1) (fun g v2 _ _ wr => ∃ i : Nat, v2 = .int .i64 i ∧ i ≤ m.nodes.length ∧ SpS w wr base w.heap.size (.string (st m.name)) (.slice Ai m.imports.length ci) (.slice At m.types.length ct) (.slice Af m.fns.length cf) (.slice An m.nodes.length cn) m fx nx ∧ m.nodes.length - i + 1 ≤ g)
              case atStart => exact ⟨0, rfl, by omega, HS.out, by omega⟩
              case round =>
                clear HS
                obtain ⟨i, rfl, hi, hs, hg⟩ := hrel
                have HS := hid_ hs
                clear hs
                have c1 : wr.cell? ⟨w.heap.size, 4, none⟩ = some (.slice An m.nodes.length cn) := HS.out.box.cell 4
                by_cases hlt : i < m.nodes.length
                · have b0 : (0 : Int) ≤ (i : Int) := by omega
                  have b1 : (i : Int) < (m.nodes.length : Int) := by omega
                  obtain ⟨g1, c1', hz⟩ := own_head HS.out.n (by omega)
                  injection hz with hz hzl hzc
                  clear hzl
                  subst hz hzc
                  obtain ⟨hix, hxe⟩ := map_at HNE.out i hlt
                  have hmem := List.getElem_mem hix
                  have hbd := HZ.out.nb _ (List.getElem_mem hlt)
                  rw [hxe] at hbd
                  have hfa := fun j hj => flatN_getA nx i hix j hj
                  generalize nx[i] = x at *
                  obtain ⟨fd, vv, pv⟩ := x
                  obtain ⟨xv, hxv⟩ := (HS.out.no _ hmem).1
                  obtain ⟨xp, hxp⟩ := (HS.out.no _ hmem).2
                  have gxv : wr.ownsRow base 9 1 vv fd.keys.length xv := hxv
                  have gxp : wr.ownsRow base 3 1 pv fd.l.length xp := hxp
                  clear hxv hxp
                  obtain ⟨Av, av, rfl⟩ := own_form gxv
                  obtain ⟨Ap, ap, rfl⟩ := own_form gxp
                  have hbd1 : fd.keys.length * 16 ≤ 140737488351232 := hbd.1
                  have hbd2 : fd.l.length * 8 ≤ 140737488351232 := hbd.2
                  have HA1 := hid_ (show (flatN nx)[i * 6 + 4]? = some (.slice Av fd.keys.length av) from hfa 4 (by omega))
                  have HA2 := hid_ (show (flatN nx)[i * 6 + 5]? = some (.slice Ap fd.l.length ap) from hfa 5 (by omega))
                  have Hmem := hid_ hmem
                  have t1 := own_cell HS.out.n _ _ HA2.out
                  clear hxe hix hbd hfa gxv gxp hmem
                  go_wp2_with fail
                  clear c1 t1
                  obtain ⟨wi2, rfl⟩ : ∃ wo : World, wo = wr := ⟨_, rfl⟩
                  obtain ⟨gi2, rfl⟩ : ∃ g, g = gk := ⟨_, rfl⟩
                  go_loopg [8] (fd.l.length + 1) (fun g v2 wr => ∃ k : Nat, v2 = .int .i64 k ∧ k ≤ fd.l.length ∧ SpS w wr base w.heap.size (.string (st m.name)) (.slice Ai m.imports.length ci) (.slice At m.types.length ct) (.slice Af m.fns.length cf) (.slice (some ⟨g1, 0, none⟩) m.nodes.length cn) m fx nx ∧ fd.l.length - k + 1 ≤ g)
                  case atStart => exact ⟨0, rfl, by omega, HS.out, by omega⟩
                  case round =>
                    clear HS
                    obtain ⟨k, rfl, hk, hs, hg2⟩ := hrel
                    have HS := hid_ hs
                    clear hs
                    have c1 : wr.cell? ⟨w.heap.size, 4, none⟩ = some (.slice (some ⟨g1, 0, none⟩) m.nodes.length cn) := HS.out.box.cell 4
                    have t1 := own_cell HS.out.n _ _ HA2.out
                    by_cases hlt2 : k < fd.l.length
                    · have d0 : (0 : Int) ≤ (k : Int) := by omega
                      have d1 : (k : Int) < (fd.l.length : Int) := by omega
                      have hany : Any wr base 3 1 (.slice Ap fd.l.length ap) fd.l.length := (HS.out.no _ Hmem.out).2
                      obtain ⟨g2, c2', hz, ho, hc, hf⟩ := hany.get (by omega)
                      injection hz with hz hzl hzc
                      clear hzl
                      subst hz hzc
                      obtain ⟨u1, hu1⟩ := hc k (by omega)
                      have f1 := hf k
                      have HSn := hid_ (HS.out.put hany ho (by decide) (by decide) (by decide) k (.int .i64 (-1)))
                      clear hc hf ho hany
                      go_wp2_with fail
                      go_roundg (gk - 1)
                      case rel => exact ⟨k + 1, by go_num, by omega, HSn.out, by omega⟩
                      case measure => omega
                    · obtain rfl : k = fd.l.length := by omega
                      clear hg2 hlt2 hk
                      go_wp2_with fail
                      clear c1 t1
                      obtain ⟨wj2, rfl⟩ : ∃ wo : World, wo = wr := ⟨_, rfl⟩
                      obtain ⟨gj2, rfl⟩ : ∃ g, g = gk := ⟨_, rfl⟩
                      go_loopg [9] (fd.keys.length + 1) (fun g v2 wr => ∃ k : Nat, v2 = .int .i64 k ∧ k ≤ fd.keys.length ∧ SpS w wr base w.heap.size (.string (st m.name)) (.slice Ai m.imports.length ci) (.slice At m.types.length ct) (.slice Af m.fns.length cf) (.slice (some ⟨g1, 0, none⟩) m.nodes.length cn) m fx nx ∧ fd.keys.length - k + 1 ≤ g)
                      case atStart => exact ⟨0, rfl, by omega, HS.out, by omega⟩
                      case round =>
                        clear HS
                        obtain ⟨k, rfl, hk, hs, hg2⟩ := hrel
                        have HS := hid_ hs
                        clear hs
                        have c1 : wr.cell? ⟨w.heap.size, 4, none⟩ = some (.slice (some ⟨g1, 0, none⟩) m.nodes.length cn) := HS.out.box.cell 4
                        have t1 := own_cell HS.out.n _ _ HA1.out
                        by_cases hlt2 : k < fd.keys.length
                        · have d0 : (0 : Int) ≤ (k : Int) := by omega
                          have d1 : (k : Int) < (fd.keys.length : Int) := by omega
                          have hany : Any wr base 9 1 (.slice Av fd.keys.length av) fd.keys.length := (HS.out.no _ Hmem.out).1
                          obtain ⟨g2, c2', hz, ho, hc, hf⟩ := hany.get (by omega)
                          injection hz with hz hzl hzc
                          clear hzl
                          subst hz hzc
                          obtain ⟨u1, hu1⟩ := hc k (by omega)
                          have f1 := hf k
                          have HSn := hid_ (HS.out.put hany ho (by decide) (by decide) (by decide) k (.string ⟨#[115, 112, 111, 105, 108, 116]⟩))
                          clear hc hf ho hany
                          go_wp2_with fail
                          go_roundg (gk - 1)
                          case rel => exact ⟨k + 1, by go_num, by omega, HSn.out, by omega⟩
                          case measure => omega
                        · obtain rfl : k = fd.keys.length := by omega
                          clear hg2 hlt2 hk
                          go_wp2_with fail
                          clear c1 t1
                          go_roundg (gi2 - 1)
                          case rel => exact ⟨i + 1, by go_num, by omega, HS.out, by omega⟩
                          case measure => omega
                · obtain rfl : i = m.nodes.length := by omega
                  clear hi hg hlt
                  go_wp2_with fail
                  clear c1
                  first | go_end0 | refine bodyPost_ret (results_none rfl _ _ _) rfl ?_
                  exact ⟨⟨_, rfl⟩, HS.out.bel⟩
end Go.Proofs.YtmgjmagniefhoaaGreatDoor
