/- The tree's reader: the closure of vars; vars. Conditions: those that each theorem names. -/
import Derived.Test.YtmgjmagniefhoaaGreatDoorAa15
namespace Go.Proofs.YtmgjmagniefhoaaGreatDoor
open Go.RowKit Go.Maps
section
variable {w w' w0 : World} {rb k : Nat} {c : RC} {L : List Lx.Wd} {ns : List Tr.Nd}
theorem VaV.form {g : Nat} {kind : Int} {bt : List UInt8} {lv nv : Value} {ys : List (List UInt8)} {x : List UInt8} {s : List Tr.Vr} (h : VaV w0 rb g kind bt lv nv (ys ++ [x]) s w) : ∃ q N d, nv = .slice (some ⟨q, 0, none⟩) N d := by
  rcases h.nr.own.2 with ⟨hv, h0⟩ | ⟨g, cap, cur, hv, _⟩
  · simp at h0
  · exact ⟨g, _, cap, hv⟩
theorem VaV.look {g q N d : Nat} {kind : Int} {bt : List UInt8} {lv : Value} {ys : List (List UInt8)} {x : List UInt8} {s : List Tr.Vr} (h : VaV w0 rb g kind bt lv (.slice (some ⟨q, 0, none⟩) N d) (ys ++ [x]) s w) : N = ys.length + 1 ∧ w.cell? ⟨q, N - 1, none⟩ = some (.string (st x)) := by
  rcases h.nr.own.2 with ⟨hv, h0⟩ | ⟨g, cap, cur, hv, _⟩
  · simp at h0
  · have e : N = ys.length + 1 := by
      injection hv with _ h2 _
      rw [h2, List.length_append]; rfl
    refine ⟨e, ?_⟩
    subst e
    have h2 := h.nr.own
    rw [hv] at h2
    injection hv with h3 _ _
    injection h3 with h3
    injection h3 with h3
    subst h3
    refine own_cell h2 ys.length _ ?_
    unfold strs
    rw [List.map_append, List.getElem?_append_right (by simp)]
    simp
set_option maxHeartbeats 8000000 in
set_option maxRecDepth 100000 in
theorem vars1_c (h00 : ∃ k ns, Rd w0 rb c L k ns) (g : Nat) (kind : Int) (h7 : kind ≠ 7) (bt : List UInt8) :
    OneC (VaI w0 rb g kind bt) w0 rb c L 0 (fun many s => s.length = many) (varG L kind bt) 123 #[.pointer (some ⟨g + 4, 0, none⟩), .pointer (some ⟨g, 0, none⟩), .pointer (some ⟨g + 1, 0, none⟩), .pointer (some ⟨g + 2, 0, none⟩), .pointer (some ⟨g + 3, 0, none⟩)] := by
  intro f many s k ns w hk0 hk1 hmany hP hf hR hF hI
  have HP := hid_ hP
  obtain ⟨kz, nsz, h00⟩ := h00
  obtain ⟨lv, nv, hI⟩ := hI
  obtain ⟨A0, dd0, rfl⟩ := own_form hI.nr.own
  have HR0 := hid_ h00
  have HR := hid_ hR
  have HF := hid_ hF
  have HFd := hid_ hI
  have HE := hid_ (show varG L kind bt f many s k ns = Tr.bind (Tr.fresh L (s.map (·.name)) kind k ns) fun x k M => Tr.bind (Tr.must L bt k M) fun _ k M => Tr.bind (Tr.typ L 1 k M) fun t k M => .ok (s ++ [⟨x, t⟩], k, M) from rfl)
  have c0 : w.cell? ⟨g, 0, none⟩ = some (rv rb) := hI.rB.cell 0
  have c1 : w.cell? ⟨g + 1, 0, none⟩ = some (.int .i64 kind) := hI.kB.cell 0
  have c4 : w.cell? ⟨g + 4, 0, none⟩ = some (.slice A0 (s.map (·.name)).length dd0) := hI.nB.cell 0
  have HLn := hid_ (show (s.map (·.name)).length ≤ 1000 by rw [List.length_map, hP]; omega)
  obtain ⟨i0, hi0, hz0, hz1, hz2⟩ := info_parts Tryz.infoS
  obtain ⟨j0, hj0, hy0, hy1, hy2⟩ := info_parts Tryz.infoV
  clear h00 hR hF hI hP
  generalize varG L kind bt f many s k ns = A at *
  generalize hxs : s.map (·.name) = xs at *
  have HXs := hid_ hxs
  clear hxs
  unfold rv at c0
  show Calls _ _ #[_, _, _, _, _, _] _ _
  go_enter Tryz.func123, Tryz.ntmps123
  go_wp2_with fail
  go_cut [] (fun wx => ∃ (x : List UInt8) (k2 : Nat) (ns2 : List Tr.Nd), k2 = k + 1 ∧ A = (Tr.bind (Tr.must L bt k2 ns2) fun _ k M => Tr.bind (Tr.typ L 1 k M) fun t k M => .ok (s ++ [⟨x, t⟩], k, M)) ∧ Rd wx rb c L k2 ns2 ∧ Fr rb w0 wx ∧ ∃ nv, VaV w0 rb g kind bt lv nv (xs ++ [x]) s wx)
  case first =>
    go_region_law (first
      | (refine step_append_any (by rfl) (.tmp 7) (.tmp 12) 26 (by rfl) w0.heap.size 9 i0 _ 1 16 Tryz.underlying26 hi0 hz0 hz1 hz2 rfl (by omega) (.slice A0 xs.length dd0) xs.length _ (by rfl) HO3.out.own (some ⟨w2.heap.size, 0, none⟩) 1 1 [.string (st x)] (by rfl) rfl (fun h => by cases h) (by intro ad had j u hu; injection had with had; subst had; exact World.news_of_block (heap_alloc_new _ _) j u hu) (by simp [Value.oneCell']) (by have := HLn.out; unfold maxLen; omega) (by have := HLn.out; omega) (Nat.le_trans HF2.out.kp.size (below_alloc _ _).size) ?_; intro A1 c1 w3 hown hgrow hat; obtain ⟨e1, e2, hr, hf2, hz⟩ := HFd2.out.key HR2.out HF2.out (below_alloc _ _) hgrow hown hat; have HRk := hid_ hr; have HFk := hid_ hf2; have HZk := hid_ hz; clear hr hf2 hz hown hgrow hat)
      | (go_simp; go_at_call 65; refine (fresh_c (HR.out.drew 1) (HFd.out.to (Fr.drew HR.out 1)).nr.own (by have := HLn.out; omega) kind h7).mono ?_; intro e w2 hE; rcases hE.cases with ⟨x, k2, ns2, hA, rfl, hR, hF⟩ | ⟨er, hA, rfl, hB⟩; rotate_left; (focus (have HAe := hid_ (HE.out.trans (Tr.bind_err hA)); have HBe := hid_ ((HF.out.bel HR0.out).trans ((Fr.drew HR.out 1).bel HR.out |>.trans hB)); have HQ := hid_ (show EPI (VaI w0 rb g kind bt) w0 rb c L A (.panicked (thrown er)) w2 from by rw [HAe.out]; exact ⟨rfl, HBe.out⟩); clear hE hA hB; exact ⟨rfl, HQ.out⟩)); have hgo := (Tr.fresh_ok hA).1; have HA2 := hid_ (HE.out.trans (Tr.bind_good hA)); have HF2 := hid_ (HF.out.trans ((Fr.drew HR.out 1).trans hF)); have HR2 := hid_ hR; have HFd2 := hid_ ((HFd.out.to (Fr.drew HR.out 1)).to hF); have HO3 := hid_ (HFd2.out.nr.fr (Fr.of_below (below_alloc w2 (.cells #[.string (st x)] 9)) hR)); have d4 := HFd2.out.nB.cell 0; have e4 := fun o => (HFd2.out.nB.alloc o).cell 0; clear hE hA hR hF)
      | fail)
    all_goals
      go_wp2_with fail
      go_meet
      exact ⟨x, k2, ns2, hgo, HA2.out, HRk.out, HFk.out, _, HZk.out⟩
  case rest =>
    obtain ⟨x, k2, ns2, hgo, hA2, hRk, hFk, nv, hZk⟩ := hcut
    have HA2 := hid_ hA2
    have HRk := hid_ hRk
    have HFk := hid_ hFk
    have HGo := hid_ hgo
    obtain ⟨A4, dd4, rfl⟩ := own_form hZk.ls.own
    obtain ⟨q, N, dq, rfl⟩ := hZk.form
    have HFd4 := hid_ hZk
    have r00 : wc.cell? ⟨g, 0, none⟩ = some (rv rb) := hZk.rB.cell 0
    have r02 : wc.cell? ⟨g + 2, 0, none⟩ = some (.string (st bt)) := hZk.bB.cell 0
    have HMu := hid_ (must_c HRk.out bt)
    unfold rv at r00 HMu
    clear hA2 hRk hFk hZk hgo
    clear c0 c1 c4 HR HF HFd HE
    go_wp2_with fail
    refine (HMu.out).mono ?_
    intro e w5 hE
    rcases hE.cases with ⟨u5, k5, ns5, hA, rfl, hR, hF⟩ | ⟨er, hA, rfl, hB⟩
    rotate_left
    · have HAe := hid_ (HA2.out.trans (Tr.bind_err hA))
      have HBe := hid_ ((HFk.out.bel HR0.out).trans hB)
      clear hE hA hB
      go_wp2_with fail
      rw [HAe.out]
      exact ⟨rfl, rfl, HBe.out⟩
    have HA5 := hid_ (HA2.out.trans (Tr.bind_good hA))
    have HF5 := hid_ (HFk.out.trans hF)
    have HR5 := hid_ hR
    obtain ⟨hk5, _⟩ := Tr.must_ok hA
    have HK5 := hid_ hk5
    have HFd5 := hid_ (HFd4.out.to hF)
    obtain ⟨hN, x5⟩ := HFd5.out.look
    have HN := hid_ hN
    have m0 : (0 : Int) ≤ (N : Int) - 1 := by omega
    have m9 : (1 : Int) ≤ (N : Int) := by omega
    have m1 : (N : Int) - 1 < (N : Int) := by omega
    have m2 : ((N : Int) - 1).toNat = N - 1 := by omega
    have m3 : IntKind.i64.wrap ((N : Int) - 1) = (N : Int) - 1 := IntWalk.i64_in _ (by have := HLn.out; omega)
    have y0 : w5.cell? ⟨g, 0, none⟩ = some (.pointer (some ⟨rb, 0, none⟩)) := HFd5.out.rB.cell 0
    have y3 : w5.cell? ⟨g + 3, 0, none⟩ = some (.slice A4 s.length dd4) := HFd5.out.lB.cell 0
    have y4 : w5.cell? ⟨g + 4, 0, none⟩ = some (.slice (some ⟨q, 0, none⟩) N dq) := HFd5.out.nB.cell 0
    have HTc := hid_ (fun n => typ_all L (w5.drewN n) rb k5 c ns5 (Tr.fuel L) 1 (by omega) (by omega) (by omega) (by omega) (by unfold Tr.fuel; omega) (HR5.out.drew n))
    unfold rv at HTc
    clear hN hk5 r00 r02 HMu
    clear hE hA hR hF
    go_wp2_with fail
    go_region_law (first
      | (refine step_append_any (by rfl) (.tmp 17) (.tmp 27) 52 (by rfl) w0.heap.size 67 j0 _ 2 24 Tryz.underlying52 hj0 hy0 hy1 hy2 rfl (by omega) (.slice A4 s.length dd4) s.length _ (by rfl) HO7.out.own (some ⟨w6.heap.size, 0, none⟩) 1 1 [.string (st x), .int .i64 n6] (by rfl) rfl (fun h => by cases h) (by intro ad had j u hu; injection had with had; subst had; exact World.news_of_block (heap_alloc_new _ _) j u hu) (by simp [Value.oneCell']) (by have := HP.out; unfold maxLen; omega) (by have := HP.out; omega) (Nat.le_trans HF6.out.kp.size (below_alloc _ _).size) ?_; intro A7 c7 w7 hown hgrow hat; obtain ⟨e1, e2, hr, hf2, hz⟩ := HFd6.out.put (x := ⟨x, n6⟩) HR6.out HF6.out (below_alloc _ _) hgrow hown hat; have HRk := hid_ hr; have HFk := hid_ hf2; have HZk := hid_ hz; clear hr hf2 hz hown hgrow hat)
      | (go_simp; refine (HTc.out 1).mono ?_; intro e w6 hE; rcases hE.cases with ⟨n6, k6, ns6, hA, rfl, hR, hF⟩ | ⟨er, hA, rfl, hB⟩; rotate_left; (focus (have HAe := hid_ (HA5.out.trans (Tr.bind_err (show Tr.typ L 1 k5 ns5 = .error er from hA))); have HBe := hid_ ((HF5.out.bel HR0.out).trans ((Fr.drew HR5.out 1).bel HR5.out |>.trans hB)); have HQ := hid_ (show EPI (VaI w0 rb g kind bt) w0 rb c L A (.panicked (thrown er)) w6 from by rw [HAe.out]; exact ⟨rfl, HBe.out⟩); clear hE hA hB; exact ⟨rfl, HQ.out⟩)); have HA6 := hid_ (HA5.out.trans (Tr.bind_good (show Tr.typ L 1 k5 ns5 = .ok (n6, k6, ns6) from hA))); have HF6 := hid_ (HF5.out.trans ((Fr.drew HR5.out 1).trans hF)); have HR6 := hid_ hR; have HFd6 := hid_ ((HFd5.out.to (Fr.drew HR5.out 1)).to hF); have HO7 := hid_ (HFd6.out.ls.fr (Fr.of_below (below_alloc w6 (.cells #[.string (st x), .int .i64 n6] 67)) hR)); have d3 := HFd6.out.lB.cell 0; have e3 := fun o => (HFd6.out.lB.alloc o).cell 0; have d4 := HFd6.out.nB.cell 0; have d5 := HFd6.out.look.2; clear hE hA hR hF)
      | fail)
    all_goals
      go_wp2_with fail
      go_end0
      rw [HA6.out]
      exact ⟨rfl, HRk.out, HFk.out, _, _, by rw [List.map_append, HXs.out]; exact HZk.out⟩
end
end Go.Proofs.YtmgjmagniefhoaaGreatDoor
