/-
  PairGroup, of the program and of the reference.
-/
import Derived.Test.YtogenfooeplkmaaSubB
import Derived.Test.YtogenfooeplkmaaSubC
import Derived.Test.YtogenfooeplkmaaPut
import Derived.Test.YtogenfooeplkmaaGenS
import Derived.Test.YtogenfooeplkmaaGroupOkS
import Derived.Test.YtogenfooeplkmaaGroupOkI
namespace Go.Proofs.Ytogenfooeplkmaa
open Go.RowKit Go.Deep

theorem pairGroup_no {g : List (List Int)} (h : groupOk g = false ∨ deg g < 3 ∨ 5 < deg g) : pairGroup g = ([], false) := by
  unfold pairGroup
  rw [if_neg]
  rintro ⟨h1, h2, h3⟩
  rcases h with h | h | h
  · rw [h1] at h; cases h
  · omega
  · omega
theorem pairGroup_yes {g : List (List Int)} (hg : groupOk g = true) (h3 : 3 ≤ deg g) (h5 : deg g ≤ 5) : pairGroup g = (sortL (g.map fun p => (pairAction p).1), true) := by unfold pairGroup; rw [if_pos ⟨hg, h3, h5⟩]
theorem Grp.pair_len {g : List (List Int)} (h : Grp g) (h3 : 3 ≤ deg g) (h5 : deg g ≤ 5) {p : List Int} (hp : p ∈ g) : (pairAction p).1.length = (subs 2 0 (deg g)).length := by
  have hl := h.len p hp
  rw [pairAction_yes (h.perm p hp) (by omega) (by omega)]
  show (movedL _ _).length = _
  rw [movedL_len, hl]

set_option maxHeartbeats 3200000 in
theorem implPairGroup_any {w : World} {a : Value} {gs : List (List Int)} (ha : RII w a gs) :
    Calls Try.prog 53 #[a] w fun e w' => ∃ v, e = .returned (.tuple #[v, .bool (pairGroup gs).2]) ∧ OII w' w.heap.size v (pairGroup gs).1 ∧ Below w.heap.size w w' := by
  have HA := Lib.hid ha
  obtain ⟨A, c, rfl, -, hx⟩ := ha
  cases hg : groupOk gs with
  | false =>
    have HC := Lib.hid (pairGroup_no (.inl hg))
    have HG := Lib.hid hg
    clear hg hx
    go_enter Try.func53, Try.ntmps53
    go_wp2_with fail
    refine (implGroupOk_any HA.out).mono ?_
    rw [HG.out]
    rintro e w1 ⟨rfl, b1⟩
    go_wp2
    go_ret2
    exact ⟨_, ret2 (by rw [HC.out]), by rw [HC.out]; exact OII.nil _ _, b1⟩
  | true =>
  have HG := Lib.hid hg
  have HGR := Lib.hid (grp_of hg)
  obtain ⟨n, hn⟩ : ∃ n, n = gs.length := ⟨_, rfl⟩
  have h1 : 1 ≤ n := by have := HGR.out.one; omega
  have h2 : n ≤ 120 := by have := HGR.out.le; omega
  rw [← hn] at hx HA ⊢
  have HL := Lib.hid hn
  have HX := Lib.hid hx
  clear hn hx hg
  obtain ⟨b1, o1, rfl, hb1, hc1⟩ := HX.out (by omega)
  obtain ⟨A0, c0, cc0, rr0⟩ := RII.at hc1 (k := 0) (by omega)
  obtain ⟨d, hd⟩ : ∃ d, d = (gs.getD 0 []).length := ⟨_, rfl⟩
  have hd' : d = deg gs := hd
  have hdr := HGR.out.deg_le
  rw [← hd'] at hdr
  rw [← hd] at cc0
  simp only [Nat.add_zero] at cc0
  have HD := Lib.hid hd'
  have HC1 := Lib.hid hc1
  clear rr0 hd hd' hc1
  have y1 : decide ((d : Int) < 3) = decide (d < 3) := by rw [decide_eq_decide]; omega
  by_cases hr : d < 3 ∨ 5 < d
  · have HC := Lib.hid (pairGroup_no (g := gs) (.inr (by rw [← HD.out]; exact hr)))
    rcases hr with hr | hr
    all_goals
      go_enter Try.func53, Try.ntmps53
      go_wp2_with fail
      refine (implGroupOk_any HA.out).mono ?_
      rw [HG.out]
      rintro e w1 ⟨rfl, b⟩
      have e0 := (b.cell (p := ⟨b1, o1, none⟩) hb1).trans cc0
      have B0 := Lib.hid b
      clear b cc0
      go_wp2_with fail
      go_ret2
      exact ⟨_, ret2 (by rw [HC.out]), by rw [HC.out]; exact OII.nil _ _, B0.out⟩
  clear y1
  have z1 : decide ((d : Int) < 3) = false := decide_eq_false (by omega)
  have z2 : decide (d < 3) = false := decide_eq_false (by omega)
  have z3 : decide ((5 : Int) < (d : Int)) = false := decide_eq_false (by omega)
  have z4 : decide (5 < d) = false := decide_eq_false (by omega)
  have h3 : 3 ≤ d := by omega
  have h5 : d ≤ 5 := by omega
  have HC := Lib.hid (pairGroup_yes HG.out (by rw [← HD.out]; exact h3) (by rw [← HD.out]; exact h5))
  have HPL : Hid (∀ p ∈ gs, (pairAction p).1.length = (subs 2 0 (deg gs)).length) := fun p hp => HGR.out.pair_len (by rw [← HD.out]; exact h3) (by rw [← HD.out]; exact h5) hp
  go_enter Try.func53, Try.ntmps53
  go_wp2_with fail
  refine (implGroupOk_any HA.out).mono ?_
  rw [HG.out]
  rintro e w1 ⟨rfl, b⟩
  have e0 := (b.cell (p := ⟨b1, o1, none⟩) hb1).trans cc0
  have B0 := Lib.hid b
  clear b cc0
  go_wp2_with fail
  clear e0
  have H0 : Hid (OII (w1.alloc (.cells #[] 33)) w.heap.size (.slice (some ⟨w1.heap.size, 0, none⟩) 0 0) ((gs.take 0).map fun p => (pairAction p).1) ∧ Below w.heap.size w (w1.alloc (.cells #[] 33))) :=
    ⟨OIIh.mono (OIIh.lit w1) B0.out.size (by simp), B0.out.alloc B0.out.size _⟩
  go_loopw [4, 29] (fun v i wr => ∃ k : Nat, k ≤ n ∧ i = .int .i64 k ∧ Hid (OII wr w.heap.size v ((gs.take k).map fun p => (pairAction p).1) ∧ Below w.heap.size w wr)) (fun _ i _ => n - (intOf i).toNat)
  case atStart => exact ⟨0, Nat.zero_le _, rfl, H0.out⟩
  case round =>
    obtain ⟨k, hk, rfl, HR⟩ := hrel
    obtain ⟨done, hdone⟩ : ∃ done, done = (gs.take k).map fun p => (pairAction p).1 := ⟨_, rfl⟩
    have hdl : done.length = k := by rw [hdone, List.length_map, List.length_take]; have := HL.out; omega
    rw [← hdone] at HR
    obtain ⟨A4, c4, rfl, h4⟩ := OIIh.form HR.out.1
    rw [hdl] at HR h4 ⊢
    have HDL := Lib.hid hdl
    by_cases hlt : k < n
    · have hkl : k < gs.length := by have := HL.out; omega
      obtain ⟨A1, c1, cc1, rr1⟩ := RII.at HC1.out (k := k) hlt
      have e1 := (HR.out.2.cell (p := ⟨b1, o1 + k, none⟩) hb1).trans cc1
      obtain ⟨p, hp⟩ : ∃ p, p = gs.getD k [] := ⟨_, rfl⟩
      rw [← hp] at e1 rr1
      have HT : Hid (((gs.take (k + 1)).map fun p => (pairAction p).1) = done ++ [(pairAction p).1]) := by rw [Hid, takeG_succ hkl, List.map_append, ← hdone, ← hp]; rfl
      have HP := Lib.hid (rr1.below HR.out.2)
      clear cc1 rr1 hp hkl hdone hdl h4
      go_wp2_with fail
      refine (implPairAction_any HP.out).mono ?_
      rintro e w2 ⟨v2, rfl, o, b⟩
      have HO2 := Lib.hid (And.intro o b)
      obtain ⟨A2, c2, rfl, -⟩ := OI.form o
      have HOW : Hid (OIIh w2 w.heap.size wr.heap.size (.slice A4 k c4) done) := OIIh.step HR.out.1 b
      have HBW := Lib.hid (bstep HR.out.2 b)
      clear o b e1
      go_wp2_with (at_builtin; refine wpList_appRow _ rfl (.tmp 38) (.tmp 40) rfl w.heap.size wr.heap.size wr.heap.size w2.heap.size _ _ done (pairAction p).1 rfl rfl rfl HOW.out HO2.out.1 (Nat.le_refl _) HR.out.2.size (OI.bound HO2.out.1) HO2.out.2.size (by have := HDL.out; omega) HBW.out.size ?_; intro v3 w3 ho hb _)
      have HN : Hid (OII w3 w.heap.size v3 ((gs.take (k + 1)).map fun p => (pairAction p).1) ∧ Below w.heap.size w w3) := ⟨by rw [HT.out]; exact OIIh.toOII ho, HBW.out.trans hb⟩
      clear ho hb
      go_wp2_with fail
      go_roundw
      case rel => exact ⟨k + 1, by omega, by go_num, HN.out⟩
      case measure => simp [intOf]; omega
    · obtain rfl : n = k := by omega
      obtain ⟨g, rfl, -⟩ := h4 (by omega)
      have HR1 : Hid (OIIh wr w.heap.size wr.heap.size (.slice (some ⟨g, 0, none⟩) n c4) done) := HR.out.1
      have HE : Hid (done = gs.map fun p => (pairAction p).1) := by rw [Hid, hdone, List.take_of_length_le (by have := HL.out; omega)]
      clear hdone hdl h4
      go_wp2_with fail
      refine (sortRows_any HR1.out HDL.out (by omega) (by have := HDL.out; omega)).mono ?_
      rintro e w2 ⟨rfl, o, gr⟩
      have HF : Hid (OII w2 w.heap.size (.slice (some ⟨g, 0, none⟩) n c4) (sortL done) ∧ Below w.heap.size w w2) := ⟨OIIh.toOII o, HR.out.2.grown gr HR.out.2.size (fun gg hg => by cases hg; exact (OIIh.form2 HR1.out).1)⟩
      clear o gr
      go_wp2_with fail
      go_ret2
      exact ⟨_, ret2 (by rw [HC.out]), by rw [HC.out, ← HE.out]; exact HF.out.1, HF.out.2⟩

set_option maxHeartbeats 3200000 in
theorem specPairGroup_any {w : World} {a : Value} {gs : List (List Int)} (ha : RII w a gs) :
    Calls Try.prog 55 #[a] w fun e w' => ∃ v, e = .returned (.tuple #[v, .bool (pairGroup gs).2]) ∧ OII w' w.heap.size v (pairGroup gs).1 ∧ Below w.heap.size w w' := by
  have HA := Lib.hid ha
  obtain ⟨A, c, rfl, -, hx⟩ := ha
  cases hg : groupOk gs with
  | false =>
    have HC := Lib.hid (pairGroup_no (.inl hg))
    have HG := Lib.hid hg
    clear hg hx
    go_enter Try.func55, Try.ntmps55
    go_wp2_with fail
    refine (specGroupOk_any HA.out).mono ?_
    rw [HG.out]
    rintro e w1 ⟨rfl, b1⟩
    go_wp2
    go_ret2
    exact ⟨_, ret2 (by rw [HC.out]), by rw [HC.out]; exact OII.nil _ _, b1⟩
  | true =>
  have HG := Lib.hid hg
  have HGR := Lib.hid (grp_of hg)
  obtain ⟨n, hn⟩ : ∃ n, n = gs.length := ⟨_, rfl⟩
  have h1 : 1 ≤ n := by have := HGR.out.one; omega
  have h2 : n ≤ 120 := by have := HGR.out.le; omega
  rw [← hn] at hx HA ⊢
  have HL := Lib.hid hn
  have HX := Lib.hid hx
  clear hn hx hg
  obtain ⟨b1, o1, rfl, hb1, hc1⟩ := HX.out (by omega)
  obtain ⟨A0, c0, cc0, rr0⟩ := RII.at hc1 (k := 0) (by omega)
  obtain ⟨d, hd⟩ : ∃ d, d = (gs.getD 0 []).length := ⟨_, rfl⟩
  have hd' : d = deg gs := hd
  have hdr := HGR.out.deg_le
  rw [← hd'] at hdr
  rw [← hd] at cc0
  simp only [Nat.add_zero] at cc0
  have HD := Lib.hid hd'
  have HC1 := Lib.hid hc1
  clear rr0 hd hd' hc1
  by_cases hr : d < 3 ∨ 5 < d
  · have HC := Lib.hid (pairGroup_no (g := gs) (.inr (by rw [← HD.out]; exact hr)))
    go_enter Try.func55, Try.ntmps55
    go_wp2_with fail
    refine (specGroupOk_any HA.out).mono ?_
    rw [HG.out]
    rintro e w1 ⟨rfl, b⟩
    have e0 := (b.cell (p := ⟨b1, o1, none⟩) hb1).trans cc0
    have B0 := Lib.hid b
    clear b cc0
    go_wp2_with fail
    refine (l01In_no (d : Int) 3 5 _ (by omega)).mono ?_
    rintro e w2 ⟨rfl, rfl⟩
    go_wp2_with fail
    go_ret2
    exact ⟨_, ret2 (by rw [HC.out]), by rw [HC.out]; exact OII.nil _ _, B0.out⟩
  have h3 : 3 ≤ d := by omega
  have h5 : d ≤ 5 := by omega
  have HC := Lib.hid (pairGroup_yes HG.out (by rw [← HD.out]; exact h3) (by rw [← HD.out]; exact h5))
  have HPL : Hid (∀ p ∈ gs, (pairAction p).1.length = (subs 2 0 (deg gs)).length) := fun p hp => HGR.out.pair_len (by rw [← HD.out]; exact h3) (by rw [← HD.out]; exact h5) hp
  go_enter Try.func55, Try.ntmps55
  go_wp2_with fail
  refine (specGroupOk_any HA.out).mono ?_
  rw [HG.out]
  rintro e w1 ⟨rfl, b⟩
  have e0 := (b.cell (p := ⟨b1, o1, none⟩) hb1).trans cc0
  have B0 := Lib.hid b
  clear b cc0
  go_wp2_with fail
  refine (l01In_yes (d : Int) 3 5 _ (by omega) (by omega)).mono ?_
  rintro e w2 ⟨rfl, rfl⟩
  clear e0
  go_wp2_with fail
  have H0 : Hid (Below w.heap.size w (w1.alloc (.cells #[] 33)) ∧ RV (w1.alloc (.cells #[] 33)) w.heap.size [] ∧ (w1.alloc (.cells #[] 33)).ownsRow w.heap.size 33 1 (.slice (some ⟨w1.heap.size, 0, none⟩) 0 0) 0 []) :=
    ⟨B0.out.alloc B0.out.size _, RV.nil _ _, World.ownsRow_lit w1 #[] 0 B0.out.size (by simp) rfl⟩
  go_loopw [4, 23] (fun v i wr => ∃ (k : Nat) (sr : List (Value × List Int)) (g c : Nat), k ≤ n ∧ i = .int .i64 k ∧ v = .slice (some ⟨g, 0, none⟩) k c ∧ Hid (sr.length = k ∧ sr.map Prod.snd = sortL ((gs.take k).map fun p => (pairAction p).1)) ∧ Hid (Below w.heap.size w wr ∧ RV wr w.heap.size sr ∧ wr.ownsRow w.heap.size 33 1 v sr.length (sr.map Prod.fst))) (fun _ i _ => n - (intOf i).toNat)
  case atStart => exact ⟨0, [], _, _, Nat.zero_le _, rfl, rfl, ⟨rfl, by simp [sortL]⟩, H0.out⟩
  case round =>
    obtain ⟨k, sr, g, c4, hk, rfl, rfl, HSR, HR⟩ := hrel
    by_cases hlt : k < n
    · have hkl : k < gs.length := by have := HL.out; omega
      obtain ⟨A1, c1, cc1, rr1⟩ := RII.at HC1.out (k := k) hlt
      have e1 := (HR.out.1.cell (p := ⟨b1, o1 + k, none⟩) hb1).trans cc1
      obtain ⟨p, hp⟩ : ∃ p, p = gs.getD k [] := ⟨_, rfl⟩
      rw [← hp] at e1 rr1
      have hpm : p ∈ gs := by rw [hp]; exact getD_memS hkl
      have HT : Hid (((gs.take (k + 1)).map fun p => (pairAction p).1) = ((gs.take k).map fun p => (pairAction p).1) ++ [(pairAction p).1]) := by rw [Hid, takeG_succ hkl, List.map_append, ← hp]; rfl
      have HP := Lib.hid (rr1.below HR.out.1)
      have HLN : Hid (∀ r ∈ sr, r.2.length = (pairAction p).1.length) := fun r hr => by
        have h1 : r.2 ∈ sr.map Prod.snd := List.mem_map.2 ⟨r, hr, rfl⟩
        rw [HSR.out.2, mem_sortL] at h1
        obtain ⟨q, hq, he⟩ := List.mem_map.1 h1
        rw [← he, HPL.out q (List.mem_of_mem_take hq), HPL.out p hpm]
      clear cc1 rr1 hp hkl hpm
      go_wp2_with fail
      refine (specPairAction_any HP.out).mono ?_
      rintro e w2 ⟨v2, rfl, o, b⟩
      have HO2 := Lib.hid (And.intro o b)
      obtain ⟨A2, c2, rfl, -⟩ := OI.form o
      have HRV := Lib.hid (HR.out.2.1.step b)
      have HOW := Lib.hid (own_step HR.out.2.2 b)
      have HBW := Lib.hid (bstep HR.out.1 b)
      clear o b e1
      go_wp2_with fail
      refine (l03Put_any HOW.out HSR.out.1 HRV.out HO2.out.1.reads HLN.out (by omega)).mono ?_
      rintro e w3 ⟨v3, rfl, ho3, b3⟩
      have hl3 : (putR sr (.slice A2 (pairAction p).1.length c2, (pairAction p).1)).length = k + 1 := by rw [putR_len, HSR.out.1]
      obtain ⟨g3, c3, hv3, -⟩ := own_cell ho3 (by omega)
      rw [hl3] at hv3
      subst hv3
      have HN : Hid (Below w.heap.size w w3 ∧ RV w3 w.heap.size (putR sr (.slice A2 (pairAction p).1.length c2, (pairAction p).1)) ∧ w3.ownsRow w.heap.size 33 1 (.slice (some ⟨g3, 0, none⟩) (k + 1) c3) (putR sr (.slice A2 (pairAction p).1.length c2, (pairAction p).1)).length ((putR sr (.slice A2 (pairAction p).1.length c2, (pairAction p).1)).map Prod.fst)) := by
        refine ⟨bstep HBW.out b3, (RV.snoc (mid := wr.heap.size) (HRV.out.step b3) (fun r hr gg hg => ((HR.out.2.1.own r hr).lt gg hg).2) (OI.step HO2.out.1 b3) HR.out.1.size).perm (putR_perm _ _), own_mono ho3 HBW.out.size⟩
      have HS : Hid ((putR sr (.slice A2 (pairAction p).1.length c2, (pairAction p).1)).length = k + 1 ∧ (putR sr (.slice A2 (pairAction p).1.length c2, (pairAction p).1)).map Prod.snd = sortL ((gs.take (k + 1)).map fun p => (pairAction p).1)) :=
        ⟨hl3, by rw [putR_snd, HSR.out.2, putL_sortL, HT.out]⟩
      clear ho3 b3 hl3
      go_wp2_with fail
      go_roundw
      case rel => exact ⟨k + 1, _, g3, c3, by omega, by go_num, rfl, HS.out, HN.out⟩
      case measure => simp [intOf]; omega
    · obtain rfl : n = k := by omega
      have HF : Hid (OII wr w.heap.size (.slice (some ⟨g, 0, none⟩) n c4) (sortL (gs.map fun p => (pairAction p).1)) ∧ Below w.heap.size w wr) := by
        have h := HR.out.2.1.toOII HR.out.2.2
        rw [HSR.out.2, List.take_of_length_le (by have := HL.out; omega)] at h
        exact ⟨h, HR.out.1⟩
      go_wp2_with fail
      go_ret2
      exact ⟨_, ret2 (by rw [HC.out]), by rw [HC.out]; exact HF.out.1, HF.out.2⟩

theorem pairGroup_total (g : List (List Int)) : totalL (pairGroup g).1 ≤ 1200 := by
  unfold pairGroup
  split
  · rename_i h
    have hG := grp_of h.1
    have h1 : totalL (sortL (g.map fun p => (pairAction p).1)) ≤ (sortL (g.map fun p => (pairAction p).1)).length * 10 := totalL_le fun x hx => by
      obtain ⟨p, _, rfl⟩ := List.mem_map.1 (mem_sortL.1 hx)
      exact pairAction_len p
    rw [sortL_len, List.length_map] at h1
    have := hG.le
    show totalL (sortL _) ≤ 1200
    omega
  · simp [totalL]
end Go.Proofs.Ytogenfooeplkmaa
