/-
  The law FnPairs returns true for every input.
-/
import Derived.Test.YtogenfooeplkmaaRowB
import Derived.Test.YtogenfooeplkmaaPairFn
import Derived.Test.YtogenfooeplkmaaPairGrp
import Derived.Test.YtogenfooeplkmaaSubB
import Derived.Test.YtogenfooeplkmaaSubI
import Derived.Test.YtogenfooeplkmaaTurn
import Derived.Test.YtogenfooeplkmaaGroupOkI
import Derived.Test.YtogenfooeplkmaaSame
namespace Go.Proofs.Ytogenfooeplkmaa.lFnPairs
open Go.ChangeShapes Go.WideShapes Go.ChangeAt Go.RowKit
open Go.ChangeMaps (open_string shut_string)

/-- What the law asks of the symmetric group. -/
theorem sym_pairs {z : Int} (h : z = 3 ∨ z = 4) : ∃ s g, symmetricGroup z = (s, true) ∧ pairGroup s = (g, true) ∧ groupOk g = true ∧ g.length = s.length := by
  obtain ⟨m, rfl, h1, h2⟩ : ∃ m : Nat, z = (m : Int) ∧ 3 ≤ m ∧ m ≤ 4 := ⟨z.toNat, by omega, by omega, by omega⟩
  have hc : symCheck m = true := by
    rcases (show m = 3 ∨ m = 4 by omega) with rfl | rfl
    · exact symCheck3
    · exact symCheck4
  have hgen : gensOk m [turnP (m : Int), swapL m] = true := by
    rcases (show m = 3 ∨ m = 4 by omega) with rfl | rfl <;> decide
  unfold symCheck at hc
  cases hq : genAll m [turnL m, swapL m] with
  | none => rw [hq] at hc; cases hc
  | some q =>
    rw [hq] at hc
    simp only [Bool.and_eq_true, decide_eq_true_iff] at hc
    obtain ⟨⟨h3, h4⟩, h5⟩ := hc
    have hs := groupOf_some (by omega) (by omega) hgen (by rw [turnP_yes (by omega) (by omega)]; exact hq)
    rw [sortP_eq q] at h3 h4 h5
    have hg := grp_of h3
    have hmap : (sortL q).map (fun p => (pairAction p).1) = (sortL q).map (pairF m) := List.map_congr_left fun p hp => by
      have hpl := hg.len p hp
      rw [h4] at hpl
      rw [pairAction_yes (hg.perm p hp) (by omega) (by omega), hpl]
      unfold movedL pairF
      refine List.map_congr_left fun l hl => ?_
      have hm := subs_mem hl
      show findIdx _ _ = findIdx _ _
      rw [← imgTo_end (hg.perm p hp) hm.2.1 (by rw [hpl]; exact hm.2.2), hpl]
    refine ⟨sortL q, sortL ((sortL q).map fun p => (pairAction p).1), by rw [symmetricGroup_yes (by omega) (by omega)]; exact hs, ?_, ?_, ?_⟩
    · unfold pairGroup; rw [if_pos ⟨h3, by omega, by omega⟩]
    · rw [hmap, ← sortP_eq]; exact h5
    · rw [sortL_len, List.length_map]

set_option maxHeartbeats 8000000 in
set_option maxRecDepth 100000 in
theorem walk (w : World) {a0 : Value} {n0 : Nat} (ha0 : RBy w w.heap.size a0 n0) : Calls Try.prog 13 #[a0] w fun e w' => e = .returned (.bool true) ∧ Below w.heap.size w w' := by
  have HA := Lib.hid ha0
  obtain ⟨A0, c0, rfl, hn0, -⟩ := ha0
  have hm0 : n0 ≤ 9223372036854775807 := by unfold maxLen at hn0; omega
  have B := Lib.hid (Below.refl w.heap.size w)
  by_cases g0 : (1048576 : Int) < n0
  · go_enter Try.func13, Try.ntmps13
    go_wp2
    go_ret
    exact ⟨rfl, B.out⟩
  go_enter Try.func13, Try.ntmps13
  go_wp2_with fail
  refine (MakeNum_any (HA.out.step B.out) 1 (by omega)).mono ?_
  rintro e w1 ⟨m', rfl, m0, m1, b⟩
  replace B := Lib.hid (bstep B.out b)
  clear b
  obtain ⟨m, rfl⟩ := Int.eq_ofNat_of_zero_le m0
  have hmod : ((m : Int)).tmod 3 = ((m % 3 : Nat) : Int) := rfl
  obtain ⟨k3, hk3⟩ : ∃ k3, k3 = m % 3 := ⟨_, rfl⟩
  rw [← hk3] at hmod
  obtain ⟨n, hn⟩ : ∃ n, n = 3 + k3 := ⟨_, rfl⟩
  have hn1 : (3 : Int) + (k3 : Int) = (n : Int) := by omega
  have hnr : 3 ≤ n ∧ n ≤ 5 := by omega
  have hk3' : k3 ≤ 2 := by omega
  clear hn hk3 m0 m1
  go_wp2_with fail
  refine (MakeNum_any (HA.out.step B.out) 3 (by omega)).mono ?_
  rintro e w2 ⟨y', rfl, y0, y1, b⟩
  replace B := Lib.hid (bstep B.out b)
  clear b
  obtain ⟨y, rfl⟩ := Int.eq_ofNat_of_zero_le y0
  obtain ⟨k, hk⟩ : ∃ k, k = y % (n + 1) := ⟨_, rfl⟩
  have hmod2 : ((y : Int)).tmod ((n : Int) + 1) = (k : Int) := by rw [hk]; rfl
  have hkn : k ≤ n := by have := Nat.mod_lt y (show 0 < n + 1 by omega); omega
  have hz : ((n : Int) + 1 == 0) = false := by simp; omega
  clear hk y0 y1
  go_wp2_with fail
  refine (MakePerm_any (HA.out.step B.out) 20 (by omega) n (by omega) (by omega) _ (by omega)).mono ?_
  rintro e w3 ⟨vp, p, rfl, o, hp, hpl, b⟩
  replace B := Lib.hid (bstep B.out b)
  have OP := Lib.hid o
  have HP := Lib.hid hp
  have LP := Lib.hid hpl
  clear o hp hpl b
  go_wp2_with fail
  refine (MakePerm_any (HA.out.step B.out) 40 (by omega) n (by omega) (by omega) _ (by omega)).mono ?_
  rintro e w4 ⟨vq, q, rfl, o, hp, hpl, b⟩
  replace B := Lib.hid (bstep B.out b)
  replace OP := Lib.hid (OI.step OP.out b)
  have OQ := Lib.hid o
  have HQ := Lib.hid hp
  have LQ := Lib.hid hpl
  clear o hp hpl b
  have HPQ := Lib.hid (compose_ok HP.out HQ.out (LP.out.trans LQ.out.symm))
  have LPQ : Hid ((compose p q).length = n) := (compose_len p q).trans LP.out
  have R0 := Lib.hid (composePerm_yes HP.out HQ.out (LP.out.trans LQ.out.symm))
  have R1 : Hid (subsetAction p (k : Int) = (movedL (subs k 0 n) p, true)) := by have h := subsetAction_yes (k := k) HP.out (by rw [LP.out]; omega) (by rw [LP.out]; omega); rw [LP.out] at h; exact h
  have R2 : Hid (subsetAction q (k : Int) = (movedL (subs k 0 n) q, true)) := by have h := subsetAction_yes (k := k) HQ.out (by rw [LQ.out]; omega) (by rw [LQ.out]; omega); rw [LQ.out] at h; exact h
  have R3 : Hid (subsetAction (compose p q) (k : Int) = (movedL (subs k 0 n) (compose p q), true)) := by have h := subsetAction_yes (k := k) HPQ.out (by rw [LPQ.out]; omega) (by rw [LPQ.out]; omega); rw [LPQ.out] at h; exact h
  have R4 : Hid (composePerm (movedL (subs k 0 n) p) (movedL (subs k 0 n) q) = (movedL (subs k 0 n) (compose p q), true)) := by
    have h := composePerm_yes (moved_ok (k := k) HP.out LP.out (by omega) hkn) (moved_ok (k := k) HQ.out LQ.out (by omega) hkn) (by rw [movedL_len, movedL_len])
    rw [moved_comp HP.out LP.out] at h; exact h
  have R5 : Hid (pairAction p = (movedL (subs 2 0 n) p, true)) := by have h := pairAction_yes HP.out (by rw [LP.out]; omega) (by rw [LP.out]; omega); rw [LP.out] at h; exact h
  have R6 : Hid (subsetAction p 2 = (movedL (subs 2 0 n) p, true)) := by have h := subsetAction_yes (k := 2) HP.out (by rw [LP.out]; omega) (by rw [LP.out]; omega); rw [LP.out] at h; exact h
  have E1 : Hid (decide (movedL (subs k 0 n) (compose p q) = movedL (subs k 0 n) (compose p q)) = true) := decide_eq_true rfl
  have E2 : Hid (decide (movedL (subs 2 0 n) p = movedL (subs 2 0 n) p) = true) := decide_eq_true rfl
  have N1 := Lib.hid (subsetsOf_yes (n := n) (k := k) (by omega) (by omega) hkn)
  have N2 := Lib.hid (pairsOf_yes (n := n) (by omega) (by omega))
  obtain ⟨sn, hsn⟩ : ∃ sn, sn = (subs k 0 n).length := ⟨_, rfl⟩
  obtain ⟨pn, hpn⟩ : ∃ pn, pn = (subs 2 0 n).length := ⟨_, rfl⟩
  have SN := Lib.hid (And.intro hsn hpn)
  clear hsn hpn
  go_wp2_with fail
  have hc := implComposePerm_any (w := w4) OP.out.reads OQ.out.reads
  simp only [R0.out] at hc
  refine hc.mono ?_
  clear hc
  rintro e w5 ⟨vPQ, rfl, o, b⟩
  replace B := Lib.hid (bstep B.out b)
  replace OP := Lib.hid (OI.step OP.out b)
  replace OQ := Lib.hid (OI.step OQ.out b)
  have OPQ := Lib.hid o
  clear o b
  go_wp2_with fail
  have hc := implSubsetAction_any (w := w5) OP.out.reads (k : Int)
  simp only [R1.out] at hc
  refine hc.mono ?_
  clear hc
  rintro e w6 ⟨vA, rfl, o, b⟩
  replace B := Lib.hid (bstep B.out b)
  replace OP := Lib.hid (OI.step OP.out b)
  replace OQ := Lib.hid (OI.step OQ.out b)
  replace OPQ := Lib.hid (OI.step OPQ.out b)
  have OA := Lib.hid o
  clear o b
  go_wp2_with fail
  have hc := implSubsetAction_any (w := w6) OQ.out.reads (k : Int)
  simp only [R2.out] at hc
  refine hc.mono ?_
  clear hc
  rintro e w7 ⟨vBB, rfl, o, b⟩
  replace B := Lib.hid (bstep B.out b)
  clear OQ
  replace OP := Lib.hid (OI.step OP.out b)
  replace OPQ := Lib.hid (OI.step OPQ.out b)
  replace OA := Lib.hid (OI.step OA.out b)
  have OBB := Lib.hid o
  clear o b
  go_wp2_with fail
  have hc := implSubsetAction_any (w := w7) OPQ.out.reads (k : Int)
  simp only [R3.out] at hc
  refine hc.mono ?_
  clear hc
  rintro e w8 ⟨vC, rfl, o, b⟩
  replace B := Lib.hid (bstep B.out b)
  clear OPQ
  replace OP := Lib.hid (OI.step OP.out b)
  replace OA := Lib.hid (OI.step OA.out b)
  replace OBB := Lib.hid (OI.step OBB.out b)
  have OC := Lib.hid o
  clear o b
  go_wp2_with fail
  have hc := implComposePerm_any (w := w8) OA.out.reads OBB.out.reads
  simp only [R4.out] at hc
  refine hc.mono ?_
  clear hc
  rintro e w9 ⟨vAB, rfl, o, b⟩
  replace B := Lib.hid (bstep B.out b)
  clear OBB
  replace OP := Lib.hid (OI.step OP.out b)
  replace OA := Lib.hid (OI.step OA.out b)
  replace OC := Lib.hid (OI.step OC.out b)
  have OAB := Lib.hid o
  clear o b
  go_wp2_with fail
  have hc := implPairAction_any (w := w9) OP.out.reads
  simp only [R5.out] at hc
  refine hc.mono ?_
  clear hc
  rintro e w10 ⟨vX, rfl, o, b⟩
  replace B := Lib.hid (bstep B.out b)
  replace OP := Lib.hid (OI.step OP.out b)
  replace OA := Lib.hid (OI.step OA.out b)
  replace OC := Lib.hid (OI.step OC.out b)
  replace OAB := Lib.hid (OI.step OAB.out b)
  have OX := Lib.hid o
  clear o b
  go_wp2_with fail
  have hc := implSubsetAction_any (w := w10) OP.out.reads 2
  simp only [R6.out] at hc
  refine hc.mono ?_
  clear hc
  rintro e w11 ⟨vY, rfl, o, b⟩
  replace B := Lib.hid (bstep B.out b)
  clear OP
  replace OA := Lib.hid (OI.step OA.out b)
  replace OC := Lib.hid (OI.step OC.out b)
  replace OAB := Lib.hid (OI.step OAB.out b)
  replace OX := Lib.hid (OI.step OX.out b)
  have OY := Lib.hid o
  clear o b
  have oa := OA.out
  have ox := OX.out
  obtain ⟨Aa, ca, rfl, -⟩ := OI.form oa
  obtain ⟨Ax, cx, rfl, -⟩ := OI.form ox
  rw [movedL_len, ← SN.out.1] at oa OA
  rw [movedL_len, ← SN.out.2] at ox OX
  rw [movedL_len, movedL_len, ← SN.out.1, ← SN.out.2]
  clear oa ox
  have hss : ((sn : Int) == sn) = true := by simp
  have hpp : ((pn : Int) == pn) = true := by simp
  go_wp2_with fail
  all_goals
    have hc : ∀ z : Int, (z = 3 ∨ z = 4) → Calls Try.prog 25 #[.int .i64 z] w11 fun e w' => ∃ v s g, e = .returned (.tuple #[v, .bool true]) ∧ (pairGroup s = (g, true) ∧ groupOk g = true ∧ g.length = s.length) ∧ OII w' w11.heap.size v s ∧ Below w11.heap.size w11 w' := by
      intro z hz
      obtain ⟨s, g, hs1, hs2⟩ := sym_pairs hz
      have h := implSymmetricGroup_any (w := w11) z
      rw [hs1] at h
      refine h.mono ?_
      rintro e w' ⟨v, h1, h2, h3⟩
      exact ⟨v, s, g, h1, hs2, h2, h3⟩
    refine (hc _ (by omega)).mono ?_
    clear hc
    rintro e w12 ⟨vS, s, g, rfl, hs, o, b⟩
    replace B := Lib.hid (bstep B.out b)
    replace OA := Lib.hid (OI.step OA.out b)
    replace OC := Lib.hid (OI.step OC.out b)
    replace OAB := Lib.hid (OI.step OAB.out b)
    replace OX := Lib.hid (OI.step OX.out b)
    replace OY := Lib.hid (OI.step OY.out b)
    have OS := Lib.hid o
    have R8 := Lib.hid hs.1
    have R9 := Lib.hid hs.2.1
    have R10 := Lib.hid hs.2.2
    clear o b hs
    go_wp2_with fail
    have hc := implPairGroup_any (w := w12) OS.out.reads
    simp only [R8.out] at hc
    refine hc.mono ?_
    clear hc
    rintro e w13 ⟨vG, rfl, o, b⟩
    replace B := Lib.hid (bstep B.out b)
    replace OA := Lib.hid (OI.step OA.out b)
    replace OC := Lib.hid (OI.step OC.out b)
    replace OAB := Lib.hid (OI.step OAB.out b)
    replace OX := Lib.hid (OI.step OX.out b)
    replace OY := Lib.hid (OI.step OY.out b)
    replace OS := Lib.hid (OII.step OS.out b)
    have OG := Lib.hid o
    clear o b
    have os := OS.out
    have og := OG.out
    obtain ⟨As, cs, rfl, -⟩ := OIIh.form os
    obtain ⟨Ag, cg, rfl, -⟩ := OIIh.form og
    rw [R10.out] at og OG ⊢
    clear os og
    obtain ⟨gn, hgn⟩ : ∃ gn, gn = s.length := ⟨_, rfl⟩
    rw [← hgn] at OG OS ⊢
    have hgg : ((gn : Int) == gn) = true := by simp
    clear hgn
    go_wp2_with fail
    have hc := lawsSame_any (w := w13) OAB.out.reads OC.out.reads
    simp only [E1.out] at hc
    refine hc.mono ?_
    clear hc
    rintro e w14 ⟨rfl, st⟩
    have b := st.below
    replace B := Lib.hid (bstep B.out b)
    clear OAB OC
    replace OA := Lib.hid (OI.step OA.out b)
    replace OX := Lib.hid (OI.step OX.out b)
    replace OY := Lib.hid (OI.step OY.out b)
    replace OS := Lib.hid (OII.step OS.out b)
    replace OG := Lib.hid (OII.step OG.out b)
    clear b st
    go_wp2_with fail
    have hc := lawsSame_any (w := w14) OX.out.reads OY.out.reads
    simp only [E2.out] at hc
    refine hc.mono ?_
    clear hc
    rintro e w15 ⟨rfl, st⟩
    have b := st.below
    replace B := Lib.hid (bstep B.out b)
    clear OX OY
    replace OA := Lib.hid (OI.step OA.out b)
    replace OS := Lib.hid (OII.step OS.out b)
    replace OG := Lib.hid (OII.step OG.out b)
    clear b st
    go_wp2_with fail
    have hc := implGroupOk_any (w := w15) OG.out.reads
    simp only [R9.out] at hc
    refine hc.mono ?_
    clear hc
    rintro e w16 ⟨rfl, b⟩
    replace B := Lib.hid (bstep B.out b)
    clear OG
    replace OA := Lib.hid (OI.step OA.out b)
    replace OS := Lib.hid (OII.step OS.out b)
    clear b
    go_wp2_with fail
    have hc := implSubsetsOf_any (w := w16) (n : Int) (k : Int)
    simp only [N1.out] at hc
    refine hc.mono ?_
    clear hc
    rintro e w17 ⟨vU, rfl, o, b⟩
    replace B := Lib.hid (bstep B.out b)
    replace OA := Lib.hid (OI.step OA.out b)
    replace OS := Lib.hid (OII.step OS.out b)
    have OU := Lib.hid o
    clear o b
    have ou := OU.out
    obtain ⟨Au, cu, rfl, -⟩ := OIIh.form ou
    rw [← SN.out.1]
    clear ou OU
    go_wp2_with fail
    have hc := implPairsOf_any (w := w17) (n : Int)
    simp only [N2.out] at hc
    refine hc.mono ?_
    clear hc
    rintro e w18 ⟨vV, rfl, o, b⟩
    replace B := Lib.hid (bstep B.out b)
    replace OA := Lib.hid (OI.step OA.out b)
    replace OS := Lib.hid (OII.step OS.out b)
    have OV := Lib.hid o
    clear o b
    have ov := OV.out
    obtain ⟨Av, cv, rfl, -⟩ := OIIh.form ov
    rw [← SN.out.2]
    clear ov OV
    go_wp2_with fail
    go_ret
    exact ⟨rfl, B.out⟩

/-! The row's step. -/
set_option maxRecDepth 100000 in
theorem lifted (os : Os) (started : os.Started) (H : Type) (enc : TypeId × Value → H) :
    ReturnsInHanded {} Try.checked os 13 .any (Rows.fnPairsSpec.pre6 enc Try.prog Try.f13 Rows.fnPairsRow.domain false) (Rows.fnPairsSpec.post enc Try.prog Try.f13 false true false false) := by
  refine returnsInHanded_of_change (C := Try.checked) own started (by kernel_rfl) Try.func13
    (ChangeSpec.witness6 (enc := enc) (C := Try.checked) false ⟨#[], #[.slice none 0 0], []⟩ 8 (by kernel_rfl) (by kernel_rfl) (by kernel_rfl) (by kernel_rfl)) ?_
  intro W base args ds gs before hval0 hW hcnd _
  have hval : ∀ (j : Nat) t v, Try.f13.params[j]? = some t → args[j]? = some v → Value.okWide Try.prog W .any base t v := hval0
  have hW' := hW
  obtain ⟨p, q, hA0, hV, rfl, hfz, hnd⟩ := hW
  have hA : DataW.TrodAll enc Try.prog W 0 (fun _ => true) true Try.f13.params.toList args.toList ds p := hA0
  rw [Try.params13] at hA hval
  obtain ⟨v0, vs0, d0, ds0, p0, q0, hargs, rfl, rfl, h0, r0⟩ := trodAll_cons hA
  obtain ⟨rfl, rfl, rfl⟩ := trodAll_nil r0
  obtain rfl : args = #[v0] := by cases args; simp_all
  obtain ⟨rfl, rfl⟩ := trodVars_none hV
  obtain ⟨a0, len0, cap0, rfl⟩ := okWide_slice Try.underlying31 (hval 0 31 v0 rfl rfl)
  have k0 := h0
  have lt0 : ∀ x ∈ p0, x.block < W.heap.size := by obtain ⟨m, hm⟩ := k0; exact DataW.trod_lt m _ _ _ hm
  have w0 := open_RBy h0
  clear hA0 hval0
  refine (walk W w0).mono fun e W' ⟨he, bel⟩ => ?_
  subst he
  exact ⟨_, rfl, _, _, _, [], _, [], hW', trodAll_mk1 (shut_bool Try.underlying4 _), (trodAll_cons_mk (Below.trod laidOut (by kernel_rfl) (of_decide_eq_true (by kernel_rfl)) k0 bel lt0) trodAll_mk0), rfl, bel.frame _, fun h => by cases h⟩

/-- The statement. -/
theorem proved : Rows.FnPairsSaid :=
  OpenClaim.holds_of_wide 13 Try.f13 rfl rfl rfl rfl rfl rfl rfl ⟨rfl, rfl, rfl, rfl, rfl⟩ rfl rfl rfl rfl rfl (by kernel_rfl) Try.func13 (by kernel_rfl)
    (of_decide_eq_true (by kernel_rfl)) (by unfold Func.isWrapper; first | (rw [if_pos (by decide +kernel)]; kernel_rfl) | (rw [if_neg (by decide +kernel)]; exact ⟨rfl, rfl⟩))
    (fun os started H enc _ => lifted os started H enc)
#print axioms proved
end Go.Proofs.Ytogenfooeplkmaa.lFnPairs
