/-
  The law FnGroups returns true for every input.
-/
import Derived.Test.YtogenfooeplkmaaRowB
import Derived.Test.YtogenfooeplkmaaDrawG
import Derived.Test.YtogenfooeplkmaaLagrFn
import Derived.Test.YtogenfooeplkmaaGrp1
import Derived.Test.YtogenfooeplkmaaOrder
import Derived.Test.YtogenfooeplkmaaTurn
namespace Go.Proofs.Ytogenfooeplkmaa.lFnGroups
open Go.ChangeShapes Go.WideShapes Go.ChangeAt Go.RowKit
open Go.ChangeMaps (open_string shut_string)

set_option maxRecDepth 100000 in
theorem dih_parts : ((List.range 10).all fun k => if k + 1 < 3 then decide (compose (turnL (k + 1)) (mirL (k + 1)) = compose (mirL (k + 1)) (turnL (k + 1))) else decide (compose (turnL (k + 1)) (mirL (k + 1)) ≠ compose (mirL (k + 1)) (turnL (k + 1)))) = true := by decide +kernel
theorem gens_of {n : Nat} {gens : List (List Int)} (h : gensOk n gens = true) : Gens n gens := gensOk_iff.1 h
theorem cyc_gens {n : Nat} (h1 : 1 ≤ n) (h2 : n ≤ 10) : Gens n [turnL n] := by
  have h := List.all_eq_true.1 cycCheck_all (n - 1) (List.mem_range.2 (by omega))
  rw [show n - 1 + 1 = n from by omega] at h
  unfold cycCheck at h
  rw [Bool.and_eq_true] at h
  exact gens_of h.1
theorem dih_gens {n : Nat} (h1 : 1 ≤ n) (h2 : n ≤ 10) : Gens n [turnL n, mirL n] := by
  have h := List.all_eq_true.1 dihCheck_all (n - 1) (List.mem_range.2 (by omega))
  rw [show n - 1 + 1 = n from by omega] at h
  unfold dihCheck at h
  rw [Bool.and_eq_true] at h
  exact gens_of h.1
theorem cyc_abelian {n : Nat} (h1 : 1 ≤ n) (h2 : n ≤ 10) : isAbelian (cyclicGroup (n : Int)).1 = true := by
  obtain ⟨_, _, h3, _, h5⟩ := cyc_group h1 h2
  exact isAbelian_yes h3 fun p hp q hq => word_comm h1 h2 (cyc_gens h1 h2) (fun s hs t ht => by rw [List.mem_singleton.1 hs, List.mem_singleton.1 ht]) (h5 p hp) (h5 q hq)
theorem dih_abelian {n : Nat} (h1 : 1 ≤ n) (h2 : n ≤ 10) : isAbelian (dihedralGroup (n : Int)).1 = decide (n < 3) := by
  obtain ⟨_, _, h3, _, h5⟩ := dih_group h1 h2
  have hc := List.all_eq_true.1 dih_parts (n - 1) (List.mem_range.2 (by omega))
  rw [show n - 1 + 1 = n from by omega] at hc
  by_cases h : n < 3
  · rw [if_pos h] at hc
    have hc' := of_decide_eq_true hc
    rw [decide_eq_true h]
    refine isAbelian_yes h3 fun p hp q hq => word_comm h1 h2 (dih_gens h1 h2) (fun s hs t ht => ?_) (h5 p hp) (h5 q hq)
    rcases List.mem_cons.1 hs with rfl | hs
    · rcases List.mem_cons.1 ht with rfl | ht
      · rfl
      · rw [List.mem_singleton.1 ht]; exact hc'
    · rw [List.mem_singleton.1 hs]
      rcases List.mem_cons.1 ht with rfl | ht
      · exact hc'.symm
      · rw [List.mem_singleton.1 ht]
  · rw [if_neg h] at hc
    have hc' := of_decide_eq_true hc
    rw [decide_eq_false h]
    have hm : ∀ s ∈ [turnL n, mirL n], s ∈ (dihedralGroup (n : Int)).1 := fun s hs => by
      have hk := List.all_eq_true.1 dihCheck_all (n - 1) (List.mem_range.2 (by omega))
      rw [show n - 1 + 1 = n from by omega] at hk
      unfold dihCheck at hk
      rw [Bool.and_eq_true] at hk
      unfold dihedralGroup
      rw [turnP_yes h1 h2, mirP_yes h1 h2]
      have hlen := of_decide_eq_true hk.2
      unfold genLen at hlen
      cases hq : genAll n [turnL n, mirL n] with
      | none => rw [hq] at hlen; simp only at hlen; split at hlen <;> omega
      | some q =>
        rw [groupOf_some h1 h2 hk.1 hq]
        exact (genAll_grp h1 h2 (gens_of hk.1) hq).2.2.2.1 s hs
    exact isAbelian_no (hm _ (by simp)) (hm _ (by simp)) hc'
/-- What the law asks of the group that two members generate. -/
structure Sub (g h : List (List Int)) (p q : List Int) : Prop where
  grp : groupOk h = true
  pin : p ∈ h
  qin : q ∈ h
  id : identity (deg g) ∈ h
  sub : ∀ x ∈ h, x ∈ g
  dvd : h.length ∣ g.length
  ord : orderOf p ∣ h.length
theorem sub_of {g : List (List Int)} (hg : Grp g) {p q : List Int} (hp : p ∈ g) (hq : q ∈ g) : (groupOf (deg g : Int) [p, q]).2 = true ∧ Sub g (groupOf (deg g : Int) [p, q]).1 p q := by
  have hs : ∀ s ∈ [p, q], s ∈ g := fun s hs => by
    rcases List.mem_cons.1 hs with rfl | hs
    · exact hp
    · rw [List.mem_singleton.1 hs]; exact hq
  have hG : Gens (deg g) [p, q] := fun s h => ⟨hg.perm s (hs s h), hg.len s (hs s h)⟩
  obtain ⟨r, hr, hin⟩ := genAll_in hg hs
  rw [groupOf_some hg.deg_le.1 hg.deg_le.2 (gensOk_iff.2 hG) hr]
  obtain ⟨k1, k2, k3, k4, k5⟩ := genAll_grp hg.deg_le.1 hg.deg_le.2 hG hr
  have hH := grp_of k1
  refine ⟨rfl, k1, k4 p (by simp), k4 q (by simp), k5, fun x hx => hin x (mem_sortL.1 hx), ?_, ?_⟩
  · exact hg.lagrange hH.asc.nodup (fun x hx => hin x (mem_sortL.1 hx)) k5 hH.closed
  · exact hH.order_dvd (k4 p (by simp))
theorem fact_at {w : World} {b m F : Nat} (h1 : 1 ≤ m) (h2 : m ≤ 5) (hF : F = [1, 1, 2, 6, 24, 120].getD m 0) {T : TypeId} (hb : b = w.heap.size) :
    (w.alloc (.cells #[.int .i64 1, .int .i64 1, .int .i64 2, .int .i64 6, .int .i64 24, .int .i64 120] T)).cell? ⟨b, m, none⟩ = some (.int .i64 (F : Int)) := by
  subst hb
  rw [World.cell?_alloc_mark, hF]
  have hm : m = 1 ∨ m = 2 ∨ m = 3 ∨ m = 4 ∨ m = 5 := by omega
  rcases hm with rfl | rfl | rfl | rfl | rfl <;> rfl

set_option maxHeartbeats 8000000 in
set_option maxRecDepth 100000 in
theorem walk (w : World) {a0 : Value} {n0 : Nat} (ha0 : RBy w w.heap.size a0 n0) : Calls Try.prog 8 #[a0] w fun e w' => e = .returned (.bool true) ∧ Below w.heap.size w w' := by
  have HA := Lib.hid ha0
  obtain ⟨A0, c0, rfl, hn0, -⟩ := ha0
  have hm0 : n0 ≤ 9223372036854775807 := by unfold maxLen at hn0; omega
  have B := Lib.hid (Below.refl w.heap.size w)
  by_cases g0 : (1048576 : Int) < n0
  · go_enter Try.func8, Try.ntmps8
    go_wp2
    go_ret
    exact ⟨rfl, B.out⟩
  go_enter Try.func8, Try.ntmps8
  go_wp2_with fail
  refine (MakeNum_any (HA.out.step B.out) 1 (by omega)).mono ?_
  rintro e w1 ⟨x', rfl, x0, x1, b⟩
  replace B := Lib.hid (bstep B.out b)
  clear b
  obtain ⟨x, rfl⟩ := Int.eq_ofNat_of_zero_le x0
  have hmod : ((x : Int)).tmod 10 = ((x % 10 : Nat) : Int) := rfl
  obtain ⟨k10, hk10⟩ : ∃ k10, k10 = x % 10 := ⟨_, rfl⟩
  rw [← hk10] at hmod
  obtain ⟨n, hn⟩ : ∃ n, n = 1 + k10 := ⟨_, rfl⟩
  have hn1 : (1 : Int) + (k10 : Int) = (n : Int) := by omega
  have hnr : 1 ≤ n ∧ n ≤ 10 := by omega
  have hk10' : k10 ≤ 9 := by omega
  clear hn hk10 x0 x1
  have CY := Lib.hid (cyc_group hnr.1 hnr.2)
  have DI := Lib.hid (dih_group hnr.1 hnr.2)
  have AC := Lib.hid (cyc_abelian hnr.1 hnr.2)
  have AD := Lib.hid (dih_abelian hnr.1 hnr.2)
  obtain ⟨W, hW⟩ : ∃ W, W = (if n < 3 then n else 2 * n) := ⟨_, rfl⟩
  have HW := Lib.hid hW
  clear hW
  go_wp2_with fail
  refine (implCyclicGroup_any (w := w1) (n : Int)).mono ?_
  rintro e w2 ⟨va, rfl, o, b⟩
  replace B := Lib.hid (bstep B.out b)
  have OA := Lib.hid o
  obtain ⟨Aa, ca, rfl⟩ := o.reads.shape
  have CL : Hid ((cyclicGroup (n : Int)).1.length = n) := CY.out.2.1
  rw [CY.out.1, CL.out]
  rw [CL.out] at OA
  generalize (cyclicGroup (n : Int)).1 = ga at OA AC CL ⊢
  clear o b CY
  go_wp2_with fail
  refine (implDihedralGroup_any (w := w2) (n : Int)).mono ?_
  rintro e w3 ⟨vb, rfl, o, b⟩
  replace B := Lib.hid (bstep B.out b)
  replace OA := Lib.hid (OII.step OA.out b)
  have OB := Lib.hid o
  obtain ⟨Ab, cb, rfl⟩ := o.reads.shape
  have DL : Hid ((dihedralGroup (n : Int)).1.length = W) := by rw [Hid, DI.out.2.1, HW.out]
  have DK : Hid (groupOk (dihedralGroup (n : Int)).1 = true) := DI.out.2.2.1
  rw [DI.out.1, DL.out]
  rw [DL.out] at OB
  generalize (dihedralGroup (n : Int)).1 = gb at OB AD DL DK ⊢
  clear o b DI
  go_wp2_with fail
  refine (MakeNum_any (HA.out.step B.out) 3 (by omega)).mono ?_
  rintro e w4 ⟨y', rfl, y0, y1, b⟩
  replace B := Lib.hid (bstep B.out b)
  replace OA := Lib.hid (OII.step OA.out b)
  replace OB := Lib.hid (OII.step OB.out b)
  clear b
  obtain ⟨y, rfl⟩ := Int.eq_ofNat_of_zero_le y0
  have hmod5 : ((y : Int)).tmod 5 = ((y % 5 : Nat) : Int) := rfl
  obtain ⟨k5, hk5⟩ : ∃ k5, k5 = y % 5 := ⟨_, rfl⟩
  rw [← hk5] at hmod5
  obtain ⟨m, hm⟩ : ∃ m, m = 1 + k5 := ⟨_, rfl⟩
  have hm1 : (1 : Int) + (k5 : Int) = (m : Int) := by omega
  have hmr : 1 ≤ m ∧ m ≤ 5 := by omega
  have hk5' : k5 ≤ 4 := by omega
  clear hm hk5 y0 y1
  have SY := Lib.hid (sym_group hmr.1 hmr.2)
  obtain ⟨F, hF⟩ : ∃ F, F = [1, 1, 2, 6, 24, 120].getD m 0 := ⟨_, rfl⟩
  have HF := Lib.hid hF
  clear hF
  go_wp2_with fail
  refine (implSymmetricGroup_any (w := w4) (m : Int)).mono ?_
  rintro e w5 ⟨vc, rfl, o, b⟩
  replace B := Lib.hid (bstep B.out b)
  replace OA := Lib.hid (OII.step OA.out b)
  replace OB := Lib.hid (OII.step OB.out b)
  obtain ⟨Ac, cc, rfl⟩ := o.reads.shape
  have SL : Hid ((symmetricGroup (m : Int)).1.length = F) := by rw [Hid, SY.out.2.1, HF.out]
  rw [SY.out.1, SL.out]
  clear o b SY
  have hcf := fact_at (w := w5) (T := 3) hmr.1 hmr.2 HF.out rfl
  have hnn : ((n : Int) != (n : Int)) = false := by simp
  have hWW : ((W : Int) != (W : Int)) = false := by simp
  have hFF : ((F : Int) != (F : Int)) = false := by simp
  have hmi : (m : Int) < 6 := by omega
  have hmj : m < 6 := by omega
  have BA : Hid (Below w5.heap.size w5 (w5.alloc (.cells #[.int .i64 1, .int .i64 1, .int .i64 2, .int .i64 6, .int .i64 24, .int .i64 120] 3))) := (Below.refl w5.heap.size w5).alloc (Nat.le_refl _) _
  replace B := Lib.hid (bstep B.out BA.out)
  have RA := Lib.hid (RII.below OA.out.reads BA.out)
  have RB := Lib.hid (RII.below OB.out.reads BA.out)
  clear OA OB BA
  have key : ∀ (w6 : World), w6 = w5.alloc (.cells #[.int .i64 1, .int .i64 1, .int .i64 2, .int .i64 6, .int .i64 24, .int .i64 120] 3) → Below w.heap.size w w6 ∧ RII w6 (.slice Aa n ca) ga ∧ RII w6 (.slice Ab W cb) gb := by
    rintro w6 rfl
    exact ⟨B.out, RA.out, RB.out⟩
  have KEY := Lib.hid key
  clear key B RA RB
  have two : ∃ bb : Bool, isAbelian gb = bb ∧ ((n < 3 ∧ W = n ∧ bb = true) ∨ (¬ n < 3 ∧ W = 2 * n ∧ bb = false)) := by
    have h := HW.out
    refine ⟨_, rfl, ?_⟩
    by_cases h3 : n < 3
    · rw [if_pos h3] at h
      exact .inl ⟨h3, h, by rw [AD.out]; exact decide_eq_true h3⟩
    · rw [if_neg h3] at h
      exact .inr ⟨h3, h, by rw [AD.out]; exact decide_eq_false h3⟩
  obtain ⟨bb, hbb, two⟩ := two
  have AE := Lib.hid hbb
  clear hbb AD HW HF DL CL SL
  rcases two with ⟨h3, hWn, rfl⟩ | ⟨h3, hWn, rfl⟩
  case' inl =>
    subst hWn
    have hd3 : decide ((W : Int) < 3) = true := decide_eq_true (by omega)
    have hd4 : decide (W < 3) = true := decide_eq_true (by omega)
  case' inr =>
    have hd3 : decide ((n : Int) < 3) = false := decide_eq_false (by omega)
    have hd4 : decide (n < 3) = false := decide_eq_false (by omega)
    have hW2 : (2 : Int) * (n : Int) = (W : Int) := by omega
    have hWr : W ≤ 20 := by omega
    clear hWn
  all_goals
    go_wp2_with fail
    have hc := implGroupOk_any (KEY.out _ rfl).2.2
    simp only [DK.out] at hc
    refine hc.mono ?_
    clear hc
    rintro e w7 ⟨rfl, b⟩
    have B7 := Lib.hid (bstep (KEY.out _ rfl).1 b)
    have RA7 := Lib.hid (RII.below (KEY.out _ rfl).2.1 b)
    have RB7 := Lib.hid (RII.below (KEY.out _ rfl).2.2 b)
    clear b KEY DK hcf
    go_wp2_with fail
    have hc := implIsAbelian_any RA7.out
    simp only [AC.out] at hc
    refine hc.mono ?_
    clear hc
    rintro e w8 ⟨rfl, b⟩
    have B8 := Lib.hid (bstep B7.out b)
    have RB8 := Lib.hid (RII.below RB7.out b)
    clear b AC RA7 RB7 B7
    go_wp2_with fail
    have hc := implIsAbelian_any RB8.out
    simp only [AE.out] at hc
    refine hc.mono ?_
    clear hc
    rintro e w9 ⟨rfl, b⟩
    have B9 := Lib.hid (bstep B8.out b)
    clear b AE RB8 B8
    go_wp2_with fail
    clear hnn hWW hFF hd3 hd4
    refine (MakeGroup_any (HA.out.step B9.out) 20 (by omega)).mono ?_
    rintro e w10 ⟨vg, g, rfl, o, hd, b⟩
    have B10 := Lib.hid (bstep B9.out b)
    have HK := Lib.hid hd.1
    have HG := Lib.hid (grp_of hd.1)
    have RG := Lib.hid o.reads
    obtain ⟨A1, c1, rfl⟩ := o.reads.shape
    obtain ⟨N, hN⟩ : ∃ N, N = g.length := ⟨_, rfl⟩
    obtain ⟨d, hdd⟩ : ∃ d, d = deg g := ⟨_, rfl⟩
    have hN1 : 1 ≤ N := by have := HG.out.one; omega
    have hN2 : N ≤ 120 := by have := HG.out.le; omega
    have hdr : 1 ≤ d ∧ d ≤ 10 := by rw [hdd]; exact HG.out.deg_le
    rw [← hN] at RG ⊢
    obtain ⟨b1, o1, rfl, hb1, hcg⟩ := RII.rows RG.out (by omega)
    rw [← hN] at hcg
    have HCG := Lib.hid (And.intro hb1 hcg)
    have HN := Lib.hid hN
    have HDD := Lib.hid hdd
    obtain ⟨A2, c2, e0, -⟩ := RII.at hcg (k := 0) (by omega)
    have hpl : (g.getD 0 []).length = d := by rw [hdd]; rfl
    rw [hpl] at e0
    have e0' : _ := e0
    rw [Nat.add_zero] at e0'
    clear o hd b hb1 hcg hN hdd hpl B9
    go_wp2_with fail
    refine (MakeNum_any (HA.out.step B10.out) 5 (by omega)).mono ?_
    rintro e w11 ⟨x5', rfl, x50, x51, b⟩
    have B11 := Lib.hid (bstep B10.out b)
    have BG := Lib.hid b
    clear b e0 e0'
    obtain ⟨x5, rfl⟩ := Int.eq_ofNat_of_zero_le x50
    obtain ⟨a, ha⟩ : ∃ a, a = x5 % N := ⟨_, rfl⟩
    have hma : ((x5 : Int)).tmod (N : Int) = (a : Int) := by rw [ha]; rfl
    have haN : a < N := by rw [ha]; exact Nat.mod_lt _ (by omega)
    have hN0 : ((N : Int) == 0) = false := beq_eq_false_iff_ne.2 (by omega)
    have hN0' : ¬ (N : Int) = 0 := by omega
    have hN0'' : ¬ N = 0 := by omega
    obtain ⟨A3, c3, cc3, rr3⟩ := RII.at HCG.out.2 (k := a) haN
    have e3 := (BG.out.cell (p := ⟨b1, o1 + a, none⟩) HCG.out.1).trans cc3
    obtain ⟨p, hp⟩ : ∃ p, p = g.getD a [] := ⟨_, rfl⟩
    have hpm : p ∈ g := by rw [hp]; exact getD_memS (by rw [← HN.out]; exact haN)
    rw [← hp] at e3 rr3
    rw [HG.out.len p hpm, ← HDD.out] at e3 rr3
    have RP := Lib.hid (RI.below rr3 BG.out)
    have HPM := Lib.hid hpm
    clear cc3 rr3 hp hpm ha x50 x51
    go_wp2_with fail
    refine (MakeNum_any (HA.out.step B11.out) 7 (by omega)).mono ?_
    rintro e w12 ⟨x7', rfl, x70, x71, b⟩
    have B12 := Lib.hid (bstep B11.out b)
    have BH := Lib.hid (bstep BG.out b)
    replace RP := Lib.hid (RI.below RP.out b)
    clear b e3
    obtain ⟨x7, rfl⟩ := Int.eq_ofNat_of_zero_le x70
    obtain ⟨a2, ha⟩ : ∃ a2, a2 = x7 % N := ⟨_, rfl⟩
    have hma2 : ((x7 : Int)).tmod (N : Int) = (a2 : Int) := by rw [ha]; rfl
    have ha2N : a2 < N := by rw [ha]; exact Nat.mod_lt _ (by omega)
    obtain ⟨A4, c4, cc3, rr3⟩ := RII.at HCG.out.2 (k := a2) ha2N
    have e4 := (BH.out.cell (p := ⟨b1, o1 + a2, none⟩) HCG.out.1).trans cc3
    obtain ⟨q, hq⟩ : ∃ q, q = g.getD a2 [] := ⟨_, rfl⟩
    have hqm : q ∈ g := by rw [hq]; exact getD_memS (by rw [← HN.out]; exact ha2N)
    rw [← hq] at e4 rr3
    rw [HG.out.len q hqm, ← HDD.out] at e4 rr3
    have RQ := Lib.hid (RI.below rr3 BH.out)
    have SB := sub_of HG.out HPM.out hqm
    rw [← HDD.out] at SB
    have SUB := Lib.hid SB
    clear SB cc3 rr3 hq hqm ha x70 x71
    go_wp2_with fail
    refine (implGroupOf_any (d : Int) (RII.lit2 RP.out RQ.out)).mono ?_
    rintro e w13 ⟨vh, rfl, o, b⟩
    have hb12 : Below w12.heap.size w12 w13 := bstep ((Below.refl w12.heap.size w12).alloc (Nat.le_refl _) _) b
    have B13 := Lib.hid (bstep B12.out hb12)
    have BI := Lib.hid (bstep BH.out hb12)
    replace RP := Lib.hid (RI.below RP.out hb12)
    replace RQ := Lib.hid (RI.below RQ.out hb12)
    have RH := Lib.hid o.reads
    obtain ⟨A5, c5, rfl⟩ := o.reads.shape
    rw [SUB.out.1]
    have HS := Lib.hid SUB.out.2
    clear o b hb12 e4 SUB
    generalize (groupOf (d : Int) [p, q]).1 = h at HS RH ⊢
    have HH := Lib.hid (grp_of HS.out.grp)
    obtain ⟨M, hM⟩ : ∃ M, M = h.length := ⟨_, rfl⟩
    have hM1 : 1 ≤ M := by have := HH.out.one; omega
    have hM2 : M ≤ 120 := by have := HH.out.le; omega
    rw [← hM] at RH ⊢
    obtain ⟨kk, hkk⟩ : ∃ kk, kk = orderOf p := ⟨_, rfl⟩
    have hkb := order_bound (HG.out.perm p HPM.out)
    rw [← hkk] at hkb
    have KK := Lib.hid hkk
    have HM := Lib.hid hM
    clear hM hkk
    go_wp2_with fail
    have hc := implOrderOf_any RP.out
    rw [← KK.out] at hc
    refine hc.mono ?_
    clear hc
    rintro e w14 ⟨rfl, b⟩
    have B14 := Lib.hid (bstep B13.out b)
    have BJ := Lib.hid (bstep BI.out b)
    replace RP := Lib.hid (RI.below RP.out b)
    replace RQ := Lib.hid (RI.below RQ.out b)
    replace RH := Lib.hid (RII.below RH.out b)
    have hM0 : ((M : Int) == 0) = false := beq_eq_false_iff_ne.2 (by omega)
    have hM0' : ¬ (M : Int) = 0 := by omega
    have hM0'' : ¬ M = 0 := by omega
    have hk0 : decide ((kk : Int) < 1) = false := decide_eq_false (by omega)
    have hk0' : decide (kk < 1) = false := decide_eq_false (by omega)
    have hk1 : ((kk : Int) == 0) = false := beq_eq_false_iff_ne.2 (by omega)
    have hk2 : ¬ (kk : Int) = 0 := by omega
    have hk3 : ¬ kk = 0 := by omega
    have hd1 : (N : Int).tmod (M : Int) = 0 := by
      rw [show (N : Int).tmod (M : Int) = ((N % M : Nat) : Int) from rfl, HN.out, HM.out, Nat.mod_eq_zero_of_dvd HS.out.dvd]; rfl
    have hd2 : (M : Int).tmod (kk : Int) = 0 := by
      rw [show (M : Int).tmod (kk : Int) = ((M % kk : Nat) : Int) from rfl, KK.out, HM.out, Nat.mod_eq_zero_of_dvd HS.out.ord]; rfl
    have R1 : Hid (groupOk h = true) := HS.out.grp
    have R2 : Hid (hasPerm h p = true) := by rw [Hid, hasPerm_ok HS.out.grp]; exact decide_eq_true HS.out.pin
    have R3 : Hid (hasPerm h q = true) := by rw [Hid, hasPerm_ok HS.out.grp]; exact decide_eq_true HS.out.qin
    clear b
    go_wp2_with fail
    have hc := implGroupOk_any RH.out
    simp only [R1.out] at hc
    refine hc.mono ?_
    clear hc
    rintro e w15 ⟨rfl, b⟩
    have B15 := Lib.hid (bstep B14.out b)
    have BK := Lib.hid (bstep BJ.out b)
    replace RP := Lib.hid (RI.below RP.out b)
    replace RQ := Lib.hid (RI.below RQ.out b)
    replace RH := Lib.hid (RII.below RH.out b)
    clear b
    go_wp2_with fail
    have hc := implHasPerm_any RH.out RP.out
    simp only [R2.out] at hc
    refine hc.mono ?_
    clear hc
    rintro e w16 ⟨rfl, b⟩
    have B16 := Lib.hid (bstep B15.out b)
    have BL := Lib.hid (bstep BK.out b)
    replace RQ := Lib.hid (RI.below RQ.out b)
    replace RH := Lib.hid (RII.below RH.out b)
    clear b
    go_wp2_with fail
    have hc := implHasPerm_any RH.out RQ.out
    simp only [R3.out] at hc
    refine hc.mono ?_
    clear hc
    rintro e w17 ⟨rfl, b⟩
    have B17 := Lib.hid (bstep B16.out b)
    have BM := Lib.hid (bstep BL.out b)
    replace RH := Lib.hid (RII.below RH.out b)
    clear b
    have RG17 := Lib.hid (RII.below RG.out BM.out)
    obtain ⟨b2, o2, rfl, hb2, hch⟩ := RII.rows RH.out (by rw [← HM.out]; omega)
    rw [← HM.out] at hch
    have HCH := Lib.hid (And.intro hb2 hch)
    clear hb2 hch
    go_wp2_with fail
    clear hd1 hd2 hk0 hk0' hk1 hk2 hk3
    go_loopw [179] (fun i wr => ∃ t : Nat, t ≤ M ∧ i = .int .i64 t ∧ Hid (Below w17.heap.size w17 wr)) (fun i _ => M - (intOf i).toNat)
    case atStart => exact ⟨0, Nat.zero_le _, rfl, Below.refl _ _⟩
    case round =>
      obtain ⟨t, ht, rfl, HV⟩ := hrel
      by_cases hlt : t < M
      · obtain ⟨A6, c6, cc6, rr6⟩ := RII.at HCH.out.2 (k := t) hlt
        have e5 := (HV.out.cell (p := ⟨b2, o2 + t, none⟩) HCH.out.1).trans cc6
        obtain ⟨y, hy⟩ : ∃ y, y = h.getD t [] := ⟨_, rfl⟩
        have hym : y ∈ g := by rw [hy]; exact HS.out.sub _ (getD_memS (by rw [← HM.out]; exact hlt))
        rw [← hy] at e5 rr6
        have R4 : Hid (hasPerm g y = true) := by rw [Hid, hasPerm_ok HK.out]; exact decide_eq_true hym
        have RY := Lib.hid (RI.below rr6 HV.out)
        clear cc6 rr6 hy hym
        go_wp2_with fail
        have hc := implHasPerm_any (RII.below RG17.out HV.out) RY.out
        simp only [R4.out] at hc
        refine hc.mono ?_
        clear hc
        rintro e w18 ⟨rfl, b⟩
        have HV2 := Lib.hid (bstep HV.out b)
        clear b e5
        go_wp2_with fail
        go_roundw
        case rel => exact ⟨t + 1, by omega, by go_num, HV2.out⟩
        case measure => simp [intOf]; omega
      · have RI0 : Hid (identityPerm (d : Int) = identity d) := by unfold identityPerm Hid; rw [if_pos (by omega), Int.toNat_natCast]
        have R5 : Hid (hasPerm h (identity d) = true) := by rw [Hid, hasPerm_ok HS.out.grp]; exact decide_eq_true (by rw [HDD.out]; exact HS.out.id)
        go_wp2_with fail
        have hc := implIdentityPerm_any (w := wr) (d : Int)
        simp only [RI0.out] at hc
        refine hc.mono ?_
        clear hc
        rintro e w19 ⟨vi, rfl, o, b⟩
        have HV2 := Lib.hid (bstep HV.out b)
        have RD := Lib.hid o.reads
        obtain ⟨A7, c7, rfl⟩ := o.reads.shape
        clear o b
        go_wp2_with fail
        have hc := implHasPerm_any (RII.below RH.out HV2.out) RD.out
        simp only [R5.out] at hc
        refine hc.mono ?_
        clear hc
        rintro e w20 ⟨rfl, b⟩
        have HV3 := Lib.hid (bstep (bstep B17.out HV2.out) b)
        clear b
        go_wp2_with fail
        go_ret
        exact ⟨rfl, HV3.out⟩

/-! The row's step. -/
set_option maxRecDepth 100000 in
theorem lifted (os : Os) (started : os.Started) (H : Type) (enc : TypeId × Value → H) :
    ReturnsInHanded {} Try.checked os 8 .any (Rows.fnGroupsSpec.pre6 enc Try.prog Try.f8 Rows.fnGroupsRow.domain false) (Rows.fnGroupsSpec.post enc Try.prog Try.f8 false true false false) := by
  refine returnsInHanded_of_change (C := Try.checked) own started (by kernel_rfl) Try.func8
    (ChangeSpec.witness6 (enc := enc) (C := Try.checked) false ⟨#[], #[.slice none 0 0], []⟩ 8 (by kernel_rfl) (by kernel_rfl) (by kernel_rfl) (by kernel_rfl)) ?_
  intro W base args ds gs before hval0 hW hcnd _
  have hval : ∀ (j : Nat) t v, Try.f8.params[j]? = some t → args[j]? = some v → Value.okWide Try.prog W .any base t v := hval0
  have hW' := hW
  obtain ⟨p, q, hA0, hV, rfl, hfz, hnd⟩ := hW
  have hA : DataW.TrodAll enc Try.prog W 0 (fun _ => true) true Try.f8.params.toList args.toList ds p := hA0
  rw [Try.params8] at hA hval
  obtain ⟨v0, vs0, d0, ds0, p0, q0, hargs, rfl, rfl, h0, r0⟩ := trodAll_cons hA
  obtain ⟨rfl, rfl, rfl⟩ := trodAll_nil r0
  obtain rfl : args = #[v0] := by cases args; simp_all
  obtain ⟨rfl, rfl⟩ := trodVars_none hV
  obtain ⟨a0, len0, cap0, rfl⟩ := okWide_slice Try.underlying31 (hval 0 31 v0 rfl rfl)
  have k0 := h0
  have lt0 : ∀ x ∈ p0, x.block < W.heap.size := by obtain ⟨m, hm⟩ := k0; exact DataW.trod_lt m _ _ _ hm
  have w0 := open_RBy h0
  clear hA0 hval0
  refine (walk W w0).mono fun e W' ⟨he, bel⟩ => ?_
  subst he
  exact ⟨_, rfl, _, _, _, [], _, [], hW', trodAll_mk1 (shut_bool Try.underlying4 _), (trodAll_cons_mk (Below.trod laidOut (by kernel_rfl) (of_decide_eq_true (by kernel_rfl)) k0 bel lt0) trodAll_mk0), rfl, bel.frame _, fun h => by cases h⟩

/-- The statement. -/
theorem proved : Rows.FnGroupsSaid :=
  OpenClaim.holds_of_wide 8 Try.f8 rfl rfl rfl rfl rfl rfl rfl ⟨rfl, rfl, rfl, rfl, rfl⟩ rfl rfl rfl rfl rfl (by kernel_rfl) Try.func8 (by kernel_rfl)
    (of_decide_eq_true (by kernel_rfl)) (by unfold Func.isWrapper; first | (rw [if_pos (by decide +kernel)]; kernel_rfl) | (rw [if_neg (by decide +kernel)]; exact ⟨rfl, rfl⟩))
    (fun os started H enc _ => lifted os started H enc)
#print axioms proved
end Go.Proofs.Ytogenfooeplkmaa.lFnGroups
