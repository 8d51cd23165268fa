/-
  The law FnPerms returns true for every input.
-/
import Derived.Test.YtmgighhdkgcigaaRowB
import Derived.Test.YtmgighhdkgcigaaOrder
import Derived.Test.YtmgighhdkgcigaaInvFn
import Derived.Test.YtmgighhdkgcigaaPerm1
import Derived.Test.YtmgighhdkgcigaaCyc
import Derived.Test.YtmgighhdkgcigaaCycType
import Derived.Test.YtmgighhdkgcigaaPower
import Derived.Test.YtmgighhdkgcigaaSame
namespace Go.Proofs.Ytmgighhdkgcigaa.lFnPerms
open Go.ChangeShapes Go.WideShapes Go.ChangeAt Go.RowKit
open Go.ChangeMaps (open_string shut_string)

/-- The sum of i + 1 times the number of lists of that length, i below k. -/
def wsum (cs : List (List Int)) : Nat → Nat
  | 0 => 0
  | k + 1 => wsum cs k + (k + 1) * (cs.filter fun c => c.length == k + 1).length
theorem wsum_nil (k : Nat) : wsum [] k = 0 := by
  induction k with
  | zero => rfl
  | succ k ih => simp [wsum, ih]
theorem wsum_cons (c : List Int) (cs : List (List Int)) (hc : 1 ≤ c.length) (k : Nat) : wsum (c :: cs) k = wsum cs k + if c.length ≤ k then c.length else 0 := by
  induction k with
  | zero => rw [if_neg (by omega)]; rfl
  | succ k ih =>
    unfold wsum
    rw [ih, List.filter_cons]
    by_cases h : c.length = k + 1
    · have hb : (c.length == k + 1) = true := beq_iff_eq.2 h
      rw [hb, if_pos rfl, if_neg (by omega), if_pos (by omega), List.length_cons, Nat.mul_add, h]
      omega
    · have hb : (c.length == k + 1) = false := beq_eq_false_iff_ne.2 h
      simp only [hb, Bool.false_eq_true, if_false]
      by_cases h2 : c.length ≤ k
      · rw [if_pos h2, if_pos (by omega)]; omega
      · rw [if_neg h2, if_neg (by omega)]; omega
theorem wsum_le (cs : List (List Int)) (h : ∀ c ∈ cs, 1 ≤ c.length) (k : Nat) : wsum cs k ≤ cs.flatten.length := by
  induction cs with
  | nil => rw [wsum_nil]; simp
  | cons c cs ih =>
    have h1 := ih fun d hd => h d (by simp [hd])
    rw [wsum_cons c cs (h c (by simp)), List.flatten_cons, List.length_append]
    split <;> omega
theorem wsum_all (cs : List (List Int)) (n : Nat) (h : ∀ c ∈ cs, 1 ≤ c.length ∧ c.length ≤ n) : wsum cs n = cs.flatten.length := by
  induction cs with
  | nil => rw [wsum_nil]; simp
  | cons c cs ih =>
    have h1 := ih fun d hd => h d (by simp [hd])
    have h2 := h c (by simp)
    rw [wsum_cons c cs h2.1, if_pos h2.2, h1, List.flatten_cons, List.length_append]
    omega
theorem flat_take (cs : List (List Int)) {j : Nat} (hj : j < cs.length) : (cs.take (j + 1)).flatten.length = (cs.take j).flatten.length + (cs.getD j []).length := by
  rw [takeS_succ' hj, List.flatten_append, List.length_append]
  simp
theorem flat_take_le (cs : List (List Int)) (j : Nat) : (cs.take j).flatten.length ≤ cs.flatten.length := by
  conv => rhs; rw [← List.take_append_drop j cs, List.flatten_append, List.length_append]
  omega

set_option maxHeartbeats 8000000 in
set_option maxRecDepth 100000 in
theorem walk (w : World) {a0 : Value} {n0 : Nat} (ha0 : RBy w w.heap.size a0 n0) : Calls Try.prog 11 #[a0] w fun e w' => e = .returned (.bool true) ∧ Below w.heap.size w w' := by
  have HA := Lib.hid ha0
  obtain ⟨A0, c0, rfl, hn0, -⟩ := ha0
  have hm0 : n0 ≤ 9223372036854775807 := by unfold maxLen at hn0; omega
  have B := Lib.hid (Below.refl w.heap.size w)
  by_cases g0 : (1048576 : Int) < n0
  · go_enter Try.func11, Try.ntmps11
    go_wp2
    go_ret
    exact ⟨rfl, B.out⟩
  go_enter Try.func11, Try.ntmps11
  go_wp2_with fail
  refine (MakeNum_any (HA.out.step B.out) 1 (by omega)).mono ?_
  rintro e w1 ⟨m', rfl, m0, m1, b⟩
  replace B := Lib.hid (bstep B.out b)
  clear b
  obtain ⟨m, rfl⟩ := Int.eq_ofNat_of_zero_le m0
  have hmod : ((m : Int)).tmod 10 = ((m % 10 : Nat) : Int) := rfl
  obtain ⟨k10, hk10⟩ : ∃ k10, k10 = m % 10 := ⟨_, rfl⟩
  rw [← hk10] at hmod
  obtain ⟨n, hn⟩ : ∃ n, n = 1 + k10 := ⟨_, rfl⟩
  have hn1 : (1 : Int) + (k10 : Int) = (n : Int) := by omega
  have hnr : 1 ≤ n ∧ n ≤ 10 := by omega
  have hk10' : k10 ≤ 9 := by omega
  clear hn hk10 m0 m1
  go_wp2_with fail
  refine (MakePerm_any (HA.out.step B.out) 20 (by omega) n (by omega) (by omega) _ (by omega)).mono ?_
  rintro e w2 ⟨vp, p, rfl, o, hp, hpl, b⟩
  replace B := Lib.hid (bstep B.out b)
  have OP := Lib.hid o
  have HP := Lib.hid hp
  have LP := Lib.hid hpl
  clear o hp hpl b
  go_wp2_with fail
  refine (MakePerm_any (HA.out.step B.out) 40 (by omega) n (by omega) (by omega) _ (by omega)).mono ?_
  rintro e w3 ⟨vq, q, rfl, o, hp, hpl, b⟩
  replace B := Lib.hid (bstep B.out b)
  replace OP := Lib.hid (OI.step OP.out b)
  have OQ := Lib.hid o
  have HQ := Lib.hid hp
  have LQ := Lib.hid hpl
  clear o hp hpl b
  have HPQ := Lib.hid (compose_ok HP.out HQ.out (LP.out.trans LQ.out.symm))
  have RI0 : Hid (identityPerm (n : Int) = identity n) := by unfold identityPerm Hid; rw [if_pos (by omega), Int.toNat_natCast]
  have R1 := Lib.hid (inversePerm_yes HP.out)
  have R2 : Hid (composePerm p (inverse p) = (identity n, true)) := by
    have h := composePerm_yes HP.out (inv_ok HP.out) (inv_len p).symm
    rw [comp_inv HP.out, LP.out] at h; exact h
  obtain ⟨kk, hkk⟩ : ∃ kk, kk = orderOf p := ⟨_, rfl⟩
  have hkb := order_bound HP.out
  rw [← hkk] at hkb
  obtain ⟨hk1, hk512⟩ := hkb
  have KK := Lib.hid hkk
  clear hkk
  have R3 : Hid (powerPerm p (kk : Int) = (identity n, true)) := by
    have h := powerPerm_yes (k := (kk : Int)) HP.out (by omega) (by omega)
    rw [Int.toNat_natCast, (pow_id_order HP.out kk).2 (by rw [KK.out]; exact Nat.dvd_refl _), LP.out] at h; exact h
  have R4 := Lib.hid (composePerm_yes HP.out HQ.out (LP.out.trans LQ.out.symm))
  have E1 : Hid (decide (identity n = identity n) = true) := decide_eq_true rfl
  have hk1' : ¬ (kk : Int) < 1 := by omega
  go_wp2_with fail
  have hc := implIdentityPerm_any (w := w3) (n : Int)
  simp only [RI0.out] at hc
  refine hc.mono ?_
  clear hc
  rintro e w4 ⟨vD, rfl, o, b⟩
  replace B := Lib.hid (bstep B.out b)
  replace OP := Lib.hid (OI.step OP.out b)
  replace OQ := Lib.hid (OI.step OQ.out b)
  have OD := Lib.hid o
  clear o b
  have od := OD.out
  obtain ⟨Ad, cd, rfl, -⟩ := OI.form od
  rw [identity_len] at od OD ⊢
  clear od
  go_wp2_with fail
  have hc := implInversePerm_any (w := w4) OP.out.reads
  simp only [R1.out] at hc
  refine hc.mono ?_
  clear hc
  rintro e w5 ⟨vV, rfl, o, b⟩
  replace B := Lib.hid (bstep B.out b)
  replace OP := Lib.hid (OI.step OP.out b)
  replace OQ := Lib.hid (OI.step OQ.out b)
  replace OD := Lib.hid (OI.step OD.out b)
  have OV := Lib.hid o
  clear o b
  go_wp2_with fail
  have hc := implComposePerm_any (w := w5) OP.out.reads OV.out.reads
  simp only [R2.out] at hc
  refine hc.mono ?_
  clear hc
  rintro e w6 ⟨vBK, rfl, o, b⟩
  replace B := Lib.hid (bstep B.out b)
  clear OV
  replace OP := Lib.hid (OI.step OP.out b)
  replace OQ := Lib.hid (OI.step OQ.out b)
  replace OD := Lib.hid (OI.step OD.out b)
  have OBK := Lib.hid o
  clear o b
  go_wp2_with fail
  have hc := implOrderOf_any (w := w6) OP.out.reads
  rw [← KK.out] at hc
  refine hc.mono ?_
  clear hc
  rintro e w7 ⟨rfl, b⟩
  replace B := Lib.hid (bstep B.out b)
  replace OP := Lib.hid (OI.step OP.out b)
  replace OQ := Lib.hid (OI.step OQ.out b)
  replace OD := Lib.hid (OI.step OD.out b)
  replace OBK := Lib.hid (OI.step OBK.out b)
  clear b
  go_wp2_with fail
  have hc := implPowerPerm_any (w := w7) OP.out.reads (kk : Int)
  simp only [R3.out] at hc
  refine hc.mono ?_
  clear hc
  rintro e w8 ⟨vW, rfl, o, b⟩
  replace B := Lib.hid (bstep B.out b)
  replace OP := Lib.hid (OI.step OP.out b)
  replace OQ := Lib.hid (OI.step OQ.out b)
  replace OD := Lib.hid (OI.step OD.out b)
  replace OBK := Lib.hid (OI.step OBK.out b)
  have OW := Lib.hid o
  clear o b
  go_wp2_with fail
  have hc := implComposePerm_any (w := w8) OP.out.reads OQ.out.reads
  simp only [R4.out] at hc
  refine hc.mono ?_
  clear hc
  rintro e w9 ⟨vPQ, rfl, o, b⟩
  replace B := Lib.hid (bstep B.out b)
  clear OQ
  replace OP := Lib.hid (OI.step OP.out b)
  replace OD := Lib.hid (OI.step OD.out b)
  replace OBK := Lib.hid (OI.step OBK.out b)
  replace OW := Lib.hid (OI.step OW.out b)
  have OPQ := Lib.hid o
  clear o b
  go_wp2_with fail
  have hc := lawsSame_any (w := w9) OBK.out.reads OD.out.reads
  simp only [E1.out] at hc
  refine hc.mono ?_
  clear hc
  rintro e w10 ⟨rfl, st⟩
  have b := st.below
  replace B := Lib.hid (bstep B.out b)
  clear OBK
  replace OP := Lib.hid (OI.step OP.out b)
  replace OD := Lib.hid (OI.step OD.out b)
  replace OW := Lib.hid (OI.step OW.out b)
  replace OPQ := Lib.hid (OI.step OPQ.out b)
  clear b st
  go_wp2_with fail
  have hc := lawsSame_any (w := w10) OW.out.reads OD.out.reads
  simp only [E1.out] at hc
  refine hc.mono ?_
  clear hc
  rintro e w11 ⟨rfl, st⟩
  have b := st.below
  replace B := Lib.hid (bstep B.out b)
  clear OW OD
  replace OP := Lib.hid (OI.step OP.out b)
  replace OPQ := Lib.hid (OI.step OPQ.out b)
  clear b st
  go_wp2_with fail
  have hc := implPermOk_any (w := w11) OPQ.out.reads
  simp only [HPQ.out] at hc
  refine hc.mono ?_
  clear hc
  rintro e w12 ⟨rfl, b⟩
  replace B := Lib.hid (bstep B.out b)
  clear OPQ
  replace OP := Lib.hid (OI.step OP.out b)
  clear b
  obtain ⟨nc, hnc⟩ : ∃ nc, nc = (cyclesOf p).length := ⟨_, rfl⟩
  have hnc10 : nc ≤ 10 := by have := cyclesOf_len p; omega
  have NC := Lib.hid hnc
  have RT : Hid (cycleType p = typeTo n (cyclesOf p)) := by rw [Hid, cycleType_yes HP.out, LP.out]
  clear hnc
  go_wp2_with fail
  have hc := implCyclesOf_any (w := w12) OP.out.reads
  refine hc.mono ?_
  clear hc
  rintro e w13 ⟨vC, rfl, o, b⟩
  replace B := Lib.hid (bstep B.out b)
  replace OP := Lib.hid (OI.step OP.out b)
  have OC := Lib.hid o
  clear o b
  go_wp2_with fail
  have hc := implCycleType_any (w := w13) OP.out.reads
  simp only [RT.out] at hc
  refine hc.mono ?_
  clear hc
  rintro e w14 ⟨vT, rfl, o, b⟩
  replace B := Lib.hid (bstep B.out b)
  replace OP := Lib.hid (OI.step OP.out b)
  replace OC := Lib.hid (OII.step OC.out b)
  have OT := Lib.hid o
  clear o b
  have oc := OC.out.reads
  have ot := OT.out
  have op := OP.out
  obtain ⟨Ac, cc, hvc, -, hxc⟩ := oc
  subst hvc
  obtain ⟨At, ct, rfl, hgt⟩ := OI.form ot
  obtain ⟨Ap, cp, rfl, hgp⟩ := OI.form op
  rw [typeTo_len] at hgt ot OT
  rw [LP.out] at hgp op OP
  obtain ⟨gt, rfl, -⟩ := hgt (by omega)
  obtain ⟨gp, rfl, -⟩ := hgp (by omega)
  rw [typeTo_len, LP.out, ← NC.out]
  rw [← NC.out] at hxc
  have HX := Lib.hid hxc
  have TL : Hid ((typeTo n (cyclesOf p)).length = n) := typeTo_len _ _
  clear hxc ot op OC
  go_wp2_with fail
  go_loopw [18, 112] (fun v i wr => ∃ j s : Nat, j ≤ nc ∧ i = .int .i64 j ∧ v = .int .i64 s ∧ s ≤ 10 ∧ Hid (s = ((cyclesOf p).take j).flatten.length ∧ Still w14 wr)) (fun _ i _ => nc - (intOf i).toNat)
  case atStart => exact ⟨0, 0, Nat.zero_le _, rfl, rfl, by omega, by simp, Still.refl _⟩
  case round =>
    obtain ⟨j, s, hj, rfl, rfl, hs10, HR⟩ := hrel
    by_cases hlt : j < nc
    · have hjl : j < (cyclesOf p).length := by have := NC.out; omega
      obtain ⟨b1, o1, rfl, hb1, hc1⟩ := HX.out (by omega)
      obtain ⟨u, cu, ru⟩ := hc1 j hlt
      obtain ⟨cy, hcy⟩ : ∃ cy, cy = (cyclesOf p).getD j [] := ⟨_, rfl⟩
      rw [← hcy] at ru
      have hin : cy ∈ cyclesOf p := by rw [hcy]; exact getD_memS hjl
      have hok := cyclesOf_ok HP.out cy hin
      have hdv := order_cycle HP.out hin
      rw [← KK.out] at hdv
      have hft := flat_take (cyclesOf p) hjl
      have hfl := flat_take_le (cyclesOf p) (j + 1)
      have htot := cyclesOf_total p
      rw [← hcy, ← HR.out.1] at hft
      rw [hft] at hfl
      obtain ⟨A2, c2, hu, -, hcell⟩ := ru
      subst hu
      have cj := (HR.out.2.cell _).trans cu
      obtain ⟨l, hl⟩ : ∃ l, l = cy.length := ⟨_, rfl⟩
      rw [← hl] at cj hcell hft hfl hdv
      have hl1 : 1 ≤ l := by rw [hl]; exact hok.1
      have hln : l ≤ n := by have h := cyclesOf_ne HP.out cy hin; rw [LP.out, ← hl] at h; exact h.2
      obtain ⟨b2, o2, rfl, -, hcell⟩ := hcell (by omega)
      have HCY := Lib.hid (And.intro hok (And.intro hl (And.intro hin hcell)))
      have hz : ((l : Int) == 0) = false := by simp; omega
      have hkm : (kk : Int).tmod (l : Int) = 0 := by
        rw [show (kk : Int).tmod (l : Int) = ((kk % l : Nat) : Int) from rfl, Nat.mod_eq_zero_of_dvd hdv]; rfl
      have HFT := Lib.hid hft
      have hsl : s + l ≤ 10 := by omega
      clear hok hl hcy hcell hc1 cu hdv hft hfl htot hin
      go_wp2_with fail
      go_loopw [128] (fun i wi => ∃ t : Nat, t ≤ l ∧ i = .int .i64 t ∧ Hid (Still w14 wi)) (fun i _ => l - (intOf i).toNat)
      case atStart => exact ⟨0, Nat.zero_le _, rfl, HR.out.2⟩
      case round =>
        obtain ⟨t, ht, rfl, HS⟩ := hrel
        by_cases hlt2 : t < l
        · obtain ⟨hok, hl, hin, hcell⟩ := HCY.out
          have ct1 := (HS.out.cell _).trans (hcell t hlt2)
          obtain ⟨t2, ht2⟩ : ∃ t2, t2 = (t + 1) % l := ⟨_, rfl⟩
          have hmt : ((t : Int) + 1).tmod (l : Int) = (t2 : Int) := by rw [ht2]; rfl
          have ht2l : t2 < l := by rw [ht2]; exact Nat.mod_lt _ (by omega)
          have ct2 := (HS.out.cell _).trans (hcell t2 ht2l)
          have hnx := hok.2 t (by omega)
          rw [← hl, ← ht2] at hnx
          have hr := (cyclesOf_met HP.out).2 _ (List.mem_flatten.2 ⟨cy, hin, getD_mem (k := t) (by omega)⟩)
          obtain ⟨y, hy⟩ := Int.eq_ofNat_of_zero_le hr.1
          rw [hy] at ct1 hnx
          rw [hy, LP.out] at hr
          rw [Int.toNat_natCast] at hnx
          have hyn : y < n := by omega
          have cpy := (HS.out.cell _).trans (OI.cell OP.out LP.out y hyn)
          rw [hnx] at cpy
          generalize cy.getD t2 0 = z at cpy ct2
          have hzz : (z != z) = false := by simp
          have hy0 : decide ((y : Int) < 0) = false := decide_eq_false (by omega)
          have hy1 : decide ((n : Int) ≤ (y : Int)) = false := decide_eq_false (by omega)
          have hy2 : decide (n ≤ y) = false := decide_eq_false (by omega)
          have hy3 : decide ((y : Int) ≥ (n : Int)) = false := decide_eq_false (by omega)
          clear hok hl hin hcell hnx hr hy ht2
          go_wp2_with fail
          go_quiet (fail)
          go_wp2_with fail
          go_roundw
          case rel => exact ⟨t + 1, by omega, by go_num, HS.out.drewN _⟩
          case measure => simp [intOf]; omega
        · go_wp2_with fail
          go_roundw
          case rel => exact ⟨j + 1, s + l, by omega, by go_num, by go_num, hsl, HFT.out.symm, HS.out⟩
          case measure => simp [intOf]; omega
    · have hfn : Hid (s = n) := by
        have h := HR.out.1
        rw [List.take_of_length_le (by have := NC.out; omega), cyclesOf_sum HP.out, LP.out] at h
        exact h
      have hsn := hfn.out
      subst hsn
      have ST := Lib.hid HR.out.2
      replace B := Lib.hid (bstep B.out ST.out.below)
      replace OP := Lib.hid (OI.step OP.out ST.out.below)
      replace OT := Lib.hid (OI.step OT.out ST.out.below)
      have RCC : Hid (countCycles p = (nc : Int)) := by rw [Hid, NC.out]; rfl
      clear HR ST HX
      go_wp2_with fail
      have hc := implCountCycles_any OP.out.reads
      simp only [RCC.out] at hc
      refine hc.mono ?_
      clear hc
      rintro e wz ⟨rfl, b⟩
      replace B := Lib.hid (bstep B.out b)
      replace OT := Lib.hid (OI.step OT.out b)
      clear b OP
      go_wp2_with fail
      go_loop [18, 179] (fun v i => ∃ j q : Nat, j ≤ s ∧ i = .int .i64 j ∧ v = .int .i64 q ∧ q ≤ 10 ∧ Hid (q = wsum (cyclesOf p) j)) (fun _ i => s - (intOf i).toNat)
      case atStart => exact ⟨0, 0, Nat.zero_le _, rfl, rfl, by omega, rfl⟩
      case round =>
        obtain ⟨j, q, hj, rfl, rfl, hq10, HW⟩ := hrel
        by_cases hlt : j < s
        · have ctj := OI.cell OT.out TL.out j hlt
          rw [typeTo_get hlt] at ctj
          obtain ⟨x, hx⟩ : ∃ x, x = ((cyclesOf p).filter fun c => c.length == j + 1).length := ⟨_, rfl⟩
          rw [← hx] at ctj
          have hle := wsum_le (cyclesOf p) (fun c hc => (cyclesOf_ne HP.out c hc).1) (j + 1)
          have htot := cyclesOf_total p
          unfold wsum at hle
          rw [← hx, ← HW.out] at hle
          obtain ⟨r, hr⟩ : ∃ r, r = (j + 1) * x := ⟨_, rfl⟩
          rw [← hr] at hle
          have hmul : ((j : Int) + 1) * (x : Int) = (r : Int) := by rw [hr]; simp
          have hm2 : 0 ≤ ((j : Int) + 1) * (x : Int) := by omega
          have hm3 : ((j : Int) + 1) * (x : Int) ≤ 1048576 := by omega
          have HN : Hid (q + r = wsum (cyclesOf p) (j + 1)) := by rw [Hid, wsum, ← hx, ← HW.out, hr]
          have hqr : q + r ≤ 10 := by omega
          have HM := Lib.hid hmul
          clear hmul hx hr hle htot
          go_wp2_with fail
          go_round
          case rel => exact ⟨j + 1, q + r, by omega, by go_num, by rw [HM.out]; go_num, hqr, HN.out⟩
          case measure => simp [intOf]; omega
        · have hqs : q = s := by
            have h := HW.out
            obtain rfl : j = s := by omega
            rw [wsum_all (cyclesOf p) j (fun c hc => by have := cyclesOf_ne HP.out c hc; rw [LP.out] at this; exact this), cyclesOf_sum HP.out, LP.out] at h
            exact h
          subst hqs
          clear HW
          go_wp2_with fail
          go_ret
          exact ⟨rfl, B.out⟩

/-! The row's step. -/
set_option maxRecDepth 100000 in
theorem lifted (os : Os) (started : os.Started) (H : Type) (enc : TypeId × Value → H) :
    ReturnsInHanded {} Try.checked os 11 .any (Rows.fnPermsSpec.pre6 enc Try.prog Try.f11 Rows.fnPermsRow.domain false) (Rows.fnPermsSpec.post enc Try.prog Try.f11 false true false false) := by
  refine returnsInHanded_of_change (C := Try.checked) own started (by kernel_rfl) Try.func11
    (ChangeSpec.witness6 (enc := enc) (C := Try.checked) false ⟨#[], #[.slice none 0 0], []⟩ 8 (by kernel_rfl) (by kernel_rfl) (by kernel_rfl) (by kernel_rfl)) ?_
  intro W base args ds gs before hval0 hW hcnd _
  have hval : ∀ (j : Nat) t v, Try.f11.params[j]? = some t → args[j]? = some v → Value.okWide Try.prog W .any base t v := hval0
  have hW' := hW
  obtain ⟨p, q, hA0, hV, rfl, hfz, hnd⟩ := hW
  have hA : DataW.TrodAll enc Try.prog W 0 (fun _ => true) true Try.f11.params.toList args.toList ds p := hA0
  rw [Try.params11] at hA hval
  obtain ⟨v0, vs0, d0, ds0, p0, q0, hargs, rfl, rfl, h0, r0⟩ := trodAll_cons hA
  obtain ⟨rfl, rfl, rfl⟩ := trodAll_nil r0
  obtain rfl : args = #[v0] := by cases args; simp_all
  obtain ⟨rfl, rfl⟩ := trodVars_none hV
  obtain ⟨a0, len0, cap0, rfl⟩ := okWide_slice Try.underlying36 (hval 0 36 v0 rfl rfl)
  have k0 := h0
  have lt0 : ∀ x ∈ p0, x.block < W.heap.size := by obtain ⟨m, hm⟩ := k0; exact DataW.trod_lt m _ _ _ hm
  have w0 := open_RBy h0
  clear hA0 hval0
  refine (walk W w0).mono fun e W' ⟨he, bel⟩ => ?_
  subst he
  exact ⟨_, rfl, _, _, _, [], _, [], hW', trodAll_mk1 (shut_bool Try.underlying4 _), (trodAll_cons_mk (Below.trod laidOut (by kernel_rfl) (of_decide_eq_true (by kernel_rfl)) k0 bel lt0) trodAll_mk0), rfl, bel.frame _, fun h => by cases h⟩

/-- The statement. -/
theorem proved : Rows.FnPermsSaid :=
  OpenClaim.holds_of_wide 11 Try.f11 rfl rfl rfl rfl rfl rfl rfl ⟨rfl, rfl, rfl, rfl, rfl⟩ rfl rfl rfl rfl rfl (by kernel_rfl) Try.func11 (by kernel_rfl)
    (of_decide_eq_true (by kernel_rfl)) (by unfold Func.isWrapper; first | (rw [if_pos (by decide +kernel)]; kernel_rfl) | (rw [if_neg (by decide +kernel)]; exact ⟨rfl, rfl⟩))
    (fun os started H enc _ => lifted os started H enc)
#print axioms proved
end Go.Proofs.Ytmgighhdkgcigaa.lFnPerms
