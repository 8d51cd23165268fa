/-
  The law FnActions returns true for every input.
-/
import Derived.Test.YtmgighhdkgcigaaRowB
import Derived.Test.YtmgighhdkgcigaaActsFn
import Derived.Test.YtmgighhdkgcigaaAct
import Derived.Test.YtmgighhdkgcigaaSame
namespace Go.Proofs.Ytmgighhdkgcigaa.lFnActions
open Go.ChangeShapes Go.WideShapes Go.ChangeAt Go.RowKit
open Go.ChangeMaps (open_string shut_string)

set_option maxHeartbeats 4000000 in
set_option maxRecDepth 100000 in
theorem walk (w : World) {a0 : Value} {n0 : Nat} (ha0 : RBy w w.heap.size a0 n0) : Calls Try.prog 9 #[a0] w fun e w' => e = .returned (.bool true) ∧ Below w.heap.size w w' := by
  have HA := Lib.hid ha0
  obtain ⟨A0, c0, rfl, hn0, -⟩ := ha0
  have hm0 : n0 ≤ 9223372036854775807 := by unfold maxLen at hn0; omega
  have B := Lib.hid (Below.refl w.heap.size w)
  by_cases g0 : (1048576 : Int) < n0
  · go_enter Try.func9, Try.ntmps9
    go_wp2
    go_ret
    exact ⟨rfl, B.out⟩
  go_enter Try.func9, Try.ntmps9
  go_wp2_with fail
  refine (MakeNum_any (HA.out.step B.out) 1 (by omega)).mono ?_
  rintro e w1 ⟨x, rfl, hx0, hx1, b⟩
  replace B := Lib.hid (bstep B.out b)
  clear b
  obtain ⟨m, rfl⟩ := Int.eq_ofNat_of_zero_le hx0
  have hmod : ((m : Int)).tmod 8 = ((m % 8 : Nat) : Int) := rfl
  obtain ⟨n, hn⟩ : ∃ n, n = 1 + m % 8 := ⟨_, rfl⟩
  have hn1 : (1 : Int) + ((m % 8 : Nat) : Int) = (n : Int) := by omega
  have hnr : 1 ≤ n ∧ n ≤ 8 := by omega
  obtain ⟨k8, hk8⟩ : ∃ k8, k8 = m % 8 := ⟨_, rfl⟩
  rw [← hk8] at hmod hn1
  have hk8' : k8 ≤ 7 := by omega
  clear hn hk8 hx0 hx1
  go_wp2_with fail
  refine (MakePerm_any (HA.out.step B.out) 20 (by omega) n (by omega) (by omega) _ (by omega)).mono ?_
  rintro e w2 ⟨vp, p, rfl, op, hp, hpl, b⟩
  replace B := Lib.hid (bstep B.out b)
  have OP := Lib.hid op
  have HP := Lib.hid hp
  have HPL := Lib.hid hpl
  clear op hp hpl b
  go_wp2_with fail
  refine (MakePerm_any (HA.out.step B.out) 40 (by omega) n (by omega) (by omega) _ (by omega)).mono ?_
  rintro e w3 ⟨vq, q, rfl, oq, hq, hql, b⟩
  replace B := Lib.hid (bstep B.out b)
  replace OP := Lib.hid (OI.step OP.out b)
  have OQ := Lib.hid oq
  have HQ := Lib.hid hq
  have HQL := Lib.hid hql
  clear oq hq hql b
  go_wp2_with fail
  refine (MakeColors_any (HA.out.step B.out) 60 (by omega) n 2 (by omega) (by omega) (by omega) (by omega) _ _ (by omega) (by omega)).mono ?_
  rintro e w4 ⟨vl, l, rfl, ol, hl, hll, b⟩
  replace B := Lib.hid (bstep B.out b)
  replace OP := Lib.hid (OI.step OP.out b)
  replace OQ := Lib.hid (OI.step OQ.out b)
  have OL := Lib.hid ol
  have HLL := Lib.hid hll
  have HC : Hid (colOk l = true) := colOk_of_two hll (by omega) (by omega) hl
  clear ol hl hll b
  -- the five results
  have HPQ := Lib.hid (compose_ok HP.out HQ.out (HPL.out.trans HQL.out.symm))
  have HAL : Hid (colOk (act p l) = true) := by
    refine colOk_iff.2 ⟨fun x hx => (colOk_iff.1 HC.out).1 x (act_mem HP.out (by rw [HLL.out, HPL.out]) x hx), ?_, ?_⟩ <;> rw [act_len, HPL.out] <;> omega
  have R0 := Lib.hid (composePerm_yes HP.out HQ.out (HPL.out.trans HQL.out.symm))
  have R1 := Lib.hid (actOn_yes HP.out HC.out (by rw [HPL.out, HLL.out]))
  have R2 := Lib.hid (actOn_yes HQ.out HAL.out (by rw [act_len, HQL.out, HPL.out]))
  have R3 := Lib.hid (actOn_yes HPQ.out HC.out (by rw [compose_len, HPL.out, HLL.out]))
  go_wp2_with fail
  have hc := implComposePerm_any (w := w4) OP.out.reads OQ.out.reads
  simp only [R0.out] at hc
  refine hc.mono ?_
  clear hc
  rintro e w5 ⟨vpq, rfl, o, b⟩
  replace B := Lib.hid (bstep B.out b)
  replace OP := Lib.hid (OI.step OP.out b)
  replace OQ := Lib.hid (OI.step OQ.out b)
  replace OL := Lib.hid (OI.step OL.out b)
  have OPQ := Lib.hid o
  clear o b
  go_wp2_with fail
  have hc := implActOn_any (w := w5) OP.out.reads OL.out.reads
  simp only [R1.out] at hc
  refine hc.mono ?_
  clear hc
  rintro e w6 ⟨va, rfl, o, b⟩
  replace B := Lib.hid (bstep B.out b)
  replace OP := Lib.hid (OI.step OP.out b)
  replace OQ := Lib.hid (OI.step OQ.out b)
  replace OL := Lib.hid (OI.step OL.out b)
  replace OPQ := Lib.hid (OI.step OPQ.out b)
  have OA := Lib.hid o
  clear o b
  go_wp2_with fail
  have hc := implActOn_any (w := w6) OQ.out.reads OA.out.reads
  simp only [R2.out] at hc
  refine hc.mono ?_
  clear hc
  rintro e w7 ⟨vb, rfl, o, b⟩
  replace B := Lib.hid (bstep B.out b)
  replace OP := Lib.hid (OI.step OP.out b)
  replace OL := Lib.hid (OI.step OL.out b)
  replace OPQ := Lib.hid (OI.step OPQ.out b)
  replace OA := Lib.hid (OI.step OA.out b)
  have OB := Lib.hid o
  clear o b OQ
  go_wp2_with fail
  have hc := implActOn_any (w := w7) OPQ.out.reads OL.out.reads
  simp only [R3.out] at hc
  refine hc.mono ?_
  clear hc
  rintro e w8 ⟨vc, rfl, o, b⟩
  replace B := Lib.hid (bstep B.out b)
  replace OP := Lib.hid (OI.step OP.out b)
  replace OL := Lib.hid (OI.step OL.out b)
  replace OA := Lib.hid (OI.step OA.out b)
  replace OB := Lib.hid (OI.step OB.out b)
  have OC := Lib.hid o
  clear o b OPQ
  -- the shapes
  have HE : Hid (decide (act q (act p l) = act (compose p q) l) = true) := decide_eq_true (act_comp HP.out HQ.out (HPL.out.trans HQL.out.symm))
  have op := OP.out
  have ol := OL.out
  have oa := OA.out
  have ob := OB.out
  have oc := OC.out
  obtain ⟨Ap, cp, rfl, hgp⟩ := OI.form op
  obtain ⟨Al, cl, rfl, hgl⟩ := OI.form ol
  obtain ⟨Aa, ca, rfl, hga⟩ := OI.form oa
  rw [HPL.out] at hgp op OP
  rw [HLL.out] at hgl ol OL
  rw [act_len, HPL.out] at hga oa OA
  obtain ⟨gp, rfl, -⟩ := hgp (by omega)
  obtain ⟨gl, rfl, -⟩ := hgl (by omega)
  obtain ⟨ga, rfl, -⟩ := hga (by omega)
  rw [HPL.out, HLL.out, act_len, HPL.out]
  clear op ol oa ob oc
  go_wp2_with fail
  refine (lawsSame_any OB.out.reads OC.out.reads).mono ?_
  rw [HE.out]
  rintro e w9 ⟨rfl, st⟩
  have b := st.below
  replace B := Lib.hid (bstep B.out b)
  replace OP := Lib.hid (OI.step OP.out b)
  replace OL := Lib.hid (OI.step OL.out b)
  replace OA := Lib.hid (OI.step OA.out b)
  clear b st OB OC
  go_wp2_with fail
  go_loopw [15, 86] (fun v i wr => ∃ k : Nat, k ≤ n ∧ i = .int .i64 k ∧ v = .bool (keptTo p l k) ∧ Hid (Still w9 wr)) (fun _ i _ => n - (intOf i).toNat)
  case atStart => exact ⟨0, Nat.zero_le _, rfl, rfl, Still.refl _⟩
  case round =>
    obtain ⟨k, hk, rfl, rfl, HS⟩ := hrel
    by_cases hlt : k < n
    · have cpk := (HS.out.cell _).trans (OI.cell OP.out HPL.out k hlt)
      have clk := (HS.out.cell _).trans (OI.cell OL.out HLL.out k hlt)
      have hmem := permOk_mem HP.out _ (getD_mem (k := k) (by rw [HPL.out]; exact hlt))
      rw [HPL.out] at hmem
      obtain ⟨j, hj⟩ := Int.eq_ofNat_of_zero_le hmem.1
      have hjn : j < n := by omega
      have cla := (HS.out.cell _).trans (OI.cell OL.out HLL.out j hjn)
      have caa := (HS.out.cell _).trans (OI.cell OA.out (by rw [act_len, HPL.out]) j hjn)
      have hat := act_at (l := l) HP.out (i := k) (by rw [HPL.out]; exact hlt)
      have hks := keptTo_succ p l k
      rw [hj, Int.toNat_natCast] at hat hks
      rw [hj] at cpk
      rw [hat] at caa
      generalize l.getD k 0 = y at clk caa hks
      generalize l.getD j 0 = z at cla hks
      have HK := Lib.hid hks
      clear hat hks hmem hj
      have hyy : (y != y) = false := by simp
      cases hkt : keptTo p l k with
      | true =>
        rw [hkt] at HK
        clear hkt
        go_wp2_with fail
        go_quiet (fail)
        go_wp2_with fail
        go_quiet (fail)
        go_wp2_with fail
        go_roundw
        case rel => exact ⟨k + 1, by omega, by go_num, by rw [HK.out]; rfl, HS.out.drewN _⟩
        case measure => simp [intOf]; omega
      | false =>
        rw [hkt] at HK
        clear hkt
        go_wp2_with fail
        go_quiet (fail)
        go_wp2_with fail
        go_quiet (fail)
        go_wp2_with fail
        go_roundw
        case rel => exact ⟨k + 1, by omega, by go_num, by rw [HK.out]; rfl, HS.out.drewN _⟩
        case measure => simp [intOf]; omega
    · obtain rfl : k = n := by omega
      have HF := Lib.hid (keptTo_end HP.out (by rw [HLL.out, HPL.out]) HC.out)
      rw [HPL.out] at HF
      obtain ⟨r, hr⟩ : ∃ r, keptTo p l k = r := ⟨_, rfl⟩
      rw [hr] at HF ⊢
      have hrr : (r == r) = true := by simp
      clear hr
      replace OP := Lib.hid (OI.step OP.out HS.out.below)
      replace OL := Lib.hid (OI.step OL.out HS.out.below)
      replace OA := Lib.hid (OI.step OA.out HS.out.below)
      replace B := Lib.hid (bstep B.out HS.out.below)
      go_wp2_with fail
      have hc := implIsFixed_any OP.out.reads OL.out.reads
      simp only [HF.out] at hc
      refine hc.mono ?_
      clear hc
      rintro e w10 ⟨rfl, b⟩
      replace OA := Lib.hid (OI.step OA.out b)
      replace B := Lib.hid (bstep B.out b)
      clear b
      go_wp2_with fail
      have hc := implColoringOk_any OA.out.reads
      simp only [HAL.out] at hc
      refine hc.mono ?_
      clear hc
      rintro e w11 ⟨rfl, rfl⟩
      go_wp2_with fail
      go_ret
      exact ⟨rfl, B.out⟩

/-! The row's step. -/
set_option maxRecDepth 100000 in
theorem lifted (os : Os) (started : os.Started) (H : Type) (enc : TypeId × Value → H) :
    ReturnsInHanded {} Try.checked os 9 .any (Rows.fnActionsSpec.pre6 enc Try.prog Try.f9 Rows.fnActionsRow.domain false) (Rows.fnActionsSpec.post enc Try.prog Try.f9 false true false false) := by
  refine returnsInHanded_of_change (C := Try.checked) own started (by kernel_rfl) Try.func9
    (ChangeSpec.witness6 (enc := enc) (C := Try.checked) false ⟨#[], #[.slice none 0 0], []⟩ 8 (by kernel_rfl) (by kernel_rfl) (by kernel_rfl) (by kernel_rfl)) ?_
  intro W base args ds gs before hval0 hW hcnd _
  have hval : ∀ (j : Nat) t v, Try.f9.params[j]? = some t → args[j]? = some v → Value.okWide Try.prog W .any base t v := hval0
  have hW' := hW
  obtain ⟨p, q, hA0, hV, rfl, hfz, hnd⟩ := hW
  have hA : DataW.TrodAll enc Try.prog W 0 (fun _ => true) true Try.f9.params.toList args.toList ds p := hA0
  rw [Try.params9] at hA hval
  obtain ⟨v0, vs0, d0, ds0, p0, q0, hargs, rfl, rfl, h0, r0⟩ := trodAll_cons hA
  obtain ⟨rfl, rfl, rfl⟩ := trodAll_nil r0
  obtain rfl : args = #[v0] := by cases args; simp_all
  obtain ⟨rfl, rfl⟩ := trodVars_none hV
  obtain ⟨a0, len0, cap0, rfl⟩ := okWide_slice Try.underlying36 (hval 0 36 v0 rfl rfl)
  have k0 := h0
  have lt0 : ∀ x ∈ p0, x.block < W.heap.size := by obtain ⟨m, hm⟩ := k0; exact DataW.trod_lt m _ _ _ hm
  have w0 := open_RBy h0
  clear hA0 hval0
  refine (walk W w0).mono fun e W' ⟨he, bel⟩ => ?_
  subst he
  exact ⟨_, rfl, _, _, _, [], _, [], hW', trodAll_mk1 (shut_bool Try.underlying4 _), (trodAll_cons_mk (Below.trod laidOut (by kernel_rfl) (of_decide_eq_true (by kernel_rfl)) k0 bel lt0) trodAll_mk0), rfl, bel.frame _, fun h => by cases h⟩

/-- The statement. -/
theorem proved : Rows.FnActionsSaid :=
  OpenClaim.holds_of_wide 9 Try.f9 rfl rfl rfl rfl rfl rfl rfl ⟨rfl, rfl, rfl, rfl, rfl⟩ rfl rfl rfl rfl rfl (by kernel_rfl) Try.func9 (by kernel_rfl)
    (of_decide_eq_true (by kernel_rfl)) (by unfold Func.isWrapper; first | (rw [if_pos (by decide +kernel)]; kernel_rfl) | (rw [if_neg (by decide +kernel)]; exact ⟨rfl, rfl⟩))
    (fun os started H enc _ => lifted os started H enc)
#print axioms proved
end Go.Proofs.Ytmgighhdkgcigaa.lFnActions
