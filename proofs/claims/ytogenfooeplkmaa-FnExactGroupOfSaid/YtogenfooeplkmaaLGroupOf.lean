/-
  The law FnExactGroupOf returns true for every input: program and reference return the same, the arguments stay as they were, and the result lies in memory of its own.
-/
import Derived.Test.YtogenfooeplkmaaRow
import Derived.Test.YtogenfooeplkmaaGenI
import Derived.Test.YtogenfooeplkmaaGenS
import Derived.Test.YtogenfooeplkmaaTurnFn
import Derived.Test.YtogenfooeplkmaaEq2
namespace Go.Proofs.Ytogenfooeplkmaa.lGroupOf
open Go.ChangeShapes Go.WideShapes Go.ChangeAt Go.RowKit
open Go.ChangeMaps (open_string shut_string)

set_option maxHeartbeats 4000000 in
set_option maxRecDepth 100000 in
theorem walk (w : World) (x0 : Int) (_f0 : -9223372036854775808 ≤ x0 ∧ x0 ≤ 9223372036854775807) {a1 : Value} {x1 : List (List Int)} (ha1 : RII w a1 x1) (_f1 : FitS x1) : Calls Try.prog 4 #[.int .i64 x0, a1] w fun e w' => e = .returned (.bool true) ∧ Below w.heap.size w w' := by
  obtain ⟨A1, c1, hv1⟩ := RII.shape ha1
  subst hv1
  have hm1 := ha1.lenle
  have HA1 := Lib.hid ha1
  clear ha1
  have B := Lib.hid (Below.refl w.heap.size w)
  obtain ⟨r, bb, hr⟩ : ∃ r bb, groupOf x0 x1 = (r, bb) := ⟨_, _, rfl⟩
  have hbb : (bb != bb) = false := by simp
  have HR := Lib.hid hr
  have hrl : total r ≤ 4194304 := by have h := groupOf_total x0 x1; rw [HR.out] at h; exact Nat.le_trans h (by decide)
  have hqm : ((1 + (((total r : Nat)) : Int)) != (1 + (((total r : Nat)) : Int))) = false := by simp
  clear hr
  go_enter Try.func4, Try.ntmps4
  go_wp2_with fail
  refine (szIntSS_any (HA1.out.below B.out)).mono ?_
  rintro e w1 ⟨rz1, rfl, hsz, b⟩
  replace B := Lib.hid (bstep B.out b)
  clear b
  rcases hsz with ⟨hz1, hx1⟩ | rfl
  rotate_left
  · go_wp2_with fail
    go_ret
    exact ⟨rfl, B.out⟩
  have HX1 := Lib.hid hx1
  have htot1 := hx1.2.2
  clear hx1
  go_wp2_with fail
  refine (toIntSS_any (HA1.out.below B.out) ⟨HX1.out.1, HX1.out.2.1⟩).mono ?_
  rintro e w2 ⟨vT1, rfl, o, b⟩
  replace B := Lib.hid (bstep B.out b)
  have T1 := Lib.hid (show OIIh w2 _ w2.heap.size _ _ from o)
  clear o b
  go_wp2_with fail
  have hc := specGroupOf_any (w := w2) x0 T1.out.reads 
  simp only [HR.out] at hc
  refine hc.mono ?_
  clear hc
  rintro e w3 ⟨vW, rfl, o, b⟩
  have W := Lib.hid (o.reads)
  replace B := Lib.hid (bstep B.out b)
  clear b o T1
  have S := Lib.hid (Below.refl w3.heap.size w3)
  have hb1 := B.out.size
  have hs1 := S.out.size
  go_wp2_with fail
  refine (toIntSS_any (HA1.out.below B.out) ⟨HX1.out.1, HX1.out.2.1⟩).mono ?_
  rintro e w4 ⟨vX1, rfl, o, b⟩
  replace B := Lib.hid (bstep B.out b)
  replace S := Lib.hid (bstep S.out b)
  have X1 := Lib.hid (show OIIh w4 _ w4.heap.size _ _ from o)
  have z4 := b.size
  clear o b
  go_wp2_with fail
  have hc := implGroupOf_any (w := w4) x0 X1.out.reads 
  simp only [HR.out] at hc
  refine hc.mono ?_
  clear hc
  rintro e w5 ⟨vG, rfl, o, b⟩
  have hbG := B.out.size
  have hsG := S.out.size
  replace B := Lib.hid (bstep B.out b)
  replace S := Lib.hid (bstep S.out b)
  replace X1 := Lib.hid (OIIh.step X1.out b)
  have G := Lib.hid o
  clear o b
  go_wp2_with fail
  refine (eqIntSS_same G.out.reads (W.out.below S.out)).mono ?_
  rintro e w6 ⟨rfl, b⟩
  replace B := Lib.hid (bstep B.out b)
  replace S := Lib.hid (bstep S.out b)
  replace X1 := Lib.hid (OIIh.step X1.out b)
  replace G := Lib.hid (OII.step G.out b)
  clear b
  go_wp2_with fail
  refine (toIntSS_any (HA1.out.below B.out) ⟨HX1.out.1, HX1.out.2.1⟩).mono ?_
  rintro e w7 ⟨vC1, rfl, o, b⟩
  replace B := Lib.hid (bstep B.out b)
  replace S := Lib.hid (bstep S.out b)
  replace X1 := Lib.hid (OIIh.step X1.out b)
  replace G := Lib.hid (OII.step G.out b)
  have C1 := Lib.hid (show OIIh w7 _ w7.heap.size _ _ from o)
  clear o b
  go_wp2_with fail
  refine (eqIntSS_same X1.out.reads C1.out.reads).mono ?_
  rintro e w8 ⟨rfl, b⟩
  replace B := Lib.hid (bstep B.out b)
  replace S := Lib.hid (bstep S.out b)
  replace X1 := Lib.hid (OIIh.step X1.out b)
  replace G := Lib.hid (OII.step G.out b)
  clear b C1
  go_wp2_with fail
  refine (markIntSS_step (1) X1.out (by omega) (by omega) (by omega)).mono ?_
  rintro e w9 ⟨rfl, o, t⟩
  replace B := Lib.hid (B.out.trans (t.below hb1))
  replace S := Lib.hid (S.out.trans (t.below hs1))
  replace G := Lib.hid (OII.above G.out t (by first | exact Nat.le_refl _ | omega))
  clear o t X1  hb1 hs1
  go_wp2_with fail
  refine (eqIntSS_same G.out.reads (W.out.below S.out)).mono ?_
  rintro e w10 ⟨rfl, b⟩
  replace B := Lib.hid (bstep B.out b)
  replace S := Lib.hid (bstep S.out b)
  replace G := Lib.hid (OII.step G.out b)
  clear b
  go_wp2_with fail
  refine (markIntSS_step 1 G.out (by omega) (by omega) (by omega)).mono ?_
  rintro e w11 ⟨rfl, o, t⟩
  replace B := Lib.hid (B.out.trans (t.below hbG))
  replace S := Lib.hid (S.out.trans (t.below hsG))
  replace G := Lib.hid (OIIh.toOII o)
  clear o t
  go_wp2_with fail
  refine (heldIntSS_step 1 G.out.reads (by omega) (by omega) (by omega)).mono ?_
  rintro e w12 ⟨rfl, b⟩
  replace B := Lib.hid (bstep B.out b)
  replace S := Lib.hid (bstep S.out b)
  replace G := Lib.hid (OII.step G.out b)
  clear b
  go_wp2_with fail
  refine (toIntSS_any (HA1.out.below B.out) ⟨HX1.out.1, HX1.out.2.1⟩).mono ?_
  rintro e w13 ⟨vT1, rfl, o, b⟩
  replace B := Lib.hid (bstep B.out b)
  replace S := Lib.hid (bstep S.out b)
  replace G := Lib.hid (OII.step G.out b)
  have T1 := Lib.hid (show OIIh w13 _ w13.heap.size _ _ from o)
  clear o b
  go_wp2_with fail
  have hc := implGroupOf_any (w := w13) x0 T1.out.reads 
  simp only [HR.out] at hc
  refine hc.mono ?_
  clear hc
  rintro e w14 ⟨vH, rfl, o, b⟩
  replace B := Lib.hid (bstep B.out b)
  replace S := Lib.hid (bstep S.out b)
  replace G := Lib.hid (OII.step G.out b)
  have Hh := Lib.hid o
  clear o b T1
  go_wp2_with fail
  refine (eqIntSS_same Hh.out.reads (W.out.below S.out)).mono ?_
  rintro e w15 ⟨rfl, b⟩
  replace B := Lib.hid (bstep B.out b)
  replace S := Lib.hid (bstep S.out b)
  replace G := Lib.hid (OII.step G.out b)
  replace Hh := Lib.hid (OII.step Hh.out b)
  clear b
  clear Hh
  go_wp2_with fail
  refine (heldIntSS_step 1 G.out.reads (by omega) (by omega) (by omega)).mono ?_
  rintro e w16 ⟨rfl, b⟩
  replace B := Lib.hid (bstep B.out b)
  replace S := Lib.hid (bstep S.out b)
  replace G := Lib.hid (OII.step G.out b)
  clear b
  go_wp2_with fail
  go_ret
  exact ⟨rfl, B.out⟩

/-! The row's step. -/
set_option maxRecDepth 100000 in
theorem lifted (os : Os) (started : os.Started) (H : Type) (enc : TypeId × Value → H) :
    ReturnsInHanded {} Try.checked os 4 .any (Rows.fnExactGroupOfSpec.pre6 enc Try.prog Try.f4 Rows.fnExactGroupOfRow.domain false) (Rows.fnExactGroupOfSpec.post enc Try.prog Try.f4 false true false false) := by
  refine returnsInHanded_of_change (C := Try.checked) own started (by kernel_rfl) Try.func4
    (ChangeSpec.witness6 (enc := enc) (C := Try.checked) false ⟨#[], #[.int .i64 0, .slice none 0 0], []⟩ 8 (by kernel_rfl) (by kernel_rfl) (by kernel_rfl) (by kernel_rfl)) ?_
  intro W base args ds gs before hval0 hW hcnd _
  have hval : ∀ (j : Nat) t v, Try.f4.params[j]? = some t → args[j]? = some v → Value.okWide Try.prog W .any base t v := hval0
  have hW' := hW
  obtain ⟨p, q, hA0, hV, rfl, hfz, hnd⟩ := hW
  have hA : DataW.TrodAll enc Try.prog W 0 (fun _ => true) true Try.f4.params.toList args.toList ds p := hA0
  rw [Try.params4] at hA hval
  obtain ⟨v0, vs0, d0, ds0, p0, q0, hargs, rfl, rfl, h0, r0⟩ := trodAll_cons hA
  obtain ⟨v1, vs1, d1, ds1, p1, q1, rfl, rfl, rfl, h1, r1⟩ := trodAll_cons r0
  obtain ⟨rfl, rfl, rfl⟩ := trodAll_nil r1
  obtain rfl : args = #[v0, v1] := by cases args; simp_all
  obtain ⟨rfl, rfl⟩ := trodVars_none hV
  obtain ⟨a0, rfl, rfl, rfl, w0⟩ := open_int Try.underlying3 (hval 0 3 v0 rfl rfl) h0
  obtain ⟨a1, len1, cap1, rfl⟩ := okWide_slice Try.underlying22 (hval 1 22 v1 rfl rfl)
  have k1 := h1
  have lt1 : ∀ x ∈ p1, x.block < W.heap.size := by obtain ⟨m, hm⟩ := k1; exact DataW.trod_lt m _ _ _ hm
  obtain ⟨z1, w1, f1, l1⟩ := open_RII h1
  clear hA0 hval0
  refine (walk W a0 (fit1_of_wf w0) w1 f1).mono fun e W' ⟨he, bel⟩ => ?_
  subst he
  exact ⟨_, rfl, _, _, _, [], _, [], hW', trodAll_mk1 (shut_bool Try.underlying4 _), (trodAll_cons_mk (shut_int Try.underlying3 w0) (trodAll_cons_mk (Below.trod laidOut (by kernel_rfl) (of_decide_eq_true (by kernel_rfl)) k1 bel lt1) trodAll_mk0)), rfl, bel.frame _, fun h => by cases h⟩

/-- The statement. -/
theorem proved : Rows.FnExactGroupOfSaid :=
  OpenClaim.holds_of_wide 4 Try.f4 rfl rfl rfl rfl rfl rfl rfl ⟨rfl, rfl, rfl, rfl, rfl⟩ rfl rfl rfl rfl rfl (by kernel_rfl) Try.func4 (by kernel_rfl)
    (of_decide_eq_true (by kernel_rfl)) (by unfold Func.isWrapper; first | (rw [if_pos (by decide +kernel)]; kernel_rfl) | (rw [if_neg (by decide +kernel)]; exact ⟨rfl, rfl⟩))
    (fun os started H enc _ => lifted os started H enc)
#print axioms proved
end Go.Proofs.Ytogenfooeplkmaa.lGroupOf
