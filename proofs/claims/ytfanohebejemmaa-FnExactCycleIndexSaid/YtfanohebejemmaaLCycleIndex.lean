/-
  The law FnExactCycleIndex returns true for every input: program and reference return the same, the arguments stay as they were, and the result lies in memory of its own.
-/
import Derived.Test.YtfanohebejemmaaRow
import Derived.Test.YtfanohebejemmaaEq
import Derived.Test.YtfanohebejemmaaEq2
import Derived.Test.YtfanohebejemmaaCycX
namespace Go.Proofs.Ytfanohebejemmaa.lCycleIndex
open Go.ChangeShapes Go.WideShapes Go.ChangeAt Go.RowKit
open Go.ChangeMaps (open_string shut_string)

set_option maxHeartbeats 4000000 in
set_option maxRecDepth 100000 in
theorem walk (w : World) {a0 : Value} {x0 : List (List Int)} (ha0 : RII w a0 x0) (_f0 : FitS x0) : Calls Try.prog 13 #[a0] w fun e w' => e = .returned (.bool true) ∧ Below w.heap.size w w' := by
  obtain ⟨A0, c0, hv0⟩ := RII.shape ha0
  subst hv0
  have hm0 := ha0.lenle
  have HA0 := Lib.hid ha0
  clear ha0
  have B := Lib.hid (Below.refl w.heap.size w)
  obtain ⟨r, hr⟩ : ∃ r, cycleIndex x0 = r := ⟨_, rfl⟩
  have HR := Lib.hid hr
  have hrl : totT r ≤ 4194304 := by have h := cycleIndex_total x0; rw [HR.out] at h; exact Nat.le_trans h (by decide)
  have hqm : ((1 + (((totT r : Nat)) : Int)) != (1 + (((totT r : Nat)) : Int))) = false := by simp
  clear hr
  go_enter Try.func13, Try.ntmps13
  go_wp2_with fail
  refine (szIntSS_any (HA0.out.below B.out)).mono ?_
  rintro e w1 ⟨rz0, rfl, hsz, b⟩
  replace B := Lib.hid (bstep B.out b)
  clear b
  rcases hsz with ⟨hz0, hx0⟩ | rfl
  rotate_left
  · go_wp2_with fail
    go_ret
    exact ⟨rfl, B.out⟩
  have HX0 := Lib.hid hx0
  have htot0 := hx0.2.2
  clear hx0
  go_wp2_with fail
  refine (toIntSS_any (HA0.out.below B.out) ⟨HX0.out.1, HX0.out.2.1⟩).mono ?_
  rintro e w2 ⟨vT0, rfl, o, b⟩
  replace B := Lib.hid (bstep B.out b)
  have T0 := Lib.hid (show OIIh w2 _ w2.heap.size _ _ from o)
  clear o b
  go_wp2_with fail
  have hc := specCycleIndex_any (w := w2) T0.out.reads 
  simp only [HR.out] at hc
  refine hc.mono ?_
  clear hc
  rintro e w3 ⟨vW, rfl, o, b⟩
  have W := Lib.hid (o.reads)
  replace B := Lib.hid (bstep B.out b)
  clear b o T0
  have S := Lib.hid (Below.refl w3.heap.size w3)
  have hb0 := B.out.size
  have hs0 := S.out.size
  go_wp2_with fail
  refine (toIntSS_any (HA0.out.below B.out) ⟨HX0.out.1, HX0.out.2.1⟩).mono ?_
  rintro e w4 ⟨vX0, rfl, o, b⟩
  replace B := Lib.hid (bstep B.out b)
  replace S := Lib.hid (bstep S.out b)
  have X0 := Lib.hid (show OIIh w4 _ w4.heap.size _ _ from o)
  have z4 := b.size
  clear o b
  go_wp2_with fail
  have hc := implCycleIndex_any (w := w4) X0.out.reads 
  simp only [HR.out] at hc
  refine hc.mono ?_
  clear hc
  rintro e w5 ⟨vG, rfl, o, b⟩
  have hbG := B.out.size
  have hsG := S.out.size
  replace B := Lib.hid (bstep B.out b)
  replace S := Lib.hid (bstep S.out b)
  replace X0 := Lib.hid (OIIh.step X0.out b)
  have G := Lib.hid o
  clear o b
  go_wp2_with fail
  refine (eqTermS_same G.out.reads (W.out.below S.out)).mono ?_
  rintro e w6 ⟨rfl, b⟩
  replace B := Lib.hid (bstep B.out b)
  replace S := Lib.hid (bstep S.out b)
  replace X0 := Lib.hid (OIIh.step X0.out b)
  replace G := Lib.hid (OTT.step G.out b)
  clear b
  go_wp2_with fail
  refine (toIntSS_any (HA0.out.below B.out) ⟨HX0.out.1, HX0.out.2.1⟩).mono ?_
  rintro e w7 ⟨vC0, rfl, o, b⟩
  replace B := Lib.hid (bstep B.out b)
  replace S := Lib.hid (bstep S.out b)
  replace X0 := Lib.hid (OIIh.step X0.out b)
  replace G := Lib.hid (OTT.step G.out b)
  have C0 := Lib.hid (show OIIh w7 _ w7.heap.size _ _ from o)
  clear o b
  go_wp2_with fail
  refine (eqIntSS_same X0.out.reads C0.out.reads).mono ?_
  rintro e w8 ⟨rfl, b⟩
  replace B := Lib.hid (bstep B.out b)
  replace S := Lib.hid (bstep S.out b)
  replace X0 := Lib.hid (OIIh.step X0.out b)
  replace G := Lib.hid (OTT.step G.out b)
  clear b C0
  go_wp2_with fail
  refine (markIntSS_step (1) X0.out (by omega) (by omega) (by omega)).mono ?_
  rintro e w9 ⟨rfl, o, t⟩
  replace B := Lib.hid (B.out.trans (t.below hb0))
  replace S := Lib.hid (S.out.trans (t.below hs0))
  replace G := Lib.hid (OTT.above G.out t (by first | exact Nat.le_refl _ | omega))
  clear o t X0  hb0 hs0
  go_wp2_with fail
  refine (eqTermS_same G.out.reads (W.out.below S.out)).mono ?_
  rintro e w10 ⟨rfl, b⟩
  replace B := Lib.hid (bstep B.out b)
  replace S := Lib.hid (bstep S.out b)
  replace G := Lib.hid (OTT.step G.out b)
  clear b
  go_wp2_with fail
  refine (markTermS_step 1 G.out G.out.bound (by omega) (by omega) (by omega)).mono ?_
  rintro e w11 ⟨rfl, o, t⟩
  replace B := Lib.hid (B.out.trans (t.below hbG))
  replace S := Lib.hid (S.out.trans (t.below hsG))
  replace G := Lib.hid (OTTh.wide o)
  clear o t
  go_wp2_with fail
  refine (heldTermS_step 1 G.out.reads (by omega) (by omega) (by omega)).mono ?_
  rintro e w12 ⟨rfl, b⟩
  replace B := Lib.hid (bstep B.out b)
  replace S := Lib.hid (bstep S.out b)
  replace G := Lib.hid (OTT.step G.out b)
  clear b
  go_wp2_with fail
  refine (toIntSS_any (HA0.out.below B.out) ⟨HX0.out.1, HX0.out.2.1⟩).mono ?_
  rintro e w13 ⟨vT0, rfl, o, b⟩
  replace B := Lib.hid (bstep B.out b)
  replace S := Lib.hid (bstep S.out b)
  replace G := Lib.hid (OTT.step G.out b)
  have T0 := Lib.hid (show OIIh w13 _ w13.heap.size _ _ from o)
  clear o b
  go_wp2_with fail
  have hc := implCycleIndex_any (w := w13) T0.out.reads 
  simp only [HR.out] at hc
  refine hc.mono ?_
  clear hc
  rintro e w14 ⟨vH, rfl, o, b⟩
  replace B := Lib.hid (bstep B.out b)
  replace S := Lib.hid (bstep S.out b)
  replace G := Lib.hid (OTT.step G.out b)
  have Hh := Lib.hid o
  clear o b T0
  go_wp2_with fail
  refine (eqTermS_same Hh.out.reads (W.out.below S.out)).mono ?_
  rintro e w15 ⟨rfl, b⟩
  replace B := Lib.hid (bstep B.out b)
  replace S := Lib.hid (bstep S.out b)
  replace G := Lib.hid (OTT.step G.out b)
  replace Hh := Lib.hid (OTT.step Hh.out b)
  clear b
  clear Hh
  go_wp2_with fail
  refine (heldTermS_step 1 G.out.reads (by omega) (by omega) (by omega)).mono ?_
  rintro e w16 ⟨rfl, b⟩
  replace B := Lib.hid (bstep B.out b)
  replace S := Lib.hid (bstep S.out b)
  replace G := Lib.hid (OTT.step G.out b)
  clear b
  go_wp2_with fail
  go_ret
  exact ⟨rfl, B.out⟩

/-! The row's step. -/
set_option maxRecDepth 100000 in
theorem lifted (os : Os) (started : os.Started) (H : Type) (enc : TypeId × Value → H) :
    ReturnsInHanded {} Try.checked os 13 .any (Rows.fnExactCycleIndexSpec.pre6 enc Try.prog Try.f13 Rows.fnExactCycleIndexRow.domain false) (Rows.fnExactCycleIndexSpec.post enc Try.prog Try.f13 false true false false) := by
  refine returnsInHanded_of_change (C := Try.checked) own started (by kernel_rfl) Try.func13
    (ChangeSpec.witness6 (enc := enc) (C := Try.checked) false ⟨#[], #[.slice none 0 0], []⟩ 8 (by kernel_rfl) (by kernel_rfl) (by kernel_rfl) (by kernel_rfl)) ?_
  intro W base args ds gs before hval0 hW hcnd _
  have hval : ∀ (j : Nat) t v, Try.f13.params[j]? = some t → args[j]? = some v → Value.okWide Try.prog W .any base t v := hval0
  have hW' := hW
  obtain ⟨p, q, hA0, hV, rfl, hfz, hnd⟩ := hW
  have hA : DataW.TrodAll enc Try.prog W 0 (fun _ => true) true Try.f13.params.toList args.toList ds p := hA0
  rw [Try.params13] at hA hval
  obtain ⟨v0, vs0, d0, ds0, p0, q0, hargs, rfl, rfl, h0, r0⟩ := trodAll_cons hA
  obtain ⟨rfl, rfl, rfl⟩ := trodAll_nil r0
  obtain rfl : args = #[v0] := by cases args; simp_all
  obtain ⟨rfl, rfl⟩ := trodVars_none hV
  obtain ⟨a0, len0, cap0, rfl⟩ := okWide_slice Try.underlying22 (hval 0 22 v0 rfl rfl)
  have k0 := h0
  have lt0 : ∀ x ∈ p0, x.block < W.heap.size := by obtain ⟨m, hm⟩ := k0; exact DataW.trod_lt m _ _ _ hm
  obtain ⟨z0, w0, f0, l0⟩ := open_RII h0
  clear hA0 hval0
  refine (walk W w0 f0).mono fun e W' ⟨he, bel⟩ => ?_
  subst he
  exact ⟨_, rfl, _, _, _, [], _, [], hW', trodAll_mk1 (shut_bool Try.underlying4 _), (trodAll_cons_mk (Below.trod laidOut (by kernel_rfl) (of_decide_eq_true (by kernel_rfl)) k0 bel lt0) trodAll_mk0), rfl, bel.frame _, fun h => by cases h⟩

/-- The statement. -/
theorem proved : Rows.FnExactCycleIndexSaid :=
  OpenClaim.holds_of_wide 13 Try.f13 rfl rfl rfl rfl rfl rfl rfl ⟨rfl, rfl, rfl, rfl, rfl⟩ rfl rfl rfl rfl rfl (by kernel_rfl) Try.func13 (by kernel_rfl)
    (of_decide_eq_true (by kernel_rfl)) (by unfold Func.isWrapper; first | (rw [if_pos (by decide +kernel)]; kernel_rfl) | (rw [if_neg (by decide +kernel)]; exact ⟨rfl, rfl⟩))
    (fun os started H enc _ => lifted os started H enc)
#print axioms proved
end Go.Proofs.Ytfanohebejemmaa.lCycleIndex
