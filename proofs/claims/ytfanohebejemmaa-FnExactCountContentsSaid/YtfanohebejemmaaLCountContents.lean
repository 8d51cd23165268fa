/-
  The law FnExactCountContents returns true for every input: program and reference return the same, the arguments stay as they were, and the result lies in memory of its own.
-/
import Derived.Test.YtfanohebejemmaaRow
import Derived.Test.YtfanohebejemmaaCount
import Derived.Test.YtfanohebejemmaaEq
import Derived.Test.YtfanohebejemmaaEq2
namespace Go.Proofs.Ytfanohebejemmaa.lCountContents
open Go.ChangeShapes Go.WideShapes Go.ChangeAt Go.RowKit
open Go.ChangeMaps (open_string shut_string)

set_option maxHeartbeats 4000000 in
set_option maxRecDepth 100000 in
theorem walk (w : World) {a0 : Value} {x0 : List (List Int)} (ha0 : RII w a0 x0) (_f0 : FitS x0) {a1 : Value} {x1 : List Int} (ha1 : RI w a1 x1) (_f1 : Fit x1) : Calls Try.prog 10 #[a0, a1] w fun e w' => e = .returned (.bool true) ∧ Below w.heap.size w w' := by
  obtain ⟨A0, c0, hv0⟩ := RII.shape ha0
  subst hv0
  have hm0 := ha0.lenle
  have HA0 := Lib.hid ha0
  clear ha0
  obtain ⟨A1, c1, hv1⟩ := RI.shape ha1
  subst hv1
  have hm1 := ha1.lenle
  have HA1 := Lib.hid ha1
  clear ha1
  have B := Lib.hid (Below.refl w.heap.size w)
  by_cases g1 : (1048576 : Int) < x1.length
  · go_enter Try.func10, Try.ntmps10
    go_wp2
    go_ret
    exact ⟨rfl, B.out⟩
  have hx1 : x1.length ≤ 1048576 := by omega
  clear g1
  obtain ⟨r, hr⟩ : ∃ r, countContents x0 x1 = r := ⟨_, rfl⟩
  have HR := Lib.hid hr
  have hbb : (r != r) = false := by simp
  clear hr
  go_enter Try.func10, Try.ntmps10
  go_wp2_with fail
  refine (szIntSS_any (HA0.out.below B.out)).mono ?_
  rintro e w1 ⟨rz0, rfl, hsz, b⟩
  replace B := Lib.hid (bstep B.out b)
  clear b
  rcases hsz with ⟨hz0, hx0⟩ | rfl
  rotate_left
  · go_wp2_with fail
    go_ret
    exact ⟨rfl, B.out⟩
  have HX0 := Lib.hid hx0
  have htot0 := hx0.2.2
  clear hx0
  go_wp2_with fail
  refine (toIntSS_any (HA0.out.below B.out) ⟨HX0.out.1, HX0.out.2.1⟩).mono ?_
  rintro e w2 ⟨vT0, rfl, o, b⟩
  replace B := Lib.hid (bstep B.out b)
  have T0 := Lib.hid (show OIIh w2 _ w2.heap.size _ _ from o)
  clear o b
  go_wp2_with fail
  refine (toIntS_any (HA1.out.below B.out) hx1).mono ?_
  rintro e w3 ⟨vT1, rfl, o, b⟩
  replace B := Lib.hid (bstep B.out b)
  replace T0 := Lib.hid (OIIh.step T0.out b)
  have T1 := Lib.hid o
  clear o b
  go_wp2_with fail
  have hc := specCountContents_any (w := w3) T0.out.reads T1.out.reads 
  simp only [HR.out] at hc
  refine hc.mono ?_
  clear hc
  rintro e w4 ⟨rfl, b⟩
  replace B := Lib.hid (bstep B.out b)
  clear b T0 T1
  have hb0 := B.out.size
  go_wp2_with fail
  refine (toIntSS_any (HA0.out.below B.out) ⟨HX0.out.1, HX0.out.2.1⟩).mono ?_
  rintro e w5 ⟨vX0, rfl, o, b⟩
  replace B := Lib.hid (bstep B.out b)
  have X0 := Lib.hid (show OIIh w5 _ w5.heap.size _ _ from o)
  have z5 := b.size
  clear o b
  have hb1 := B.out.size
  go_wp2_with fail
  refine (toIntS_any (HA1.out.below B.out) hx1).mono ?_
  rintro e w6 ⟨vX1, rfl, o, b⟩
  replace B := Lib.hid (bstep B.out b)
  replace X0 := Lib.hid (OIIh.step X0.out b)
  have X1 := Lib.hid o
  have z6 := b.size
  clear o b
  go_wp2_with fail
  have hc := implCountContents_any (w := w6) X0.out.reads X1.out.reads 
  simp only [HR.out] at hc
  refine hc.mono ?_
  clear hc
  rintro e w7 ⟨rfl, b⟩
  replace B := Lib.hid (bstep B.out b)
  replace X0 := Lib.hid (OIIh.step X0.out b)
  replace X1 := Lib.hid (OI.step X1.out b)
  clear b
  go_wp2_with fail
  refine (toIntSS_any (HA0.out.below B.out) ⟨HX0.out.1, HX0.out.2.1⟩).mono ?_
  rintro e w8 ⟨vC0, rfl, o, b⟩
  replace B := Lib.hid (bstep B.out b)
  replace X0 := Lib.hid (OIIh.step X0.out b)
  replace X1 := Lib.hid (OI.step X1.out b)
  have C0 := Lib.hid (show OIIh w8 _ w8.heap.size _ _ from o)
  clear o b
  go_wp2_with fail
  refine (eqIntSS_same X0.out.reads C0.out.reads).mono ?_
  rintro e w9 ⟨rfl, b⟩
  replace B := Lib.hid (bstep B.out b)
  replace X0 := Lib.hid (OIIh.step X0.out b)
  replace X1 := Lib.hid (OI.step X1.out b)
  clear b C0
  go_wp2_with fail
  refine (toIntS_any (HA1.out.below B.out) hx1).mono ?_
  rintro e w10 ⟨vC1, rfl, o, b⟩
  replace B := Lib.hid (bstep B.out b)
  replace X0 := Lib.hid (OIIh.step X0.out b)
  replace X1 := Lib.hid (OI.step X1.out b)
  have C1 := Lib.hid o
  clear o b
  go_wp2_with fail
  refine (eqIntS_same X1.out.reads C1.out.reads).mono ?_
  rintro e w11 ⟨rfl, b⟩
  replace B := Lib.hid (bstep B.out b)
  replace X0 := Lib.hid (OIIh.step X0.out b)
  replace X1 := Lib.hid (OI.step X1.out b)
  clear b C1
  go_wp2_with fail
  go_ret
  exact ⟨rfl, B.out⟩

/-! The row's step. -/
set_option maxRecDepth 100000 in
theorem lifted (os : Os) (started : os.Started) (H : Type) (enc : TypeId × Value → H) :
    ReturnsInHanded {} Try.checked os 10 .any (Rows.fnExactCountContentsSpec.pre6 enc Try.prog Try.f10 Rows.fnExactCountContentsRow.domain false) (Rows.fnExactCountContentsSpec.post enc Try.prog Try.f10 false true false false) := by
  refine returnsInHanded_of_change (C := Try.checked) own started (by kernel_rfl) Try.func10
    (ChangeSpec.witness6 (enc := enc) (C := Try.checked) false ⟨#[], #[.slice none 0 0, .slice none 0 0], []⟩ 8 (by kernel_rfl) (by kernel_rfl) (by kernel_rfl) (by kernel_rfl)) ?_
  intro W base args ds gs before hval0 hW hcnd _
  have hval : ∀ (j : Nat) t v, Try.f10.params[j]? = some t → args[j]? = some v → Value.okWide Try.prog W .any base t v := hval0
  have hW' := hW
  obtain ⟨p, q, hA0, hV, rfl, hfz, hnd⟩ := hW
  have hA : DataW.TrodAll enc Try.prog W 0 (fun _ => true) true Try.f10.params.toList args.toList ds p := hA0
  rw [Try.params10] at hA hval
  obtain ⟨v0, vs0, d0, ds0, p0, q0, hargs, rfl, rfl, h0, r0⟩ := trodAll_cons hA
  obtain ⟨v1, vs1, d1, ds1, p1, q1, rfl, rfl, rfl, h1, r1⟩ := trodAll_cons r0
  obtain ⟨rfl, rfl, rfl⟩ := trodAll_nil r1
  obtain rfl : args = #[v0, v1] := by cases args; simp_all
  obtain ⟨rfl, rfl⟩ := trodVars_none hV
  obtain ⟨a0, len0, cap0, rfl⟩ := okWide_slice Try.underlying22 (hval 0 22 v0 rfl rfl)
  have k0 := h0
  have lt0 : ∀ x ∈ p0, x.block < W.heap.size := by obtain ⟨m, hm⟩ := k0; exact DataW.trod_lt m _ _ _ hm
  obtain ⟨z0, w0, f0, l0⟩ := open_RII h0
  obtain ⟨a1, len1, cap1, rfl⟩ := okWide_slice Try.underlying27 (hval 1 27 v1 rfl rfl)
  have k1 := h1
  have lt1 : ∀ x ∈ p1, x.block < W.heap.size := by obtain ⟨m, hm⟩ := k1; exact DataW.trod_lt m _ _ _ hm
  obtain ⟨z1, w1, f1, l1⟩ := open_RI h1
  clear hA0 hval0
  refine (walk W w0 f0 w1 f1).mono fun e W' ⟨he, bel⟩ => ?_
  subst he
  exact ⟨_, rfl, _, _, _, [], _, [], hW', trodAll_mk1 (shut_bool Try.underlying4 _), (trodAll_cons_mk (Below.trod laidOut (by kernel_rfl) (of_decide_eq_true (by kernel_rfl)) k0 bel lt0) (trodAll_cons_mk (Below.trod laidOut (by kernel_rfl) (of_decide_eq_true (by kernel_rfl)) k1 bel lt1) trodAll_mk0)), rfl, bel.frame _, fun h => by cases h⟩

/-- The statement. -/
theorem proved : Rows.FnExactCountContentsSaid :=
  OpenClaim.holds_of_wide 10 Try.f10 rfl rfl rfl rfl rfl rfl rfl ⟨rfl, rfl, rfl, rfl, rfl⟩ rfl rfl rfl rfl rfl (by kernel_rfl) Try.func10 (by kernel_rfl)
    (of_decide_eq_true (by kernel_rfl)) (by unfold Func.isWrapper; first | (rw [if_pos (by decide +kernel)]; kernel_rfl) | (rw [if_neg (by decide +kernel)]; exact ⟨rfl, rfl⟩))
    (fun os started H enc _ => lifted os started H enc)
#print axioms proved
end Go.Proofs.Ytfanohebejemmaa.lCountContents
