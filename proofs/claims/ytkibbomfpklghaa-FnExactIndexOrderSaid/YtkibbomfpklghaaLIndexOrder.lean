/-
  The law FnExactIndexOrder returns true for every input: program and reference return the same number and the argument stays as it was.
-/
import Derived.Test.YtkibbomfpklghaaRowTS
namespace Go.Proofs.Ytkibbomfpklghaa.lIndexOrder
open Go.ChangeShapes Go.WideShapes Go.ChangeAt Go.RowKit

set_option maxHeartbeats 4000000 in
set_option maxRecDepth 100000 in
theorem walk (w : World) {a0 : Value} {ts : List (List Int × Int)} (ha0 : RTS w a0 ts) (_f0 : FitTS ts) : Calls Try.prog 10 #[a0] w fun e w' => e = .returned (.bool true) ∧ Below w.heap.size w w' := by
  obtain ⟨A0, c0, hv0⟩ := RTS.shape ha0
  subst hv0
  have hm0 := ha0.lenle
  have HA0 := Lib.hid ha0
  clear ha0
  have B := Lib.hid (Below.refl w.heap.size w)
  obtain ⟨r, hr⟩ : ∃ r, indexOrder ts = r := ⟨_, rfl⟩
  have HR := Lib.hid hr
  have hbb : (r != r) = false := by simp
  clear hr
  go_enter Try.func10, Try.ntmps10
  go_wp2_with fail
  refine (szTermS_any (HA0.out.below B.out)).mono ?_
  rintro e w1 ⟨rz, rfl, hsz, b⟩
  replace B := Lib.hid (bstep B.out b)
  clear b
  rcases hsz with ⟨hz, hx⟩ | rfl
  rotate_left
  · go_wp2_with fail
    go_ret
    exact ⟨rfl, B.out⟩
  have HX := Lib.hid hx
  clear hx
  go_wp2_with fail
  refine (toTermS_any (HA0.out.below B.out) HX.out).mono ?_
  rintro e w2 ⟨vT, rfl, o, b⟩
  replace B := Lib.hid (bstep B.out b)
  obtain ⟨A1, c1, rfl⟩ := o.shape
  have T := Lib.hid o
  clear o b
  go_wp2_with fail
  have hc := specIndexOrder_any T.out
  simp only [HR.out] at hc
  refine hc.mono ?_
  clear hc
  rintro e w3 ⟨rfl, b⟩
  replace B := Lib.hid (bstep B.out b)
  clear b T
  go_wp2_with fail
  refine (toTermS_any (HA0.out.below B.out) HX.out).mono ?_
  rintro e w4 ⟨vX, rfl, o, b⟩
  replace B := Lib.hid (bstep B.out b)
  obtain ⟨A2, c2, rfl⟩ := o.shape
  have X := Lib.hid o
  clear o b
  go_wp2_with fail
  have hc := implIndexOrder_any X.out
  simp only [HR.out] at hc
  refine hc.mono ?_
  clear hc
  rintro e w5 ⟨rfl, b⟩
  replace B := Lib.hid (bstep B.out b)
  replace X := Lib.hid (RTS.below X.out b)
  clear b
  go_wp2_with fail
  refine (toTermS_any (HA0.out.below B.out) HX.out).mono ?_
  rintro e w6 ⟨vZ, rfl, o, b⟩
  replace B := Lib.hid (bstep B.out b)
  replace X := Lib.hid (RTS.below X.out b)
  obtain ⟨A3, c3, rfl⟩ := o.shape
  have Z := Lib.hid o
  clear o b
  go_wp2_with fail
  refine (eqTermS_same X.out Z.out).mono ?_
  rintro e w7 ⟨rfl, b⟩
  replace B := Lib.hid (bstep B.out b)
  clear b
  go_wp2_with fail
  go_ret
  exact ⟨rfl, B.out⟩

/-! The row's step. -/
set_option maxRecDepth 100000 in
theorem lifted (os : Os) (started : os.Started) (H : Type) (enc : TypeId × Value → H) :
    ReturnsInHanded {} Try.checked os 10 .any (Rows.fnExactIndexOrderSpec.pre6 enc Try.prog Try.f10 Rows.fnExactIndexOrderRow.domain false) (Rows.fnExactIndexOrderSpec.post enc Try.prog Try.f10 false true false false) := by
  refine returnsInHanded_of_change (C := Try.checked) own started (by kernel_rfl) Try.func10
    (ChangeSpec.witness6 (enc := enc) (C := Try.checked) false ⟨#[], #[.slice none 0 0], []⟩ 8 (by kernel_rfl) (by kernel_rfl) (by kernel_rfl) (by kernel_rfl)) ?_
  intro W base args ds gs before hval0 hW hcnd _
  have hval : ∀ (j : Nat) t v, Try.f10.params[j]? = some t → args[j]? = some v → Value.okWide Try.prog W .any base t v := hval0
  have hW' := hW
  obtain ⟨p, q, hA0, hV, rfl, hfz, hnd⟩ := hW
  have hA : DataW.TrodAll enc Try.prog W 0 (fun _ => true) true Try.f10.params.toList args.toList ds p := hA0
  rw [Try.params10] at hA hval
  obtain ⟨v0, vs0, d0, ds0, p0, q0, hargs, rfl, rfl, h0, r0⟩ := trodAll_cons hA
  obtain ⟨rfl, rfl, rfl⟩ := trodAll_nil r0
  obtain rfl : args = #[v0] := by cases args; simp_all
  obtain ⟨rfl, rfl⟩ := trodVars_none hV
  obtain ⟨a0, len0, cap0, rfl⟩ := okWide_slice Try.underlying56 (hval 0 56 v0 rfl rfl)
  have k0 := h0
  have lt0 : ∀ x ∈ p0, x.block < W.heap.size := by obtain ⟨m, hm⟩ := k0; exact DataW.trod_lt m _ _ _ hm
  obtain ⟨z0, w0, f0, l0⟩ := open_RTS h0
  clear hA0 hval0
  refine (walk W w0 f0).mono fun e W' ⟨he, bel⟩ => ?_
  subst he
  exact ⟨_, rfl, _, _, _, [], _, [], hW', trodAll_mk1 (shut_bool Try.underlying4 _), (trodAll_cons_mk (Below.trod laidOut (by kernel_rfl) (of_decide_eq_true (by kernel_rfl)) k0 bel lt0) trodAll_mk0), rfl, bel.frame _, fun h => by cases h⟩

/-- The statement. -/
theorem proved : Rows.FnExactIndexOrderSaid :=
  OpenClaim.holds_of_wide 10 Try.f10 rfl rfl rfl rfl rfl rfl rfl ⟨rfl, rfl, rfl, rfl, rfl⟩ rfl rfl rfl rfl rfl (by kernel_rfl) Try.func10 (by kernel_rfl)
    (of_decide_eq_true (by kernel_rfl)) (by unfold Func.isWrapper; first | (rw [if_pos (by decide +kernel)]; kernel_rfl) | (rw [if_neg (by decide +kernel)]; exact ⟨rfl, rfl⟩))
    (fun os started H enc _ => lifted os started H enc)
#print axioms proved
end Go.Proofs.Ytkibbomfpklghaa.lIndexOrder
