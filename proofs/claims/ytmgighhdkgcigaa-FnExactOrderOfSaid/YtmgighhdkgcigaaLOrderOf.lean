/-
  The law FnExactOrderOf returns true for every input: program and reference return the same, the arguments stay as they were, and the result lies in memory of its own.
-/
import Derived.Test.YtmgighhdkgcigaaRow
import Derived.Test.YtmgighhdkgcigaaOrder
import Derived.Test.YtmgighhdkgcigaaEq
namespace Go.Proofs.Ytmgighhdkgcigaa.lOrderOf
open Go.ChangeShapes Go.WideShapes Go.ChangeAt Go.RowKit
open Go.ChangeMaps (open_string shut_string)

set_option maxHeartbeats 4000000 in
set_option maxRecDepth 100000 in
theorem walk (w : World) {a0 : Value} {x0 : List Int} (ha0 : RI w a0 x0) (_f0 : Fit x0) : Calls Try.prog 7 #[a0] w fun e w' => e = .returned (.bool true) ∧ Below w.heap.size w w' := by
  obtain ⟨A0, c0, hv0⟩ := RI.shape ha0
  subst hv0
  have hm0 := ha0.lenle
  have HA0 := Lib.hid ha0
  clear ha0
  have B := Lib.hid (Below.refl w.heap.size w)
  by_cases g0 : (1048576 : Int) < x0.length
  · go_enter Try.func7, Try.ntmps7
    go_wp2
    go_ret
    exact ⟨rfl, B.out⟩
  have hx0 : x0.length ≤ 1048576 := by omega
  clear g0
  obtain ⟨r, hr⟩ : ∃ r, orderOf x0 = r := ⟨_, rfl⟩
  have HR := Lib.hid hr
  have hbb : (r != r) = false := by simp
  clear hr
  go_enter Try.func7, Try.ntmps7
  go_wp2_with fail
  refine (toIntS_any (HA0.out.below B.out) hx0).mono ?_
  rintro e w1 ⟨vT0, rfl, o, b⟩
  replace B := Lib.hid (bstep B.out b)
  have T0 := Lib.hid o
  clear o b
  go_wp2_with fail
  have hc := specOrderOf_any (w := w1) T0.out.reads 
  simp only [HR.out] at hc
  refine hc.mono ?_
  clear hc
  rintro e w2 ⟨rfl, b⟩
  replace B := Lib.hid (bstep B.out b)
  clear b T0
  have hb0 := B.out.size
  go_wp2_with fail
  refine (toIntS_any (HA0.out.below B.out) hx0).mono ?_
  rintro e w3 ⟨vX0, rfl, o, b⟩
  replace B := Lib.hid (bstep B.out b)
  have X0 := Lib.hid o
  have z3 := b.size
  clear o b
  go_wp2_with fail
  have hc := implOrderOf_any (w := w3) X0.out.reads 
  simp only [HR.out] at hc
  refine hc.mono ?_
  clear hc
  rintro e w4 ⟨rfl, b⟩
  replace B := Lib.hid (bstep B.out b)
  replace X0 := Lib.hid (OI.step X0.out b)
  clear b
  go_wp2_with fail
  refine (toIntS_any (HA0.out.below B.out) hx0).mono ?_
  rintro e w5 ⟨vC0, rfl, o, b⟩
  replace B := Lib.hid (bstep B.out b)
  replace X0 := Lib.hid (OI.step X0.out b)
  have C0 := Lib.hid o
  clear o b
  go_wp2_with fail
  refine (eqIntS_same X0.out.reads C0.out.reads).mono ?_
  rintro e w6 ⟨rfl, b⟩
  replace B := Lib.hid (bstep B.out b)
  replace X0 := Lib.hid (OI.step X0.out b)
  clear b C0
  go_wp2_with fail
  go_ret
  exact ⟨rfl, B.out⟩

/-! The row's step. -/
set_option maxRecDepth 100000 in
theorem lifted (os : Os) (started : os.Started) (H : Type) (enc : TypeId × Value → H) :
    ReturnsInHanded {} Try.checked os 7 .any (Rows.fnExactOrderOfSpec.pre6 enc Try.prog Try.f7 Rows.fnExactOrderOfRow.domain false) (Rows.fnExactOrderOfSpec.post enc Try.prog Try.f7 false true false false) := by
  refine returnsInHanded_of_change (C := Try.checked) own started (by kernel_rfl) Try.func7
    (ChangeSpec.witness6 (enc := enc) (C := Try.checked) false ⟨#[], #[.slice none 0 0], []⟩ 8 (by kernel_rfl) (by kernel_rfl) (by kernel_rfl) (by kernel_rfl)) ?_
  intro W base args ds gs before hval0 hW hcnd _
  have hval : ∀ (j : Nat) t v, Try.f7.params[j]? = some t → args[j]? = some v → Value.okWide Try.prog W .any base t v := hval0
  have hW' := hW
  obtain ⟨p, q, hA0, hV, rfl, hfz, hnd⟩ := hW
  have hA : DataW.TrodAll enc Try.prog W 0 (fun _ => true) true Try.f7.params.toList args.toList ds p := hA0
  rw [Try.params7] at hA hval
  obtain ⟨v0, vs0, d0, ds0, p0, q0, hargs, rfl, rfl, h0, r0⟩ := trodAll_cons hA
  obtain ⟨rfl, rfl, rfl⟩ := trodAll_nil r0
  obtain rfl : args = #[v0] := by cases args; simp_all
  obtain ⟨rfl, rfl⟩ := trodVars_none hV
  obtain ⟨a0, len0, cap0, rfl⟩ := okWide_slice Try.underlying22 (hval 0 22 v0 rfl rfl)
  have k0 := h0
  have lt0 : ∀ x ∈ p0, x.block < W.heap.size := by obtain ⟨m, hm⟩ := k0; exact DataW.trod_lt m _ _ _ hm
  obtain ⟨z0, w0, f0, l0⟩ := open_RI h0
  clear hA0 hval0
  refine (walk W w0 f0).mono fun e W' ⟨he, bel⟩ => ?_
  subst he
  exact ⟨_, rfl, _, _, _, [], _, [], hW', trodAll_mk1 (shut_bool Try.underlying4 _), (trodAll_cons_mk (Below.trod laidOut (by kernel_rfl) (of_decide_eq_true (by kernel_rfl)) k0 bel lt0) trodAll_mk0), rfl, bel.frame _, fun h => by cases h⟩

/-- The statement. -/
theorem proved : Rows.FnExactOrderOfSaid :=
  OpenClaim.holds_of_wide 7 Try.f7 rfl rfl rfl rfl rfl rfl rfl ⟨rfl, rfl, rfl, rfl, rfl⟩ rfl rfl rfl rfl rfl (by kernel_rfl) Try.func7 (by kernel_rfl)
    (of_decide_eq_true (by kernel_rfl)) (by unfold Func.isWrapper; first | (rw [if_pos (by decide +kernel)]; kernel_rfl) | (rw [if_neg (by decide +kernel)]; exact ⟨rfl, rfl⟩))
    (fun os started H enc _ => lifted os started H enc)
#print axioms proved
end Go.Proofs.Ytmgighhdkgcigaa.lOrderOf
