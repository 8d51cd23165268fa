/-
  The law FnExactJoin returns true for every input: program and reference return the same, the arguments stay as they were, and the result lies in memory of its own.
-/
import Derived.Test.YtkibbomfpklghaaRow
import Derived.Test.YtkibbomfpklghaaEqS
namespace Go.Proofs.Ytkibbomfpklghaa.lJoin
open Go.ChangeShapes Go.WideShapes Go.ChangeAt Go.RowKit
open Go.ChangeMaps (open_string shut_string)

set_option maxHeartbeats 4000000 in
set_option maxRecDepth 100000 in
theorem walk (w : World) {a0 : Value} {x0 : List ByteArray} (ha0 : RSS w a0 x0) (_f0 : ∀ x ∈ x0, x.size ≤ maxLen) (x1 : ByteArray) (hs1 : x1.size ≤ maxLen) : Calls Try.prog 4 #[a0, .string x1] w fun e w' => e = .returned (.bool true) ∧ Below w.heap.size w w' := by
  obtain ⟨A0, c0, hv0⟩ := RSS.shape ha0
  subst hv0
  have hm0 := ha0.lenle
  have HA0 := Lib.hid ha0
  clear ha0
  have hm1 := hs1
  unfold maxLen at hm1
  have B := Lib.hid (Below.refl w.heap.size w)
  by_cases g1 : (1048576 : Int) < x1.size
  · go_enter Try.func4, Try.ntmps4
    go_wp2
    go_ret
    exact ⟨rfl, B.out⟩
  have hx1 : x1.size ≤ 1048576 := by omega
  clear g1
  obtain ⟨r, hr⟩ : ∃ r, joinB x0 x1 = r := ⟨_, rfl⟩
  have HR := Lib.hid hr
  clear hr
  go_enter Try.func4, Try.ntmps4
  go_wp2_with fail
  refine (szStringS_any (HA0.out.below B.out) _f0).mono ?_
  rintro e w1 ⟨rz0, rfl, hsz, b⟩
  replace B := Lib.hid (bstep B.out b)
  clear b
  rcases hsz with ⟨hz0, hx0⟩ | rfl
  rotate_left
  · go_wp2_with fail
    go_ret
    exact ⟨rfl, B.out⟩
  have HX0 := Lib.hid hx0
  clear hx0
  go_wp2_with fail
  refine (toStringS_any (HA0.out.below B.out) ⟨HX0.out.1, HX0.out.2.1⟩).mono ?_
  rintro e w2 ⟨vT0, rfl, o, b⟩
  replace B := Lib.hid (bstep B.out b)
  have T0 := Lib.hid o
  clear o b
  go_wp2_with fail
  have hc := specJoin_arg (w := w2) T0.out.reads x1 HX0.out.1 (by have h1 := HX0.out.2.2; have h2 := Nat.mul_le_mul hx1 HX0.out.1; omega)
  simp only [HR.out] at hc
  refine hc.mono ?_
  clear hc
  rintro e w3 ⟨rfl, b⟩
  replace B := Lib.hid (bstep B.out b)
  clear b T0
  have hb0 := B.out.size
  go_wp2_with fail
  refine (toStringS_any (HA0.out.below B.out) ⟨HX0.out.1, HX0.out.2.1⟩).mono ?_
  rintro e w4 ⟨vX0, rfl, o, b⟩
  replace B := Lib.hid (bstep B.out b)
  have X0 := Lib.hid o
  have z4 := b.size
  clear o b
  go_wp2_with fail
  have hc := implJoin_arg (w := w4) X0.out.reads x1 HX0.out.1 (by have h1 := HX0.out.2.2; have h2 := Nat.mul_le_mul hx1 HX0.out.1; omega)
  simp only [HR.out] at hc
  refine hc.mono ?_
  clear hc
  rintro e w5 ⟨rfl, b⟩
  replace B := Lib.hid (bstep B.out b)
  replace X0 := Lib.hid (OSS.step X0.out b)
  clear b
  go_wp2_with fail
  refine (toStringS_any (HA0.out.below B.out) ⟨HX0.out.1, HX0.out.2.1⟩).mono ?_
  rintro e w6 ⟨vC0, rfl, o, b⟩
  replace B := Lib.hid (bstep B.out b)
  replace X0 := Lib.hid (OSS.step X0.out b)
  have C0 := Lib.hid o
  clear o b
  go_wp2_with fail
  refine (eqStringS_same X0.out.reads C0.out.reads).mono ?_
  rintro e w7 ⟨rfl, b⟩
  replace B := Lib.hid (bstep B.out b)
  replace X0 := Lib.hid (OSS.step X0.out b)
  clear b C0
  go_wp2_with fail
  go_ret
  exact ⟨rfl, B.out⟩

/-! The row's step. -/
set_option maxRecDepth 100000 in
theorem lifted (os : Os) (started : os.Started) (H : Type) (enc : TypeId × Value → H) :
    ReturnsInHanded {} Try.checked os 4 .any (Rows.fnExactJoinSpec.pre6 enc Try.prog Try.f4 Rows.fnExactJoinRow.domain false) (Rows.fnExactJoinSpec.post enc Try.prog Try.f4 false true false false) := by
  refine returnsInHanded_of_change (C := Try.checked) own started (by kernel_rfl) Try.func4
    (ChangeSpec.witness6 (enc := enc) (C := Try.checked) false ⟨#[], #[.slice none 0 0, .string ⟨#[]⟩], []⟩ 8 (by kernel_rfl) (by kernel_rfl) (by kernel_rfl) (by kernel_rfl)) ?_
  intro W base args ds gs before hval0 hW hcnd _
  have hval : ∀ (j : Nat) t v, Try.f4.params[j]? = some t → args[j]? = some v → Value.okWide Try.prog W .any base t v := hval0
  have hW' := hW
  obtain ⟨p, q, hA0, hV, rfl, hfz, hnd⟩ := hW
  have hA : DataW.TrodAll enc Try.prog W 0 (fun _ => true) true Try.f4.params.toList args.toList ds p := hA0
  rw [Try.params4] at hA hval
  obtain ⟨v0, vs0, d0, ds0, p0, q0, hargs, rfl, rfl, h0, r0⟩ := trodAll_cons hA
  obtain ⟨v1, vs1, d1, ds1, p1, q1, rfl, rfl, rfl, h1, r1⟩ := trodAll_cons r0
  obtain ⟨rfl, rfl, rfl⟩ := trodAll_nil r1
  obtain rfl : args = #[v0, v1] := by cases args; simp_all
  obtain ⟨rfl, rfl⟩ := trodVars_none hV
  obtain ⟨a0, len0, cap0, rfl⟩ := okWide_slice Try.underlying25 (hval 0 25 v0 rfl rfl)
  have k0 := h0
  have lt0 : ∀ x ∈ p0, x.block < W.heap.size := by obtain ⟨m, hm⟩ := k0; exact DataW.trod_lt m _ _ _ hm
  obtain ⟨z0, w0, f0, l0⟩ := open_RSS h0
  obtain ⟨s1, rfl, rfl, rfl, w1⟩ := open_string Try.underlying9 (hval 1 9 v1 rfl rfl) h1
  clear hA0 hval0
  refine (walk W w0 f0 s1 w1).mono fun e W' ⟨he, bel⟩ => ?_
  subst he
  exact ⟨_, rfl, _, _, _, [], _, [], hW', trodAll_mk1 (shut_bool Try.underlying4 _), (trodAll_cons_mk (Below.trod laidOut (by kernel_rfl) (of_decide_eq_true (by kernel_rfl)) k0 bel lt0) (trodAll_cons_mk (shut_string Try.underlying9 w1) trodAll_mk0)), rfl, bel.frame _, fun h => by cases h⟩

/-- The statement. -/
theorem proved : Rows.FnExactJoinSaid :=
  OpenClaim.holds_of_wide 4 Try.f4 rfl rfl rfl rfl rfl rfl rfl ⟨rfl, rfl, rfl, rfl, rfl⟩ rfl rfl rfl rfl rfl (by kernel_rfl) Try.func4 (by kernel_rfl)
    (of_decide_eq_true (by kernel_rfl)) (by unfold Func.isWrapper; first | (rw [if_pos (by decide +kernel)]; kernel_rfl) | (rw [if_neg (by decide +kernel)]; exact ⟨rfl, rfl⟩))
    (fun os started H enc _ => lifted os started H enc)
#print axioms proved
end Go.Proofs.Ytkibbomfpklghaa.lJoin
