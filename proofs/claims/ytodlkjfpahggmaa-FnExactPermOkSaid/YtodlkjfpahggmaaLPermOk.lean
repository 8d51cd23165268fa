/-
  The law FnExactPermOk returns true for every slice of integers: program and reference both report the one Lean function, and the program leaves its argument as it was.
-/
import Derived.Test.YtodlkjfpahggmaaRow
import Derived.Test.YtodlkjfpahggmaaPermOk
import Derived.Test.YtodlkjfpahggmaaEq
namespace Go.Proofs.Ytodlkjfpahggmaa.lPermOk
open Go.ChangeShapes Go.WideShapes Go.ChangeAt Go.RowKit
open Go.ChangeMaps (open_string shut_string)

set_option maxHeartbeats 800000 in
theorem walk (w : World) {a : Value} {xs : List Int} (ha : RI w a xs) (_hf : Fit xs) : Calls Try.prog 8 #[a] w fun e w' => e = .returned (.bool true) ∧ Below w.heap.size w w' := by
  have hm := ha.lenle
  obtain ⟨A, c, hv⟩ : ∃ A c, a = .slice A xs.length c := by obtain ⟨A, c, h, _⟩ := ha; exact ⟨A, c, h⟩
  subst hv
  by_cases h1 : (1048576 : Int) < xs.length
  · clear ha
    go_enter Try.func8, Try.ntmps8
    go_wp2
    go_ret
    exact ⟨rfl, Below.refl _ _⟩
  · have hx : xs.length ≤ 1048576 := by omega
    have B0 := Below.refl w.heap.size w
    have HA := Lib.hid ha
    clear ha
    go_enter Try.func8, Try.ntmps8
    go_wp2_with fail
    refine (toIntS_any HA.out hx).mono ?_
    rintro e w1 ⟨v1, rfl, o1, b1⟩
    have B1 := bstep B0 b1
    have O1 := Lib.hid o1; clear o1 b1 B0
    go_wp2_with fail
    refine (specPermOk_any O1.out.reads).mono ?_
    rintro e w2 ⟨rfl, b2⟩
    have B2 := bstep B1 b2
    clear b2 B1
    go_wp2_with fail
    refine (toIntS_any (HA.out.below B2) hx).mono ?_
    rintro e w3 ⟨v3, rfl, o3, b3⟩
    have B3 := bstep B2 b3
    have O3 := Lib.hid o3; clear o3 b3
    go_wp2_with fail
    refine (implPermOk_any O3.out.reads).mono ?_
    rintro e w4 ⟨rfl, b4⟩
    have B4 := bstep B3 b4
    have K4 := Lib.hid b4; clear b4 B3
    go_wp2_with fail
    refine (toIntS_any (HA.out.below B4) hx).mono ?_
    rintro e w5 ⟨v5, rfl, o5, b5⟩
    have B5 := bstep B4 b5
    have r3 := O3.out.reads.below K4.out
    have r4 := r3.below b5
    have R := Lib.hid (And.intro r4 o5.reads); clear o5 b5 r3 r4
    go_wp2_with fail
    refine (eqIntS_any R.out.1 R.out.2).mono ?_
    rintro e w6 ⟨rfl, n6, rfl⟩
    go_wp2_with fail
    go_ret
    exact ⟨rfl, bstepN B5 n6⟩

/-! The row's step. -/
set_option maxRecDepth 100000 in
theorem lifted (os : Os) (started : os.Started) (H : Type) (enc : TypeId × Value → H) :
    ReturnsInHanded {} Try.checked os 8 .any (Rows.fnExactPermOkSpec.pre6 enc Try.prog Try.f8 Rows.fnExactPermOkRow.domain false) (Rows.fnExactPermOkSpec.post enc Try.prog Try.f8 false true false false) := by
  refine returnsInHanded_of_change (C := Try.checked) own started (by kernel_rfl) Try.func8
    (ChangeSpec.witness6 (enc := enc) (C := Try.checked) false ⟨#[], #[.slice none 0 0], []⟩ 8 (by kernel_rfl) (by kernel_rfl) (by kernel_rfl) (by kernel_rfl)) ?_
  intro W base args ds gs before hval0 hW hcnd _
  have hval : ∀ (j : Nat) t v, Try.f8.params[j]? = some t → args[j]? = some v → Value.okWide Try.prog W .any base t v := hval0
  have hW' := hW
  obtain ⟨p, q, hA0, hV, rfl, hfz, hnd⟩ := hW
  have hA : DataW.TrodAll enc Try.prog W 0 (fun _ => true) true Try.f8.params.toList args.toList ds p := hA0
  rw [Try.params8] at hA hval
  obtain ⟨v0, vs0, d0, ds0, p0, q0, hargs, rfl, rfl, h0, r0⟩ := trodAll_cons hA
  obtain ⟨rfl, rfl, rfl⟩ := trodAll_nil r0
  obtain rfl : args = #[v0] := by cases args; simp_all
  obtain ⟨rfl, rfl⟩ := trodVars_none hV
  obtain ⟨a0, len0, cap0, rfl⟩ := okWide_slice Try.underlying26 (hval 0 26 v0 rfl rfl)
  have k0 := h0
  have lt0 : ∀ x ∈ p0, x.block < W.heap.size := by obtain ⟨m, hm⟩ := k0; exact DataW.trod_lt m _ _ _ hm
  obtain ⟨z0, w0, f0, l0⟩ := open_RI h0
  clear hA0 hval0
  refine (walk W w0 f0).mono fun e W' ⟨he, bel⟩ => ?_
  subst he
  exact ⟨_, rfl, _, _, _, [], _, [], hW', trodAll_mk1 (shut_bool Try.underlying4 _), (trodAll_cons_mk (Below.trod laidOut (by kernel_rfl) (of_decide_eq_true (by kernel_rfl)) k0 bel lt0) trodAll_mk0), rfl, bel.frame _, fun h => by cases h⟩

/-- The statement. -/
theorem proved : Rows.FnExactPermOkSaid :=
  OpenClaim.holds_of_wide 8 Try.f8 rfl rfl rfl rfl rfl rfl rfl ⟨rfl, rfl, rfl, rfl, rfl⟩ rfl rfl rfl rfl rfl (by kernel_rfl) Try.func8 (by kernel_rfl)
    (of_decide_eq_true (by kernel_rfl)) (by unfold Func.isWrapper; first | (rw [if_pos (by decide +kernel)]; kernel_rfl) | (rw [if_neg (by decide +kernel)]; exact ⟨rfl, rfl⟩))
    (fun os started H enc _ => lifted os started H enc)
#print axioms proved
end Go.Proofs.Ytodlkjfpahggmaa.lPermOk
