/-
  The law FnExactParseInt returns true for every input: program and reference return the same, the arguments stay as they were, and the result lies in memory of its own.
-/
import Derived.Test.YtkibbomfpklghaaRow
import Derived.Test.YtkibbomfpklghaaParse
import Derived.Test.YtkibbomfpklghaaParseS
namespace Go.Proofs.Ytkibbomfpklghaa.lParseInt
open Go.ChangeShapes Go.WideShapes Go.ChangeAt Go.RowKit
open Go.ChangeMaps (open_string shut_string)

set_option maxHeartbeats 4000000 in
set_option maxRecDepth 100000 in
theorem walk (w : World) (x0 : ByteArray) (hs0 : x0.size ≤ maxLen) : Calls Try.prog 3 #[.string x0] w fun e w' => e = .returned (.bool true) ∧ Below w.heap.size w w' := by
  have hm0 := hs0
  unfold maxLen at hm0
  have B := Lib.hid (Below.refl w.heap.size w)
  by_cases g0 : (1048576 : Int) < x0.size
  · go_enter Try.func3, Try.ntmps3
    go_wp2
    go_ret
    exact ⟨rfl, B.out⟩
  have hx0 : x0.size ≤ 1048576 := by omega
  clear g0
  obtain ⟨r, bb, hr⟩ : ∃ r bb, parseInt x0 = (r, bb) := ⟨_, _, rfl⟩
  have hbb : (bb != bb) = false := by simp
  have HR := Lib.hid hr
  have hbr : (r != r) = false := by simp
  clear hr
  go_enter Try.func3, Try.ntmps3
  go_wp2_with fail
  have hc := specParseInt_any (w := w) x0 hs0
  simp only [HR.out] at hc
  refine hc.mono ?_
  clear hc
  rintro e w1 ⟨rfl, b⟩
  replace B := Lib.hid (bstep B.out b)
  clear b
  go_wp2_with fail
  have hc := implParseInt_any (w := w1) x0 hs0
  simp only [HR.out] at hc
  refine hc.mono ?_
  clear hc
  rintro e w2 ⟨rfl, b⟩
  replace B := Lib.hid (bstep B.out b)
  clear b
  go_wp2_with fail
  go_ret
  exact ⟨rfl, B.out⟩

/-! The row's step. -/
set_option maxRecDepth 100000 in
theorem lifted (os : Os) (started : os.Started) (H : Type) (enc : TypeId × Value → H) :
    ReturnsInHanded {} Try.checked os 3 .any (Rows.fnExactParseIntSpec.pre6 enc Try.prog Try.f3 Rows.fnExactParseIntRow.domain false) (Rows.fnExactParseIntSpec.post enc Try.prog Try.f3 false true false false) := by
  refine returnsInHanded_of_change (C := Try.checked) own started (by kernel_rfl) Try.func3
    (ChangeSpec.witness6 (enc := enc) (C := Try.checked) false ⟨#[], #[.string ⟨#[]⟩], []⟩ 8 (by kernel_rfl) (by kernel_rfl) (by kernel_rfl) (by kernel_rfl)) ?_
  intro W base args ds gs before hval0 hW hcnd _
  have hval : ∀ (j : Nat) t v, Try.f3.params[j]? = some t → args[j]? = some v → Value.okWide Try.prog W .any base t v := hval0
  have hW' := hW
  obtain ⟨p, q, hA0, hV, rfl, hfz, hnd⟩ := hW
  have hA : DataW.TrodAll enc Try.prog W 0 (fun _ => true) true Try.f3.params.toList args.toList ds p := hA0
  rw [Try.params3] at hA hval
  obtain ⟨v0, vs0, d0, ds0, p0, q0, hargs, rfl, rfl, h0, r0⟩ := trodAll_cons hA
  obtain ⟨rfl, rfl, rfl⟩ := trodAll_nil r0
  obtain rfl : args = #[v0] := by cases args; simp_all
  obtain ⟨rfl, rfl⟩ := trodVars_none hV
  obtain ⟨s0, rfl, rfl, rfl, w0⟩ := open_string Try.underlying9 (hval 0 9 v0 rfl rfl) h0
  clear hA0 hval0
  refine (walk W s0 w0).mono fun e W' ⟨he, bel⟩ => ?_
  subst he
  exact ⟨_, rfl, _, _, _, [], _, [], hW', trodAll_mk1 (shut_bool Try.underlying4 _), (trodAll_cons_mk (shut_string Try.underlying9 w0) trodAll_mk0), rfl, bel.frame _, fun h => by cases h⟩

/-- The statement. -/
theorem proved : Rows.FnExactParseIntSaid :=
  OpenClaim.holds_of_wide 3 Try.f3 rfl rfl rfl rfl rfl rfl rfl ⟨rfl, rfl, rfl, rfl, rfl⟩ rfl rfl rfl rfl rfl (by kernel_rfl) Try.func3 (by kernel_rfl)
    (of_decide_eq_true (by kernel_rfl)) (by unfold Func.isWrapper; first | (rw [if_pos (by decide +kernel)]; kernel_rfl) | (rw [if_neg (by decide +kernel)]; exact ⟨rfl, rfl⟩))
    (fun os started H enc _ => lifted os started H enc)
#print axioms proved
end Go.Proofs.Ytkibbomfpklghaa.lParseInt
