/-
  The law FnExactSplitLines returns true for every input: program and reference return the same, the arguments stay as they were, and the result lies in memory of its own.
-/
import Derived.Test.YtodlkjfpahggmaaRow
import Derived.Test.YtodlkjfpahggmaaSplitL
import Derived.Test.YtodlkjfpahggmaaMarkS
namespace Go.Proofs.Ytodlkjfpahggmaa.lSplitLines
open Go.ChangeShapes Go.WideShapes Go.ChangeAt Go.RowKit
open Go.ChangeMaps (open_string shut_string)

set_option maxHeartbeats 4000000 in
set_option maxRecDepth 100000 in
theorem walk (w : World) (x0 : ByteArray) (hs0 : x0.size ≤ maxLen) : Calls Try.prog 11 #[.string x0] w fun e w' => e = .returned (.bool true) ∧ Below w.heap.size w w' := by
  have hm0 := hs0
  unfold maxLen at hm0
  have B := Lib.hid (Below.refl w.heap.size w)
  by_cases g0 : (1048576 : Int) < x0.size
  · go_enter Try.func11, Try.ntmps11
    go_wp2
    go_ret
    exact ⟨rfl, B.out⟩
  have hx0 : x0.size ≤ 1048576 := by omega
  clear g0
  obtain ⟨r, hr⟩ : ∃ r, splitLines x0 = r := ⟨_, rfl⟩
  have HR := Lib.hid hr
  have hrl : r.length ≤ 4194304 := by have h := splitLines_len x0; rw [HR.out] at h; omega
  have hqm : ((1 + (r.length : Int)) != (1 + (r.length : Int))) = false := by simp
  clear hr
  go_enter Try.func11, Try.ntmps11
  go_wp2_with fail
  have hc := specSplitLines_any (w := w) x0 hx0
  simp only [HR.out] at hc
  refine hc.mono ?_
  clear hc
  rintro e w1 ⟨vW, rfl, o, b⟩
  have W := Lib.hid (o.reads)
  replace B := Lib.hid (bstep B.out b)
  clear b o
  have S := Lib.hid (Below.refl w1.heap.size w1)
  go_wp2_with fail
  have hc := implSplitLines_any (w := w1) x0 hx0
  simp only [HR.out] at hc
  refine hc.mono ?_
  clear hc
  rintro e w2 ⟨vG, rfl, o, b⟩
  have hbG := B.out.size
  have hsG := S.out.size
  replace B := Lib.hid (bstep B.out b)
  replace S := Lib.hid (bstep S.out b)
  have G := Lib.hid o
  clear o b
  go_wp2_with fail
  refine (eqStringS_same G.out.reads (W.out.below S.out)).mono ?_
  rintro e w3 ⟨rfl, b⟩
  replace B := Lib.hid (bstep B.out b)
  replace S := Lib.hid (bstep S.out b)
  replace G := Lib.hid (OSS.step G.out b)
  clear b
  go_wp2_with fail
  refine (markStringS_step 1 G.out G.out.bound (by omega) (by omega) (by omega)).mono ?_
  rintro e w4 ⟨rfl, o, t⟩
  replace B := Lib.hid (B.out.trans (t.below hbG))
  replace S := Lib.hid (S.out.trans (t.below hsG))
  replace G := Lib.hid o
  clear o t
  go_wp2_with fail
  refine (heldStringS_step 1 G.out.reads (by omega) (by omega) (by omega)).mono ?_
  rintro e w5 ⟨rfl, b⟩
  replace B := Lib.hid (bstep B.out b)
  replace S := Lib.hid (bstep S.out b)
  replace G := Lib.hid (OSS.step G.out b)
  clear b
  go_wp2_with fail
  have hc := implSplitLines_any (w := w5) x0 hx0
  simp only [HR.out] at hc
  refine hc.mono ?_
  clear hc
  rintro e w6 ⟨vH, rfl, o, b⟩
  replace B := Lib.hid (bstep B.out b)
  replace S := Lib.hid (bstep S.out b)
  replace G := Lib.hid (OSS.step G.out b)
  have Hh := Lib.hid o
  clear o b
  go_wp2_with fail
  refine (eqStringS_same Hh.out.reads (W.out.below S.out)).mono ?_
  rintro e w7 ⟨rfl, b⟩
  replace B := Lib.hid (bstep B.out b)
  replace S := Lib.hid (bstep S.out b)
  replace G := Lib.hid (OSS.step G.out b)
  replace Hh := Lib.hid (OSS.step Hh.out b)
  clear b
  clear Hh
  go_wp2_with fail
  refine (heldStringS_step 1 G.out.reads (by omega) (by omega) (by omega)).mono ?_
  rintro e w8 ⟨rfl, b⟩
  replace B := Lib.hid (bstep B.out b)
  replace S := Lib.hid (bstep S.out b)
  replace G := Lib.hid (OSS.step G.out b)
  clear b
  go_wp2_with fail
  go_ret
  exact ⟨rfl, B.out⟩

/-! The row's step. -/
set_option maxRecDepth 100000 in
theorem lifted (os : Os) (started : os.Started) (H : Type) (enc : TypeId × Value → H) :
    ReturnsInHanded {} Try.checked os 11 .any (Rows.fnExactSplitLinesSpec.pre6 enc Try.prog Try.f11 Rows.fnExactSplitLinesRow.domain false) (Rows.fnExactSplitLinesSpec.post enc Try.prog Try.f11 false true false false) := by
  refine returnsInHanded_of_change (C := Try.checked) own started (by kernel_rfl) Try.func11
    (ChangeSpec.witness6 (enc := enc) (C := Try.checked) false ⟨#[], #[.string ⟨#[]⟩], []⟩ 8 (by kernel_rfl) (by kernel_rfl) (by kernel_rfl) (by kernel_rfl)) ?_
  intro W base args ds gs before hval0 hW hcnd _
  have hval : ∀ (j : Nat) t v, Try.f11.params[j]? = some t → args[j]? = some v → Value.okWide Try.prog W .any base t v := hval0
  have hW' := hW
  obtain ⟨p, q, hA0, hV, rfl, hfz, hnd⟩ := hW
  have hA : DataW.TrodAll enc Try.prog W 0 (fun _ => true) true Try.f11.params.toList args.toList ds p := hA0
  rw [Try.params11] at hA hval
  obtain ⟨v0, vs0, d0, ds0, p0, q0, hargs, rfl, rfl, h0, r0⟩ := trodAll_cons hA
  obtain ⟨rfl, rfl, rfl⟩ := trodAll_nil r0
  obtain rfl : args = #[v0] := by cases args; simp_all
  obtain ⟨rfl, rfl⟩ := trodVars_none hV
  obtain ⟨s0, rfl, rfl, rfl, w0⟩ := open_string Try.underlying9 (hval 0 9 v0 rfl rfl) h0
  clear hA0 hval0
  refine (walk W s0 w0).mono fun e W' ⟨he, bel⟩ => ?_
  subst he
  exact ⟨_, rfl, _, _, _, [], _, [], hW', trodAll_mk1 (shut_bool Try.underlying4 _), (trodAll_cons_mk (shut_string Try.underlying9 w0) trodAll_mk0), rfl, bel.frame _, fun h => by cases h⟩

/-- The statement. -/
theorem proved : Rows.FnExactSplitLinesSaid :=
  OpenClaim.holds_of_wide 11 Try.f11 rfl rfl rfl rfl rfl rfl rfl ⟨rfl, rfl, rfl, rfl, rfl⟩ rfl rfl rfl rfl rfl (by kernel_rfl) Try.func11 (by kernel_rfl)
    (of_decide_eq_true (by kernel_rfl)) (by unfold Func.isWrapper; first | (rw [if_pos (by decide +kernel)]; kernel_rfl) | (rw [if_neg (by decide +kernel)]; exact ⟨rfl, rfl⟩))
    (fun os started H enc _ => lifted os started H enc)
#print axioms proved
end Go.Proofs.Ytodlkjfpahggmaa.lSplitLines
