/-
  The law FnWords returns true for every input.
-/
import Derived.Test.YtkibbomfpklghaaRowB
import Derived.Test.YtkibbomfpklghaaDrawS
import Derived.Test.YtkibbomfpklghaaParse
import Derived.Test.YtkibbomfpklghaaSplitL
import Derived.Test.YtkibbomfpklghaaParseP
import Derived.Test.YtkibbomfpklghaaJoin
import Derived.Test.YtkibbomfpklghaaDigits
namespace Go.Proofs.Ytkibbomfpklghaa.lFnWords
open Go.ChangeShapes Go.WideShapes Go.ChangeAt Go.RowKit
open Go.ChangeMaps (open_string shut_string)

theorem extract_le (s : ByteArray) (a b : Nat) : (s.extract a b).size ≤ s.size := by
  rw [ByteArray.size_extract]; omega
theorem part_le (s sep : ByteArray) : ∀ k, ∀ x ∈ (splitTo s sep k).1, x.size ≤ s.size := by
  intro k
  induction k with
  | zero => intro x hx; simp [splitTo] at hx
  | succ k ih =>
    intro x hx
    cases h : cutAt s sep k with
    | true =>
      rw [splitTo_yes h] at hx
      rcases List.mem_append.1 hx with hx | hx
      · exact ih x hx
      · simp only [List.mem_singleton] at hx; subst hx; exact extract_le _ _ _
    | false => rw [splitTo_no h] at hx; exact ih x hx
theorem totB_le {l : List ByteArray} {m : Nat} (h : ∀ x ∈ l, x.size ≤ m) : totB l ≤ l.length * m := by
  induction l with
  | nil => simp [totB]
  | cons x l ih =>
    have h1 := ih fun y hy => h y (by simp [hy])
    have h2 := h x (by simp)
    simp only [totB, List.map_cons, List.sum_cons, List.length_cons] at h1 ⊢
    rw [Nat.add_mul, Nat.one_mul]
    omega
theorem totB_split {s sep : ByteArray} (hs : s.size ≤ 16) : totB (splitAny s sep) ≤ 17 * 16 := by
  have h : ∀ x ∈ splitAny s sep, x.size ≤ 16 := by
    intro x hx
    unfold splitAny at hx
    rcases List.mem_append.1 hx with hx | hx
    · exact Nat.le_trans (part_le s sep _ x hx) hs
    · simp only [List.mem_singleton] at hx; subst hx; exact Nat.le_trans (extract_le _ _ _) hs
  have h1 := totB_le h
  have h2 := splitAny_len s sep
  have h3 : (splitAny s sep).length * 16 ≤ 17 * 16 := Nat.mul_le_mul_right _ (by omega)
  omega
theorem beq_self (s : ByteArray) : (s.toList == s.toList) = true := by simp

set_option maxHeartbeats 8000000 in
set_option maxRecDepth 100000 in
theorem walk (w : World) {a0 : Value} {n0 : Nat} (ha0 : RBy w w.heap.size a0 n0) : Calls Try.prog 9 #[a0] w fun e w' => e = .returned (.bool true) ∧ Below w.heap.size w w' := by
  have HA := Lib.hid ha0
  obtain ⟨A0, c0, rfl, hn0, -⟩ := ha0
  have hm0 : n0 ≤ 9223372036854775807 := by unfold maxLen at hn0; omega
  have B := Lib.hid (Below.refl w.heap.size w)
  by_cases g0 : (1048576 : Int) < n0
  · go_enter Try.func9, Try.ntmps9
    go_wp2
    go_ret
    exact ⟨rfl, B.out⟩
  go_enter Try.func9, Try.ntmps9
  go_wp2_with fail
  refine (MakeNum_any (HA.out.step B.out) 1 (by omega)).mono ?_
  rintro e w1 ⟨m', rfl, m0, m1, b⟩
  replace B := Lib.hid (bstep B.out b)
  clear b
  obtain ⟨m, rfl⟩ := Int.eq_ofNat_of_zero_le m0
  obtain ⟨n, hn⟩ : ∃ n : Int, (m : Int) - 30000 = n := ⟨_, rfl⟩
  have hnr : -9223372036854775808 ≤ n ∧ n ≤ 9223372036854775807 := by omega
  have RP : Hid (parseInt (fmt n) = (n, true)) := parseInt_fmt hnr
  have hf : (fmt n).size ≤ maxLen := by have := fmt_size hnr; unfold maxLen; omega
  have HM := Lib.hid (And.intro m0 m1)
  clear m0 m1
  go_wp2_with fail
  refine (implFormatInt_any n hnr).mono ?_
  rintro e w' ⟨rfl, rfl⟩
  go_wp2_with fail
  have hc := implParseInt_any (w := w1) (fmt n) hf
  simp only [RP.out] at hc
  refine hc.mono ?_
  clear hc
  rintro e w2 ⟨rfl, b⟩
  replace B := Lib.hid (bstep B.out b)
  clear b
  go_wp2_with fail
  refine (MakeText_any (HA.out.step B.out)).mono ?_
  rintro e w3 ⟨s, rfl, hs, b⟩
  replace B := Lib.hid (bstep B.out b)
  clear b
  have hnn : (n == n) = true := by simp
  have hss := beq_self s
  have hsm : s.size ≤ 1048576 := by omega
  have RJ : Hid (joinB (splitAny s ⟨#[32]⟩) ⟨#[32]⟩ = s) := join_split (c := 32) rfl
  have HT := Lib.hid (totB_split (sep := ⟨#[32]⟩) hs)
  have HSL := Lib.hid (splitAny_len s ⟨#[32]⟩)
  go_wp2_with fail
  have hc := implSplitAny_any (w := w3) s ⟨#[32]⟩ hsm
  refine hc.mono ?_
  clear hc
  rintro e w4 ⟨vQ, rfl, o, b⟩
  replace B := Lib.hid (bstep B.out b)
  have OQ := Lib.hid o
  clear o b
  go_wp2_with fail
  have hc := implJoin_any (w := w4) ⟨#[32]⟩ OQ.out.reads (by have := HSL.out; omega) (by have h1 := HSL.out; have h2 := HT.out; show 1 * _ + _ ≤ _; omega)
  simp only [RJ.out] at hc
  refine hc.mono ?_
  clear hc
  rintro e w5 ⟨rfl, b⟩
  replace B := Lib.hid (bstep B.out b)
  clear OQ
  clear b
  have N1 : Hid (isName ⟨#[120, 49]⟩ = true) := by show _ = _; decide
  have N2 : Hid ((splitLines ⟨#[97, 10, 98, 10]⟩).length = 2) := by show _ = _; decide
  go_wp2_with fail
  have hc := implIsName_any ⟨#[120, 49]⟩ w5 (by decide)
  simp only [N1.out] at hc
  refine hc.mono ?_
  clear hc
  rintro e w6 ⟨rfl, rfl⟩
  go_wp2_with fail
  have hc := implSplitLines_any (w := w5) ⟨#[97, 10, 98, 10]⟩ (by decide)
  refine hc.mono ?_
  clear hc
  rintro e w6 ⟨vU, rfl, o, b⟩
  replace B := Lib.hid (bstep B.out b)
  have OU := Lib.hid o
  clear o b
  have ou := OU.out
  obtain ⟨Au, cu, rfl, -⟩ := OSS.form ou
  rw [N2.out]
  clear ou OU
  go_wp2_with fail
  go_ret
  exact ⟨rfl, B.out⟩

/-! The row's step. -/
set_option maxRecDepth 100000 in
theorem lifted (os : Os) (started : os.Started) (H : Type) (enc : TypeId × Value → H) :
    ReturnsInHanded {} Try.checked os 9 .any (Rows.fnWordsSpec.pre6 enc Try.prog Try.f9 Rows.fnWordsRow.domain false) (Rows.fnWordsSpec.post enc Try.prog Try.f9 false true false false) := by
  refine returnsInHanded_of_change (C := Try.checked) own started (by kernel_rfl) Try.func9
    (ChangeSpec.witness6 (enc := enc) (C := Try.checked) false ⟨#[], #[.slice none 0 0], []⟩ 8 (by kernel_rfl) (by kernel_rfl) (by kernel_rfl) (by kernel_rfl)) ?_
  intro W base args ds gs before hval0 hW hcnd _
  have hval : ∀ (j : Nat) t v, Try.f9.params[j]? = some t → args[j]? = some v → Value.okWide Try.prog W .any base t v := hval0
  have hW' := hW
  obtain ⟨p, q, hA0, hV, rfl, hfz, hnd⟩ := hW
  have hA : DataW.TrodAll enc Try.prog W 0 (fun _ => true) true Try.f9.params.toList args.toList ds p := hA0
  rw [Try.params9] at hA hval
  obtain ⟨v0, vs0, d0, ds0, p0, q0, hargs, rfl, rfl, h0, r0⟩ := trodAll_cons hA
  obtain ⟨rfl, rfl, rfl⟩ := trodAll_nil r0
  obtain rfl : args = #[v0] := by cases args; simp_all
  obtain ⟨rfl, rfl⟩ := trodVars_none hV
  obtain ⟨a0, len0, cap0, rfl⟩ := okWide_slice Try.underlying49 (hval 0 49 v0 rfl rfl)
  have k0 := h0
  have lt0 : ∀ x ∈ p0, x.block < W.heap.size := by obtain ⟨m, hm⟩ := k0; exact DataW.trod_lt m _ _ _ hm
  have w0 := open_RBy h0
  clear hA0 hval0
  refine (walk W w0).mono fun e W' ⟨he, bel⟩ => ?_
  subst he
  exact ⟨_, rfl, _, _, _, [], _, [], hW', trodAll_mk1 (shut_bool Try.underlying4 _), (trodAll_cons_mk (Below.trod laidOut (by kernel_rfl) (of_decide_eq_true (by kernel_rfl)) k0 bel lt0) trodAll_mk0), rfl, bel.frame _, fun h => by cases h⟩

/-- The statement. -/
theorem proved : Rows.FnWordsSaid :=
  OpenClaim.holds_of_wide 9 Try.f9 rfl rfl rfl rfl rfl rfl rfl ⟨rfl, rfl, rfl, rfl, rfl⟩ rfl rfl rfl rfl rfl (by kernel_rfl) Try.func9 (by kernel_rfl)
    (of_decide_eq_true (by kernel_rfl)) (by unfold Func.isWrapper; first | (rw [if_pos (by decide +kernel)]; kernel_rfl) | (rw [if_neg (by decide +kernel)]; exact ⟨rfl, rfl⟩))
    (fun os started H enc _ => lifted os started H enc)
#print axioms proved
end Go.Proofs.Ytkibbomfpklghaa.lFnWords
