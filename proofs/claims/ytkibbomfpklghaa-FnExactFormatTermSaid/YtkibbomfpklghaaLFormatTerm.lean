/-
  The law FnExactFormatTerm returns true for every input: program and reference return the same text and the argument stays as it was.
-/
import Derived.Test.YtkibbomfpklghaaRowT
import Derived.Test.YtkibbomfpklghaaFmtT
namespace Go.Proofs.Ytkibbomfpklghaa.lFormatTerm
open Go.ChangeShapes Go.WideShapes Go.ChangeAt Go.RowKit

/-- The world in which the argument has been put into a block of its own. -/
def boxL (w : World) (v : Value) (c : Int) : World := w.alloc (.cells #[v, .int .i64 c] 39)
theorem boxL_size (w : World) (v : Value) (c : Int) : (boxL w v c).heap.size = w.heap.size + 1 := by simp [boxL]
theorem boxL_below (w : World) (v : Value) (c : Int) : Below w.heap.size w (boxL w v c) := (Below.refl w.heap.size w).alloc (Nat.le_refl _) _
theorem boxL_old {w wr : World} {v : Value} {c : Int} (h : Below (w.heap.size + 1) (boxL w v c) wr) : Below w.heap.size w wr := (boxL_below w v c).trans (h.mono (by omega))
theorem boxL_zero {w wr : World} {v : Value} {c : Int} (h : Below (w.heap.size + 1) (boxL w v c) wr) : wr.cell? ⟨w.heap.size, 0, none⟩ = some v :=
  (h.cell (p := ⟨w.heap.size, 0, none⟩) (by simp)).trans (by unfold boxL; rw [World.cell?_alloc_at _ _ _ _ rfl]; rfl)
theorem boxL_one {w wr : World} {v : Value} {c : Int} (h : Below (w.heap.size + 1) (boxL w v c) wr) : wr.cell? ⟨w.heap.size, 1, none⟩ = some (.int .i64 c) :=
  (h.cell (p := ⟨w.heap.size, 1, none⟩) (by simp)).trans (by unfold boxL; rw [World.cell?_alloc_at _ _ _ _ rfl]; rfl)
theorem boxL_step {w w1 w2 : World} {v : Value} {c : Int} (h : Below (w.heap.size + 1) (boxL w v c) w1) (b : Below w1.heap.size w1 w2) : Below (w.heap.size + 1) (boxL w v c) w2 :=
  h.trans (b.mono (by have := h.size; rw [boxL_size] at this; exact this))
theorem undrew {w w3 : World} (b : Below w.drew.heap.size w.drew w3) : Below w.heap.size w w3 := ⟨b.os, b.tape, b.output, b.size, b.block⟩

set_option maxHeartbeats 4000000 in
set_option maxRecDepth 100000 in
theorem walk (w : World) {a0 : Value} {t : List Int × Int} (ha0 : RT w a0 t) (f0 : FitT t) : Calls Try.prog 7 #[a0] w fun e w' => e = .returned (.bool true) ∧ Below w.heap.size w w' := by
  obtain ⟨u, rfl, hu⟩ := ha0
  obtain ⟨xs, c⟩ := t
  simp only at hu ⊢
  have HU := Lib.hid hu
  have HFX : Hid (∀ x ∈ xs, InR x) := f0.1
  have HFC : Hid (InR c) := f0.2
  obtain ⟨A, cc, rfl⟩ := hu.shape
  clear hu f0
  have B : Hid (Below (w.heap.size + 1) (boxL w (.slice A xs.length cc) c) (boxL w (.slice A xs.length cc) c)) := Below.refl _ _
  have RTB : ∀ wr, Below (w.heap.size + 1) (boxL w (.slice A xs.length cc) c) wr → RT wr (.agg #[.slice A xs.length cc, .int .i64 c]) (xs, c) := fun wr h => ⟨_, rfl, RI.below HU.out (boxL_old h)⟩
  have HRT := Lib.hid RTB
  obtain ⟨F, hF⟩ : ∃ F, F = formatTerm (xs, c) := ⟨_, rfl⟩
  have HF := Lib.hid hF
  have hff : (F.toList == F.toList) = true := by simp
  clear RTB hF
  go_enter Try.func7, Try.ntmps7
  go_wp2_with fail
  refine (szTerm_any 1048576 (HRT.out _ B.out) (by omega) (by omega)).mono ?_
  rintro e w1 ⟨r, rfl, hr, b⟩
  replace B := Lib.hid (boxL_step B.out b)
  clear b
  rcases hr with ⟨r0, hx⟩ | rfl
  rotate_left
  · go_wp2_with fail
    go_ret
    exact ⟨rfl, boxL_old B.out⟩
  have HXL : Hid (xs.length ≤ 1048576) := by simp only at hx; exact (by omega : xs.length ≤ 1048576)
  clear hx
  have k0 := boxL_zero B.out
  have k1 := boxL_one B.out
  go_wp2_with fail
  refine (toTerm_any (HRT.out _ B.out) HXL.out).mono ?_
  rintro e w2 ⟨v2, rfl, rt, b⟩
  replace B := Lib.hid (boxL_step B.out b)
  have R2 := Lib.hid rt
  clear rt b k0 k1
  go_wp2_with fail
  have hc := specFormatTerm_any R2.out HXL.out HFX.out HFC.out
  rw [← HF.out] at hc
  refine hc.mono ?_
  clear hc
  rintro e w3 ⟨rfl, b⟩
  replace B := Lib.hid (boxL_step B.out b)
  clear b R2
  have k0 := boxL_zero B.out
  have k1 := boxL_one B.out
  go_wp2_with fail
  refine (toTerm_any (HRT.out _ B.out) HXL.out).mono ?_
  rintro e w4 ⟨v4, rfl, rt, b⟩
  replace B := Lib.hid (boxL_step B.out b)
  obtain ⟨u4, rfl, hu4⟩ := rt
  obtain ⟨A4, c4, rfl⟩ := hu4.shape
  simp only at hu4 ⊢
  have R4 := Lib.hid hu4
  clear hu4 b k0 k1
  go_wp2_with fail
  have hc := implFormatTerm_any (w := w4.alloc (.cells #[.slice A4 xs.length c4, .int .i64 c] 42)) (t := (xs, c)) ⟨_, rfl, R4.out.alloc _⟩ HXL.out HFX.out HFC.out
  rw [← HF.out] at hc
  refine hc.mono ?_
  clear hc
  rintro e w6 ⟨rfl, b⟩
  have m0 := b.cell (p := ⟨w4.heap.size, 0, none⟩) (by simp)
  have m1 := b.cell (p := ⟨w4.heap.size, 1, none⟩) (by simp)
  rw [World.cell?_alloc_at _ _ _ _ rfl] at m0 m1
  have hb6 : Below w4.heap.size w4 w6 := bstep ((Below.refl w4.heap.size w4).alloc (Nat.le_refl _) _) b
  have hw46 : w4.heap.size < w6.heap.size := by have := b.size; simp at this; omega
  have HM := Lib.hid (And.intro m0 (And.intro m1 hw46))
  replace B := Lib.hid (boxL_step B.out hb6)
  have R6 := Lib.hid (RI.below R4.out hb6)
  have k0 := boxL_zero B.out
  have k1 := boxL_one B.out
  have RD : Hid (RT w6.drew (.agg #[.slice A xs.length cc, .int .i64 c]) (xs, c)) := HRT.out _ (Below.drew B.out)
  have hfn : (F.toList != F.toList) = false := by simp
  clear b hb6 hw46 R4
  go_wp2_with fail
  go_region_with (first
    | (go_at_call 26; refine (toTerm_any RD.out HXL.out).mono ?_; rintro e w7 ⟨v7, rfl, rt, b7⟩; have n0 := (b7.cell (p := ⟨w4.heap.size, 0, none⟩) HM.out.2.2).trans HM.out.1; have n1 := (b7.cell (p := ⟨w4.heap.size, 1, none⟩) HM.out.2.2).trans HM.out.2.1; obtain ⟨u7, rfl, hu7⟩ := rt; have R7 := Lib.hid (And.intro hu7 (And.intro (RI.below R6.out (undrew b7)) (undrew b7))); clear hu7 b7; skip)
    | (go_at_call 28; refine (eqTerm_any (s := (xs, c)) ⟨_, rfl, R7.out.2.1⟩ ⟨_, rfl, R7.out.1⟩).mono ?_; rintro e w8 ⟨rfl, b8⟩; have R8 := Lib.hid b8; clear b8; skip))
  all_goals
    have B8 := Lib.hid (boxL_old (boxL_step (boxL_step B.out R7.out.2.2) R8.out))
    go_wp2_with fail
    go_ret
    exact ⟨rfl, B8.out⟩

/-! The row's step. -/
set_option maxRecDepth 100000 in
theorem lifted (os : Os) (started : os.Started) (H : Type) (enc : TypeId × Value → H) :
    ReturnsInHanded {} Try.checked os 7 .any (Rows.fnExactFormatTermSpec.pre6 enc Try.prog Try.f7 Rows.fnExactFormatTermRow.domain false) (Rows.fnExactFormatTermSpec.post enc Try.prog Try.f7 false true false false) := by
  refine returnsInHanded_of_change (C := Try.checked) own started (by kernel_rfl) Try.func7
    (ChangeSpec.witness6 (enc := enc) (C := Try.checked) false ⟨#[], #[.agg #[.slice none 0 0, .int .i64 0]], []⟩ 8 (by kernel_rfl) (by kernel_rfl) (by kernel_rfl) (by kernel_rfl)) ?_
  intro W base args ds gs before hval0 hW hcnd _
  have hval : ∀ (j : Nat) t v, Try.f7.params[j]? = some t → args[j]? = some v → Value.okWide Try.prog W .any base t v := hval0
  have hW' := hW
  obtain ⟨p, q, hA0, hV, rfl, hfz, hnd⟩ := hW
  have hA : DataW.TrodAll enc Try.prog W 0 (fun _ => true) true Try.f7.params.toList args.toList ds p := hA0
  rw [Try.params7] at hA hval
  obtain ⟨v0, vs0, d0, ds0, p0, q0, hargs, rfl, rfl, h0, r0⟩ := trodAll_cons hA
  obtain ⟨rfl, rfl, rfl⟩ := trodAll_nil r0
  obtain rfl : args = #[v0] := by cases args; simp_all
  obtain ⟨rfl, rfl⟩ := trodVars_none hV
  have k0 := h0
  have lt0 : ∀ x ∈ p0, x.block < W.heap.size := by obtain ⟨m, hm⟩ := k0; exact DataW.trod_lt m _ _ _ hm
  obtain ⟨z0, w0, f0⟩ := open_RT (hval 0 39 v0 rfl rfl) h0
  clear hA0 hval0
  refine (walk W w0 f0).mono fun e W' ⟨he, bel⟩ => ?_
  subst he
  exact ⟨_, rfl, _, _, _, [], _, [], hW', trodAll_mk1 (shut_bool Try.underlying4 _), (trodAll_cons_mk (Below.trod laidOut (by kernel_rfl) (of_decide_eq_true (by kernel_rfl)) k0 bel lt0) trodAll_mk0), rfl, bel.frame _, fun h => by cases h⟩

/-- The statement. -/
theorem proved : Rows.FnExactFormatTermSaid :=
  OpenClaim.holds_of_wide 7 Try.f7 rfl rfl rfl rfl rfl rfl rfl ⟨rfl, rfl, rfl, rfl, rfl⟩ rfl rfl rfl rfl rfl (by kernel_rfl) Try.func7 (by kernel_rfl)
    (of_decide_eq_true (by kernel_rfl)) (by unfold Func.isWrapper; first | (rw [if_pos (by decide +kernel)]; kernel_rfl) | (rw [if_neg (by decide +kernel)]; exact ⟨rfl, rfl⟩))
    (fun os started H enc _ => lifted os started H enc)
#print axioms proved
end Go.Proofs.Ytkibbomfpklghaa.lFormatTerm
