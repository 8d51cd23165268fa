/-
  A slice of structs of a list and a number that is read; the laws' helpers on it; IndexOrder of both sides.
-/
import Derived.Test.YtfanohebejemmaaTermM
import Derived.Deep.RegionWith
namespace Go.Proofs.Ytfanohebejemmaa
open Go.RowKit Go.Deep

abbrev T0 : List Int × Int := ([], 0)
/-- A value that reads as a list of such structs. -/
def RTS (w : World) (v : Value) (ts : List (List Int × Int)) : Prop :=
  ∃ A c, v = .slice A ts.length c ∧ ts.length ≤ maxLen ∧ (0 < ts.length → ∃ b off, A = some ⟨b, off, none⟩ ∧ b < w.heap.size ∧ ∀ k, k < ts.length → ∃ u, w.cell? ⟨b, off + k * 2, none⟩ = some u ∧ w.cell? ⟨b, off + k * 2 + 1, none⟩ = some (.int .i64 (ts.getD k T0).2) ∧ RI w u (ts.getD k T0).1)
theorem RTS.keep {w w' : World} {v : Value} {ts : List (List Int × Int)} (h : RTS w v ts) (hs : w.heap.size ≤ w'.heap.size) (hc : ∀ p : Addr, p.block < w.heap.size → w'.cell? p = w.cell? p) : RTS w' v ts := by
  obtain ⟨A, c, hv, hl, hx⟩ := h
  refine ⟨A, c, hv, hl, fun h0 => ?_⟩
  obtain ⟨b, off, hA, hb, hx⟩ := hx h0
  refine ⟨b, off, hA, by omega, fun k hk => ?_⟩
  obtain ⟨u, h1, h2, hr⟩ := hx k hk
  exact ⟨u, (hc ⟨b, off + k * 2, none⟩ hb).trans h1, (hc ⟨b, off + k * 2 + 1, none⟩ hb).trans h2, hr.keep hs hc⟩
theorem RTS.below {w w' : World} {v : Value} {ts : List (List Int × Int)} (h : RTS w v ts) (hb : Below w.heap.size w w') : RTS w' v ts := h.keep hb.size fun _ hp => hb.cell hp
theorem RTS.shape {w : World} {v : Value} {ts : List (List Int × Int)} (h : RTS w v ts) : ∃ A c, v = .slice A ts.length c := by obtain ⟨A, c, h, _⟩ := h; exact ⟨A, c, h⟩
theorem RTS.lenle {w : World} {v : Value} {ts : List (List Int × Int)} (h : RTS w v ts) : ts.length ≤ 9223372036854775807 := by
  obtain ⟨_, _, _, h, _⟩ := h
  unfold maxLen at h; omega
/-- The k-th struct, with its list's value shown. -/
theorem RTS.at {w : World} {b off k n : Nat} {ts : List (List Int × Int)} (hx : ∀ k, k < n → ∃ u, w.cell? ⟨b, off + k * 2, none⟩ = some u ∧ w.cell? ⟨b, off + k * 2 + 1, none⟩ = some (.int .i64 (ts.getD k T0).2) ∧ RI w u (ts.getD k T0).1) (hk : k < n) :
    ∃ A c, w.cell? ⟨b, off + k * 2, none⟩ = some (.slice A (ts.getD k T0).1.length c) ∧ w.cell? ⟨b, off + k * 2 + 1, none⟩ = some (.int .i64 (ts.getD k T0).2) ∧ RI w (.slice A (ts.getD k T0).1.length c) (ts.getD k T0).1 := by
  obtain ⟨u, h1, h2, hr⟩ := hx k hk
  obtain ⟨A, c, rfl⟩ := hr.shape
  exact ⟨A, c, h1, h2, hr⟩

/-- The sum of the numbers, as the machine's numbers wrap. -/
def ordTo (ts : List (List Int × Int)) : Nat → Int
  | 0 => 0
  | k + 1 => IntKind.i64.wrap (ordTo ts k + (ts.getD k T0).2)
def indexOrder (ts : List (List Int × Int)) : Int := ordTo ts ts.length

theorem takeT_succ {ts : List (List Int × Int)} {k : Nat} (hk : k < ts.length) : ts.take (k + 1) = ts.take k ++ [ts.getD k T0] := by
  rw [List.take_add_one, List.getElem?_eq_getElem hk]; simp [hk]
theorem getD_memT {ts : List (List Int × Int)} {k : Nat} (h : k < ts.length) : ts.getD k T0 ∈ ts := by simp [List.getElem?_eq_getElem h]

theorem set_other {w : World} {a b : Addr} {v : Value} (h : a ≠ b) : (w.setCell a v).cell? b = w.cell? b := World.cell?_setCell_other _ _ _ _ h
theorem set_same {w : World} {a : Addr} {u v : Value} (h : w.cell? a = some u) : (w.setCell a v).cell? a = some v := World.cell?_setCell_same _ _ _ h
/-- A row of structs in block g that is being filled: the first k are there. -/
def FillT (w : World) (g n k : Nat) (ts : List (List Int × Int)) : Prop :=
  g < w.heap.size ∧ ∀ j, j < n → ∃ u y, w.cell? ⟨g, j * 2, none⟩ = some u ∧ w.cell? ⟨g, j * 2 + 1, none⟩ = some (.int .i64 y) ∧ w.frozen? ⟨g, j * 2, none⟩ = false ∧ w.frozen? ⟨g, j * 2 + 1, none⟩ = false ∧ (j < k → y = (ts.getD j T0).2 ∧ OI w (g + 1) u (ts.getD j T0).1)
theorem FillT.step {w w' : World} {g n k : Nat} {ts : List (List Int × Int)} (h : FillT w g n k ts) (b : Below w.heap.size w w') : FillT w' g n k ts := by
  obtain ⟨hg, h⟩ := h
  refine ⟨Nat.lt_of_lt_of_le hg b.size, fun j hj => ?_⟩
  obtain ⟨u, y, h1, h2, h3, h4, h5⟩ := h j hj
  exact ⟨u, y, (b.cell (p := ⟨g, j * 2, none⟩) hg).trans h1, (b.cell (p := ⟨g, j * 2 + 1, none⟩) hg).trans h2, (b.frozen (p := ⟨g, j * 2, none⟩) hg).trans h3, (b.frozen (p := ⟨g, j * 2 + 1, none⟩) hg).trans h4, fun hk => ⟨(h5 hk).1, OI.step (h5 hk).2 b⟩⟩
theorem FillT.set {w : World} {g n k : Nat} {ts : List (List Int × Int)} (h : FillT w g n k ts) (hk : k < n) {u : Value} (hu : OI w (g + 1) u (ts.getD k T0).1) {y : Int} (hy : y = (ts.getD k T0).2) :
    FillT ((w.setCell ⟨g, k * 2, none⟩ u).setCell ⟨g, k * 2 + 1, none⟩ (.int .i64 y)) g n (k + 1) ts := by
  obtain ⟨hg, h⟩ := h
  have t : Turned g (g + 1) w ((w.setCell ⟨g, k * 2, none⟩ u).setCell ⟨g, k * 2 + 1, none⟩ (.int .i64 y)) := (turned_set (Nat.le_refl _) (by omega) _).trans (turned_set (Nat.le_refl _) (by omega) _)
  refine ⟨by rw [t.size]; exact hg, fun j hj => ?_⟩
  obtain ⟨u0, y0, h1, h2, h3, h4, h5⟩ := h j hj
  by_cases e : j = k
  · subst e
    refine ⟨u, y, ?_, ?_, by simpa using h3, by simpa using h4, fun _ => ⟨hy, OI.above hu t (Nat.le_refl _)⟩⟩
    · rw [set_other (by simp), set_same h1]
    · exact set_same (u := .int .i64 y0) (by rw [set_other (by simp)]; exact h2)
  · refine ⟨u0, y0, ?_, ?_, by simpa using h3, by simpa using h4, fun hjk => ⟨(h5 (by omega)).1, OI.above (h5 (by omega)).2 t (Nat.le_refl _)⟩⟩
    · rw [set_other (by simp <;> omega), set_other (by simp <;> omega)]; exact h1
    · rw [set_other (by simp <;> omega), set_other (by simp <;> omega)]; exact h2
theorem FillT.reads {w : World} {g n : Nat} {ts : List (List Int × Int)} (h : FillT w g n n ts) (hn : n = ts.length) (hm : n ≤ maxLen) : RTS w (.slice (some ⟨g, 0, none⟩) n n) ts := by
  refine ⟨_, n, by rw [← hn], by omega, fun _ => ⟨g, 0, rfl, h.1, fun k hk => ?_⟩⟩
  obtain ⟨u, y, h1, h2, _, _, h5⟩ := h.2 k (by omega)
  obtain ⟨h6, h7⟩ := h5 (by omega)
  refine ⟨u, by rw [Nat.zero_add]; exact h1, by rw [Nat.zero_add, ← h6]; exact h2, h7.reads⟩
theorem term_info : (Try.prog.info? 56).map (fun i => (i.zero, i.size, i.bytes)) = some (some (.agg #[.slice none 0 0, .int .i64 0]), 2, 32) := by kernel_rfl
theorem make_terms (n : Nat) (hn : n ≤ 1048576) (w : World) : (Instr.makeSlice 37 (.int .i64 (n : Int)) (.int .i64 (n : Int))).run Try.prog w = .ok (.slice (some ⟨w.heap.size, 0, none⟩) n n) (w.alloc (.cells (madeCells #[.slice none 0 0, .int .i64 0] (n * 2)) 56)) := by
  obtain ⟨i, hi, hzz⟩ := Option.map_eq_some_iff.1 term_info
  simp only [Prod.mk.injEq] at hzz
  obtain ⟨hz, hs, hb⟩ := hzz
  have hr := run_make (P := Try.prog) w 37 56 i _ Try.underlying37 hi hz .i64 .i64 n n (by omega) (Int.le_refl _) (by rw [hb]; omega) (by omega)
  simp only [Int.toNat_natCast, hs] at hr
  exact hr
theorem FillT.made (w : World) (n : Nat) (ts : List (List Int × Int)) : FillT (w.alloc (.cells (madeCells #[.slice none 0 0, .int .i64 0] (n * 2)) 56)) w.heap.size n 0 ts := by
  refine ⟨by simp, fun j hj => ⟨.slice none 0 0, 0, ?_, ?_, ?_, ?_, fun h => by omega⟩⟩
  · rw [World.cell?_alloc_at _ _ _ _ rfl]
    have hs : j * 2 < (madeCells #[Value.slice none 0 0, .int .i64 0] (n * 2)).size := by rw [size_madeCells]; omega
    rw [Array.getElem?_eq_getElem hs]
    simp [madeCells]
  · rw [World.cell?_alloc_at _ _ _ _ rfl]
    have hs : j * 2 + 1 < (madeCells #[Value.slice none 0 0, .int .i64 0] (n * 2)).size := by rw [size_madeCells]; omega
    rw [Array.getElem?_eq_getElem hs]
    simp [madeCells]
  · exact World.frozen?_alloc_at _ _ _ _ rfl
  · exact World.frozen?_alloc_at _ _ _ _ rfl

set_option maxHeartbeats 1600000 in
theorem eqTermS_same {w : World} {a b : Value} {ts : List (List Int × Int)} (ha : RTS w a ts) (hb : RTS w b ts) :
    Calls Try.prog 46 #[a, b] w fun e w' => e = .returned (.bool true) ∧ Below w.heap.size w w' := by
  have hl := ha.lenle
  obtain ⟨A, c, rfl, -, hA⟩ := ha
  obtain ⟨A', c', rfl, -, hB⟩ := hb
  obtain ⟨n, hn⟩ : ∃ n, n = ts.length := ⟨_, rfl⟩
  rw [← hn] at hA hB hl ⊢
  have HL := Lib.hid hn
  have HA := Lib.hid hA
  have HB0 := Lib.hid hB
  have hnn : ((n : Int) != n) = false := by simp
  clear hA hB hn
  go_enter Try.func46, Try.ntmps46
  go_wp2
  go_loopw [5] (fun i wr => ∃ j : Nat, j ≤ n ∧ i = .int .i64 j ∧ Hid (Below w.heap.size w wr)) (fun i _ => n - (intOf i).toNat)
  case atStart => exact ⟨0, Nat.zero_le _, rfl, Below.refl _ _⟩
  case round =>
    obtain ⟨j, hj, rfl, HB⟩ := hrel
    by_cases hlt : j < n
    · obtain ⟨b1, o1, rfl, hb1, hc1⟩ := HA.out (by omega)
      obtain ⟨b2, o2, rfl, hb2, hc2⟩ := HB0.out (by omega)
      have hc1' : ∀ k, k < n → _ := hc1
      have hc2' : ∀ k, k < n → _ := hc2
      obtain ⟨A1, c1, p1, p2, p3⟩ := RTS.at hc1' hlt
      obtain ⟨A2, c2, q1, q2, q3⟩ := RTS.at hc2' hlt
      have e1 := (HB.out.cell (p := ⟨b1, o1 + j * 2, none⟩) hb1).trans p1
      have e2 := (HB.out.cell (p := ⟨b1, o1 + j * 2 + 1, none⟩) hb1).trans p2
      have e3 := (HB.out.cell (p := ⟨b2, o2 + j * 2, none⟩) hb2).trans q1
      have e4 := (HB.out.cell (p := ⟨b2, o2 + j * 2 + 1, none⟩) hb2).trans q2
      generalize ts.getD j T0 = t at e1 e2 e3 e4 p3 q3
      obtain ⟨xs, x⟩ := t
      simp only at e1 e2 e3 e4 p3 q3
      have HP := Lib.hid (RI.drew (RI.below p3 HB.out))
      have HQ := Lib.hid (RI.drew (RI.below q3 HB.out))
      clear hc1 hc2 hc1' hc2' p1 p2 p3 q1 q2 q3
      go_wp2_with fail
      go_region_with (first | (go_at_call 80; refine (eqTerm_any (s := (xs, x)) ⟨_, rfl, HP.out⟩ ⟨_, rfl, HQ.out⟩).mono ?_; rintro e w8 ⟨rfl, b8⟩; have R8 := Lib.hid b8; clear b8; skip))
      all_goals
        have HN : Hid (Below w.heap.size w w8) := bstep HB.out ⟨R8.out.os, R8.out.tape, R8.out.output, R8.out.size, R8.out.block⟩
        clear e1 e2 e3 e4 R8
        go_wp2_with fail
        go_roundw
        case rel => exact ⟨j + 1, by omega, by go_num, HN.out⟩
        case measure => simp [intOf]; omega
    · go_wp2_with fail
      go_ret
      exact ⟨rfl, HB.out⟩
end Go.Proofs.Ytfanohebejemmaa
