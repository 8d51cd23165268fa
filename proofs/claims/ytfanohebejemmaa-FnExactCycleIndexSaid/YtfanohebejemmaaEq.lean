/-
  The small helpers of package laws over slices of integers: equality, copy, marks.
-/
import Derived.Test.YtfanohebejemmaaMem
namespace Go.Proofs.Ytfanohebejemmaa
open Go.RowKit

theorem ne_len {w : World} {a b : Value} {xs ys : List Int} (ha : RI w a xs) (hb : RI w b ys) (hl : xs.length ≠ ys.length) :
    Calls Try.prog 23 #[a, b] w fun e w' => e = .returned (.bool false) ∧ w = w' := by
  obtain ⟨A, c, rfl, hlx, hx⟩ := ha
  obtain ⟨B, d, rfl, hly, hy⟩ := hb
  clear hx hy
  have h0 : ((xs.length : Int) != ys.length) = true := bne_iff_ne.2 (by omega)
  go_enter Try.func23, Try.ntmps23
  go_wp2
  go_ret
  exact ⟨rfl, rfl⟩

theorem take_eq_succ {xs ys : List Int} {k : Nat} (hk : k < xs.length) (hl : xs.length = ys.length) (h : xs.take k = ys.take k) (he : xs.getD k 0 = ys.getD k 0) : xs.take (k + 1) = ys.take (k + 1) := by
  rw [List.take_add_one, List.take_add_one, h, List.getElem?_eq_getElem hk, List.getElem?_eq_getElem (by omega)]
  simp [List.getElem?_eq_getElem hk, List.getElem?_eq_getElem (show k < ys.length by omega)] at he
  simp [he]

set_option maxHeartbeats 400000 in
theorem eqIntS_any {w : World} {a b : Value} {xs ys : List Int} (ha : RI w a xs) (hb : RI w b ys) :
    Calls Try.prog 23 #[a, b] w fun e w' => e = .returned (.bool (decide (xs = ys))) ∧ ∃ n, w' = w.drewN n := by
  by_cases hl : xs.length ≠ ys.length
  · refine (ne_len ha hb hl).mono ?_
    rintro e w' ⟨rfl, rfl⟩
    exact ⟨by rw [decide_eq_false (by intro h; exact hl (by rw [h]))], 0, rfl⟩
  · obtain ⟨A, c, rfl, hlx, hx⟩ := ha
    obtain ⟨B, d, rfl, hly, hy⟩ := hb
    have hl : xs.length = ys.length := by omega
    unfold maxLen at hlx
    obtain ⟨n, hn⟩ : ∃ n, n = xs.length := ⟨_, rfl⟩
    rw [← hl, ← hn]
    have HL : Hid (xs.length = ys.length ∧ n = xs.length) := ⟨hl, hn⟩
    have hb : n ≤ 9223372036854775807 := by omega
    have HX := Lib.hid hx
    have HY := Lib.hid hy
    clear hl hn hx hy hlx hly
    have h0 : ((n : Int) != n) = false := by simp
    go_enter Try.func23, Try.ntmps23
    go_wp2
    go_loopw [5] (fun i wr => ∃ k : Nat, k ≤ n ∧ i = .int .i64 k ∧ Hid (xs.take k = ys.take k) ∧ ∃ m, wr = w.drewN m) (fun i _ => n - (intOf i).toNat)
    case atStart => exact ⟨0, Nat.zero_le _, rfl, by simp [Hid], 0, rfl⟩
    case round =>
      obtain ⟨k, hk, rfl, HT, m, rfl⟩ := hrel
      by_cases hlt : k < n
      · obtain ⟨b1, o1, rfl, hb1, hc1⟩ := HX.out (by have := HL.out; omega)
        obtain ⟨b2, o2, rfl, hb2, hc2⟩ := HY.out (by have := HL.out; omega)
        have c1 := hc1 k (by have := HL.out; omega)
        have c2 := hc2 k (by have := HL.out; omega)
        generalize hx : xs.getD k 0 = x at c1
        generalize hy : ys.getD k 0 = y at c2
        have HE : Hid (xs.getD k 0 = x ∧ ys.getD k 0 = y) := ⟨hx, hy⟩
        clear hc1 hc2 hx hy
        by_cases he : x = y
        · have h1 : (x != y) = false := by simp [he]
          have HE2 := Lib.hid he
          clear he
          go_wp2
          go_quiet (fail)
          go_wp2
          go_roundw
          case rel => exact ⟨k + 1, by omega, by go_num, take_eq_succ (by have := HL.out; omega) HL.out.1 HT.out (by rw [HE.out.1, HE.out.2, HE2.out]), m + nq, by first | rfl | simp⟩
          case measure => simp [intOf]; omega
        · have h1 : (x != y) = true := by simp [he]
          go_wp2
          go_quiet (fail)
          go_wp2
          go_ret
          refine ⟨retB (Eq.symm (decide_eq_false ?_)), m + nq, by first | rfl | simp⟩
          rintro rfl
          exact he (HE.out.1.symm.trans HE.out.2)
      · go_wp2
        go_ret
        refine ⟨retB (Eq.symm (decide_eq_true ?_)), _, rfl⟩
        have hT := HT.out
        have := HL.out
        rwa [List.take_of_length_le (by omega), List.take_of_length_le (by omega)] at hT

/-- The mark of k, k+1, .. -/
def marks (n : Nat) (k : Int) : List Int := (List.range n).map fun i : Nat => k + (i : Int)

theorem marks_set {xs : List Int} {k : Int} {i : Nat} (hi : i < xs.length) : (marks i k ++ xs.drop i).set i (k + i) = marks (i + 1) k ++ xs.drop (i + 1) := by
  have hl : (marks i k).length = i := by simp [marks]
  rw [List.set_append_right _ _ (by omega), hl, Nat.sub_self, List.drop_eq_getElem_cons hi, List.set_cons_zero]
  simp [marks, List.range_succ]
theorem marks_len (n : Nat) (k : Int) : (marks n k).length = n := by simp [marks]
theorem marks_getD {n i : Nat} {k : Int} (h : i < n) : (marks n k).getD i 0 = k + i := by simp [marks, h]

/-- 'markIntS': the row then holds k, k + 1, ..; nothing else has turned. -/
theorem markIntS_any {w : World} {lo : Nat} {a : Value} {xs : List Int} (k : Int) (h : OI w lo a xs) (h0 : 0 ≤ k) (h1 : k ≤ 4611686018427387904) (hx : xs.length ≤ 4611686018427387903) :
    Calls Try.prog 36 #[a, .int .i64 k] w fun e w' => e = .returned (.int .i64 (k + xs.length)) ∧ OI w' lo a (marks xs.length k) ∧ w.grownBy w' a.ownBlock ∧ w'.heap.size = w.heap.size := by
  obtain ⟨A, c, rfl, hA⟩ := h.form
  obtain ⟨n, hn⟩ : ∃ n, n = xs.length := ⟨_, rfl⟩
  rw [← hn] at hA hx ⊢
  have HL := Lib.hid hn
  have HA := Lib.hid hA
  have H := Lib.hid h
  clear h hA hn
  go_enter Try.func36, Try.ntmps36
  go_wp2
  go_loopw [1, 5] (fun q i wr => ∃ j : Nat, j ≤ n ∧ i = .int .i64 j ∧ q = .int .i64 (k + j) ∧ Hid (OI wr lo (.slice A n c) (marks j k ++ xs.drop j) ∧ w.grownBy wr (Value.slice A n c).ownBlock ∧ wr.heap.size = w.heap.size)) (fun _ i _ => n - (intOf i).toNat)
  case atStart => exact ⟨0, Nat.zero_le _, rfl, by simp, by rw [HL.out]; exact H.out, World.grownBy.refl _ _, rfl⟩
  case round =>
    obtain ⟨j, hj, rfl, rfl, HO⟩ := hrel
    by_cases hlt : j < n
    · obtain ⟨g, rfl, hg1, hg2⟩ := HA.out (by omega)
      have hlen : (marks j k ++ xs.drop j).length = n := by have := HL.out; simp [marks]; omega
      have ho := HO.out.1
      have c1 := ho.cell hlen j (by omega)
      have f1 := ho.frozen hlen j
      have hs := ho.set hlen j (k + j)
      rw [marks_set (by have := HL.out; omega)] at hs
      have HS := Lib.hid hs
      clear hs ho hlen
      go_wp2
      go_roundw
      case rel =>
        have := HL.out
        exact ⟨j + 1, by omega, by go_num, by go_num, HS.out.1, grownBy.trans HO.out.2.1 HS.out.2, by simp [HO.out.2.2]⟩
      case measure => simp [intOf]; omega
    · go_wp2
      go_ret
      have := HL.out
      obtain rfl : j = n := by omega
      have ho := HO.out.1
      rw [List.drop_of_length_le (by omega), List.append_nil] at ho
      exact ⟨rfl, by simpa [marks] using ho, HO.out.2.1, HO.out.2.2⟩

/-- 'heldIntS' of the marks themselves. -/
theorem heldIntS_any {w : World} {a : Value} {n : Nat} (k : Int) (h : RI w a (marks n k)) (h0 : 0 ≤ k) (h1 : k ≤ 4611686018427387904) (hn : n ≤ 4611686018427387903) :
    Calls Try.prog 37 #[a, .int .i64 k] w fun e w' => e = .returned (.int .i64 (k + n)) ∧ w = w' := by
  obtain ⟨A, c, rfl, _, hA⟩ := h
  rw [marks_len] at hA ⊢
  have HA := Lib.hid hA
  clear hA
  go_enter Try.func37, Try.ntmps37
  go_wp2
  go_loop [1, 5] (fun q i => ∃ j : Nat, j ≤ n ∧ i = .int .i64 j ∧ q = .int .i64 (k + j)) (fun _ i => n - (intOf i).toNat)
  case atStart => exact ⟨0, Nat.zero_le _, rfl, by simp⟩
  case round =>
    obtain ⟨j, hj, rfl, rfl⟩ := hrel
    by_cases hlt : j < n
    · obtain ⟨b, off, rfl, hb, hc⟩ := HA.out (by omega)
      have c1 := hc j hlt
      rw [marks_getD hlt] at c1
      clear hc
      go_wp2
      go_round
      case rel => exact ⟨j + 1, by omega, by go_num, by go_num⟩
      case measure => simp [intOf]; omega
    · go_wp2
      go_ret
      obtain rfl : j = n := by omega
      exact ⟨rfl, rfl⟩

theorem replicate_ints (n : Nat) : (madeCells (Value.int .i64 0).cells (n * 1)).toList = ints (List.replicate n 0) := by
  simp [Value.cells, toList_madeCells_one, ints]

theorem copy_set {xs : List Int} {i : Nat} (hi : i < xs.length) : (xs.take i ++ List.replicate (xs.length - i) 0).set i (xs.getD i 0) = xs.take (i + 1) ++ List.replicate (xs.length - (i + 1)) 0 := by
  have hl : (xs.take i).length = i := by simp; omega
  rw [List.set_append_right _ _ (by omega), hl, Nat.sub_self, show xs.length - i = (xs.length - (i + 1)) + 1 from by omega, List.replicate_succ, List.set_cons_zero, List.take_add_one, List.getElem?_eq_getElem hi]
  simp only [List.getD_eq_getElem?_getD, List.getElem?_eq_getElem hi, Option.getD_some, Option.toList_some, List.append_assoc, List.singleton_append]

/-- 'toIntS': a copy in new memory. -/
theorem toIntS_any {w : World} {a : Value} {xs : List Int} (h : RI w a xs) (hx : xs.length ≤ 1048576) :
    Calls Try.prog 21 #[a] w fun e w' => ∃ v, e = .returned v ∧ OI w' w.heap.size v xs ∧ Below w.heap.size w w' := by
  obtain ⟨A, c, rfl, _, hA⟩ := h
  obtain ⟨n, hn⟩ : ∃ n, n = xs.length := ⟨_, rfl⟩
  rw [← hn] at hA hx ⊢
  obtain ⟨i0, hi, hz0, hz1, hz2⟩ := info_parts int_info
  have HL := Lib.hid hn
  have HA := Lib.hid hA
  clear hA hn
  go_enter Try.func21, Try.ntmps21
  go_wp2_with (at_make; refine wpList_make_full _ rfl _ _ 27 rfl w.heap.size 3 i0 _ 1 Try.underlying27 hi hz0 hz1 _ _ _ _ n rfl rfl rfl rfl (by rw [hz2]; omega) (by unfold maxLen; omega) (Nat.le_refl _) ?_; intro w1 hown hgrow)
  obtain ⟨g, hg⟩ : ∃ g, g = w.heap.size := ⟨_, rfl⟩
  have ho : OI w1 g (.slice (some ⟨g, 0, none⟩) n n) (List.replicate n 0) := by rw [hg]; unfold OI; rw [List.length_replicate]; simpa [ints, toList_madeCells_one, Value.cells] using hown
  have hb : Below w.heap.size w w1 := (Below.refl _ _).grown hgrow (Nat.le_refl _) (fun k h => by cases h)
  rw [← hg]
  have HO := Lib.hid ho
  have HG := Lib.hid hg
  have HB := Lib.hid hb
  clear ho hb hown hgrow hg
  go_loopw [4] (fun i wr => ∃ j : Nat, j ≤ n ∧ i = .int .i64 j ∧ Hid (OI wr g (.slice (some ⟨g, 0, none⟩) n n) (xs.take j ++ List.replicate (n - j) 0) ∧ Below w.heap.size w wr)) (fun i _ => n - (intOf i).toNat)
  case atStart => exact ⟨0, Nat.zero_le _, rfl, by simpa using HO.out, HB.out⟩
  case round =>
    obtain ⟨j, hj, rfl, HR⟩ := hrel
    by_cases hlt : j < n
    · obtain ⟨b, off, rfl, hb, hc⟩ := HA.out (by have := HL.out; omega)
      have ho := HR.out.1
      have c1 := (HR.out.2.cell (p := ⟨b, off + j, none⟩) hb).trans (hc j (by have := HL.out; omega))
      have hlen : (xs.take j ++ List.replicate (n - j) 0).length = n := by have := HL.out; simp; omega
      have c2 := ho.cell hlen j (by omega)
      have f2 := ho.frozen hlen j
      have hs := ho.set hlen j (xs.getD j 0)
      have hcs := copy_set (xs := xs) (i := j) (by have := HL.out; omega)
      rw [← HL.out] at hcs
      rw [hcs] at hs
      have hb' := HR.out.2.setCell (p := ⟨g, j, none⟩) (by have := HG.out; simp; omega) (.int .i64 (xs.getD j 0))
      have HS := Lib.hid hs.1
      have HB' := Lib.hid hb'
      clear ho hlen hs hcs hb' hc
      generalize xs.getD j 0 = x at *
      go_wp2
      go_roundw
      case rel => exact ⟨j + 1, by omega, by go_num, HS.out, HB'.out⟩
      case measure => simp [intOf]; omega
    · go_wp2
      go_ret
      obtain rfl : j = n := by omega
      have := HL.out
      refine ⟨_, rfl, ?_, HR.out.2⟩
      rw [← HG.out]
      have ho := HR.out.1
      rw [Nat.sub_self, List.replicate_zero, List.append_nil, List.take_of_length_le (by omega)] at ho
      exact ho

theorem eqIntS_same {w : World} {a b : Value} {xs : List Int} (ha : RI w a xs) (hb : RI w b xs) :
    Calls Try.prog 23 #[a, b] w fun e w' => e = .returned (.bool true) ∧ Below w.heap.size w w' :=
  (eqIntS_any ha hb).mono fun _ _ ⟨he, n, hw⟩ => ⟨by rw [he, decide_eq_true rfl], by rw [hw]; exact bstepN (Below.refl _ _) n⟩

theorem eqIntS_quiet {w : World} {a b : Value} {xs : List Int} (ha : RI w a xs) (hb : RI w b xs) :
    Calls Try.prog 23 #[a, b] w fun e w' => e = .returned (.bool true) ∧ ∃ n, w' = w.drewN n :=
  (eqIntS_any ha hb).mono fun _ _ ⟨he, hw⟩ => ⟨by rw [he, decide_eq_true rfl], hw⟩

/-- 'markIntS' as a step: the row holds marks, blocks from lo up to hi alone may have turned. -/
theorem markIntS_step {w : World} {lo hi : Nat} {a : Value} {xs : List Int} (k : Int) (h : OI w lo a xs) (hb : ∀ g, a.ownBlock = some g → g < hi) (h0 : 0 ≤ k) (h1 : k ≤ 4611686018427387904) (hx : xs.length ≤ 4611686018427387903) :
    Calls Try.prog 36 #[a, .int .i64 k] w fun e w' => e = .returned (.int .i64 (k + xs.length)) ∧ OI w' lo a (marks xs.length k) ∧ Turned lo hi w w' :=
  (markIntS_any k h h0 h1 hx).mono fun _ _ ⟨he, ho, hg, hs⟩ => ⟨he, ho, Turned.of_grown hg hs fun g hk => ⟨(h.lt g hk).1, hb g hk⟩⟩

theorem heldIntS_step {w : World} {a : Value} {n : Nat} (k : Int) (h : RI w a (marks n k)) (h0 : 0 ≤ k) (h1 : k ≤ 4611686018427387904) (hn : n ≤ 4611686018427387903) :
    Calls Try.prog 37 #[a, .int .i64 k] w fun e w' => e = .returned (.int .i64 (k + n)) ∧ Below w.heap.size w w' :=
  (heldIntS_any k h h0 h1 hn).mono fun _ _ ⟨he, hw⟩ => ⟨he, by rw [← hw]; exact Below.refl _ _⟩
end Go.Proofs.Ytfanohebejemmaa
