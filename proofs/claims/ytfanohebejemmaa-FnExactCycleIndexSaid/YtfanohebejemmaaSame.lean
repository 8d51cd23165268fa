/-
  Equality of two slices of integers: slices.Equal, l03Same, same.
-/
import Derived.Test.YtfanohebejemmaaEq
namespace Go.Proofs.Ytfanohebejemmaa
open Go.RowKit

set_option maxHeartbeats 800000 in
theorem slicesEqual_any {w : World} {a b : Value} {xs ys : List Int} (ha : RI w a xs) (hb : RI w b ys) :
    Calls Try.prog 63 #[a, b] w fun e w' => e = .returned (.bool (decide (xs = ys))) ∧ Still w w' := by
  have hlx := ha.lenle
  have hly := hb.lenle
  obtain ⟨A, c, rfl, -, hx⟩ := ha
  obtain ⟨B, d, rfl, -, hy⟩ := hb
  by_cases hl : xs.length ≠ ys.length
  · have h0 : ((xs.length : Int) != ys.length) = true := bne_iff_ne.2 (by clear hx hy; omega)
    clear hx hy
    have HL := Lib.hid hl
    clear hl
    go_enter Try.func63, Try.ntmps63
    go_wp2
    go_ret
    exact ⟨retB (Eq.symm (decide_eq_false (by intro h; exact HL.out (by rw [h])))), Still.refl _⟩
  · have hl : xs.length = ys.length := by clear hx hy; omega
    obtain ⟨n, hn⟩ : ∃ n, n = xs.length := ⟨_, rfl⟩
    rw [← hn] at hlx
    rw [← hl, ← hn]
    have HL : Hid (xs.length = ys.length ∧ n = xs.length) := ⟨hl, hn⟩
    have HX := Lib.hid hx
    have HY := Lib.hid hy
    clear hl hn hx hy hly
    have h0 : ((n : Int) != n) = false := by simp
    go_enter Try.func63, Try.ntmps63
    go_wp2
    go_loopw [13] (fun i wr => ∃ k : Nat, k ≤ n ∧ i = .int .i64 k ∧ Hid (xs.take k = ys.take k) ∧ Still w wr) (fun i _ => n - (intOf i).toNat)
    case atStart => exact ⟨0, Nat.zero_le _, rfl, by simp [Hid], Still.refl _⟩
    case round =>
      obtain ⟨k, hk, rfl, HT, HS⟩ := hrel
      by_cases hlt : k < n
      · obtain ⟨b1, o1, rfl, hb1, hc1⟩ := HX.out (by have := HL.out; omega)
        obtain ⟨b2, o2, rfl, hb2, hc2⟩ := HY.out (by have := HL.out; omega)
        have c1 := (HS.cell _).trans (hc1 k (by have := HL.out; omega))
        have c2 := (HS.cell _).trans (hc2 k (by have := HL.out; omega))
        generalize hx : xs.getD k 0 = x at c1
        generalize hy : ys.getD k 0 = y at c2
        have HE : Hid (xs.getD k 0 = x ∧ ys.getD k 0 = y) := ⟨hx, hy⟩
        clear hc1 hc2 hx hy
        by_cases he : x = y
        · have h1 : (x != y) = false := by simp [he]
          have HE2 := Lib.hid he
          clear he
          go_wp2
          go_quiet (fail)
          go_wp2
          go_roundw
          case rel => exact ⟨k + 1, by omega, by go_num, take_eq_succ (by have := HL.out; omega) HL.out.1 HT.out (by rw [HE.out.1, HE.out.2, HE2.out]), HS.drewN _⟩
          case measure => simp [intOf]; omega
        · have h1 : (x != y) = true := by simp [he]
          go_wp2
          go_quiet (fail)
          go_wp2
          go_ret
          refine ⟨retB (Eq.symm (decide_eq_false ?_)), HS.drewN _⟩
          rintro rfl
          exact he (HE.out.1.symm.trans HE.out.2)
      · go_wp2
        go_ret
        refine ⟨retB (Eq.symm (decide_eq_true ?_)), HS⟩
        have hT := HT.out
        have := HL.out
        rwa [List.take_of_length_le (by omega), List.take_of_length_le (by omega)] at hT

set_option maxHeartbeats 800000 in
theorem l03Same_any {w : World} {a b : Value} {xs ys : List Int} (ha : RI w a xs) (hb : RI w b ys) :
    Calls Try.prog 62 #[a, b] w fun e w' => e = .returned (.bool (decide (xs = ys))) ∧ Still w w' := by
  have hlx := ha.lenle
  have hly := hb.lenle
  obtain ⟨A, c, rfl, -, hx⟩ := ha
  obtain ⟨B, d, rfl, -, hy⟩ := hb
  by_cases hl : xs.length ≠ ys.length
  · have h0 : ((xs.length : Int) != ys.length) = true := bne_iff_ne.2 (by clear hx hy; omega)
    clear hx hy
    have HL := Lib.hid hl
    clear hl
    go_enter Try.func62, Try.ntmps62
    go_wp2
    go_ret
    exact ⟨retB (Eq.symm (decide_eq_false (by intro h; exact HL.out (by rw [h])))), Still.refl _⟩
  · have hl : xs.length = ys.length := by clear hx hy; omega
    obtain ⟨n, hn⟩ : ∃ n, n = xs.length := ⟨_, rfl⟩
    rw [← hn] at hlx
    rw [← hl, ← hn]
    have HL : Hid (xs.length = ys.length ∧ n = xs.length) := ⟨hl, hn⟩
    have HX := Lib.hid hx
    have HY := Lib.hid hy
    clear hl hn hx hy hly
    have h0 : ((n : Int) != n) = false := by simp
    go_enter Try.func62, Try.ntmps62
    go_wp2
    go_loopw [14] (fun i wr => ∃ k : Nat, k ≤ n ∧ i = .int .i64 k ∧ Hid (xs.take k = ys.take k) ∧ Still w wr) (fun i _ => n - (intOf i).toNat)
    case atStart => exact ⟨0, Nat.zero_le _, rfl, by simp [Hid], Still.refl _⟩
    case round =>
      obtain ⟨k, hk, rfl, HT, HS⟩ := hrel
      by_cases hlt : k < n
      · obtain ⟨b1, o1, rfl, hb1, hc1⟩ := HX.out (by have := HL.out; omega)
        obtain ⟨b2, o2, rfl, hb2, hc2⟩ := HY.out (by have := HL.out; omega)
        have c1 := (HS.cell _).trans (hc1 k (by have := HL.out; omega))
        have c2 := (HS.cell _).trans (hc2 k (by have := HL.out; omega))
        generalize hx : xs.getD k 0 = x at c1
        generalize hy : ys.getD k 0 = y at c2
        have HE : Hid (xs.getD k 0 = x ∧ ys.getD k 0 = y) := ⟨hx, hy⟩
        clear hc1 hc2 hx hy
        by_cases he : x = y
        · have h1 : (x != y) = false := by simp [he]
          have HE2 := Lib.hid he
          clear he
          go_wp2
          go_roundw
          case rel => exact ⟨k + 1, by omega, by go_num, take_eq_succ (by have := HL.out; omega) HL.out.1 HT.out (by rw [HE.out.1, HE.out.2, HE2.out]), HS⟩
          case measure => simp [intOf]; omega
        · have h1 : (x != y) = true := by simp [he]
          go_wp2
          go_ret
          refine ⟨retB (Eq.symm (decide_eq_false ?_)), HS⟩
          rintro rfl
          exact he (HE.out.1.symm.trans HE.out.2)
      · go_wp2
        go_ret
        refine ⟨retB (Eq.symm (decide_eq_true ?_)), HS⟩
        have hT := HT.out
        have := HL.out
        rwa [List.take_of_length_le (by omega), List.take_of_length_le (by omega)] at hT

set_option maxHeartbeats 800000 in
theorem lawsSame_any {w : World} {a b : Value} {xs ys : List Int} (ha : RI w a xs) (hb : RI w b ys) :
    Calls Try.prog 50 #[a, b] w fun e w' => e = .returned (.bool (decide (xs = ys))) ∧ Still w w' := by
  have hlx := ha.lenle
  have hly := hb.lenle
  obtain ⟨A, c, rfl, -, hx⟩ := ha
  obtain ⟨B, d, rfl, -, hy⟩ := hb
  by_cases hl : xs.length ≠ ys.length
  · have h0 : ((xs.length : Int) != ys.length) = true := bne_iff_ne.2 (by clear hx hy; omega)
    clear hx hy
    have HL := Lib.hid hl
    clear hl
    go_enter Try.func50, Try.ntmps50
    go_wp2
    go_ret
    exact ⟨retB (Eq.symm (decide_eq_false (by intro h; exact HL.out (by rw [h])))), Still.refl _⟩
  · have hl : xs.length = ys.length := by clear hx hy; omega
    obtain ⟨n, hn⟩ : ∃ n, n = xs.length := ⟨_, rfl⟩
    rw [← hn] at hlx
    rw [← hl, ← hn]
    have HL : Hid (xs.length = ys.length ∧ n = xs.length) := ⟨hl, hn⟩
    have HX := Lib.hid hx
    have HY := Lib.hid hy
    clear hl hn hx hy hly
    have h0 : ((n : Int) != n) = false := by simp
    go_enter Try.func50, Try.ntmps50
    go_wp2
    go_loopw [14] (fun i wr => ∃ k : Nat, k ≤ n ∧ i = .int .i64 k ∧ Hid (xs.take k = ys.take k) ∧ Still w wr) (fun i _ => n - (intOf i).toNat)
    case atStart => exact ⟨0, Nat.zero_le _, rfl, by simp [Hid], Still.refl _⟩
    case round =>
      obtain ⟨k, hk, rfl, HT, HS⟩ := hrel
      by_cases hlt : k < n
      · obtain ⟨b1, o1, rfl, hb1, hc1⟩ := HX.out (by have := HL.out; omega)
        obtain ⟨b2, o2, rfl, hb2, hc2⟩ := HY.out (by have := HL.out; omega)
        have c1 := (HS.cell _).trans (hc1 k (by have := HL.out; omega))
        have c2 := (HS.cell _).trans (hc2 k (by have := HL.out; omega))
        generalize hx : xs.getD k 0 = x at c1
        generalize hy : ys.getD k 0 = y at c2
        have HE : Hid (xs.getD k 0 = x ∧ ys.getD k 0 = y) := ⟨hx, hy⟩
        clear hc1 hc2 hx hy
        by_cases he : x = y
        · have h1 : (x != y) = false := by simp [he]
          have HE2 := Lib.hid he
          clear he
          go_wp2
          go_roundw
          case rel => exact ⟨k + 1, by omega, by go_num, take_eq_succ (by have := HL.out; omega) HL.out.1 HT.out (by rw [HE.out.1, HE.out.2, HE2.out]), HS⟩
          case measure => simp [intOf]; omega
        · have h1 : (x != y) = true := by simp [he]
          go_wp2
          go_ret
          refine ⟨retB (Eq.symm (decide_eq_false ?_)), HS⟩
          rintro rfl
          exact he (HE.out.1.symm.trans HE.out.2)
      · go_wp2
        go_ret
        refine ⟨retB (Eq.symm (decide_eq_true ?_)), HS⟩
        have hT := HT.out
        have := HL.out
        rwa [List.take_of_length_le (by omega), List.take_of_length_le (by omega)] at hT
end Go.Proofs.Ytfanohebejemmaa
