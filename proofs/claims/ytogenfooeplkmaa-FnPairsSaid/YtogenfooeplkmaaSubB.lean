/-
  SubsetAction and PairAction, of the program and of the reference: the walks.
-/
import Derived.Test.YtogenfooeplkmaaSubA
namespace Go.Proofs.Ytogenfooeplkmaa
open Go.RowKit Go.Deep

set_option maxHeartbeats 1600000 in
theorem implSubsetAction_any {w : World} {a : Value} {p : List Int} (ha : RI w a p) (k : Int) :
    Calls Try.prog 45 #[a, .int .i64 k] w fun e w' => ∃ v, e = .returned (.tuple #[v, .bool (subsetAction p k).2]) ∧ OI w' w.heap.size v (subsetAction p k).1 ∧ Below w.heap.size w w' := by
  have HA := Lib.hid ha
  obtain ⟨A, c, rfl, -, hx⟩ := ha
  have hlx := HA.out.lenle
  clear hx
  cases hp : permOk p with
  | false =>
    have HC := Lib.hid (subsetAction_no (p := p) (k := k) (.inl hp))
    have HP := Lib.hid hp
    clear hp
    go_enter Try.func45, Try.ntmps45
    go_wp2_with fail
    refine (implPermOk_any HA.out).mono ?_
    rw [HP.out]
    rintro e w1 ⟨rfl, b1⟩
    go_wp2
    go_ret2
    exact ⟨_, ret2 (by rw [HC.out]), by rw [HC.out]; exact World.ownsRow_nil _ _ _ _, b1⟩
  | true =>
  have HP := Lib.hid hp
  obtain ⟨n, hn⟩ : ∃ n, n = p.length := ⟨_, rfl⟩
  have h10 : 1 ≤ n ∧ n ≤ 10 := by have := permOk_le hp; omega
  have HL := Lib.hid hn
  rw [← hn] at HA hlx ⊢
  clear hp hn
  by_cases q0 : 5 < n
  · have HC := Lib.hid (subsetAction_no (p := p) (k := k) (.inr (.inl (by have := HL.out; omega))))
    have z0 : decide ((5 : Int) < (n : Int)) = true := decide_eq_true (by omega)
    go_enter Try.func45, Try.ntmps45
    go_wp2_with fail
    refine (implPermOk_any HA.out).mono ?_
    rw [HP.out]
    rintro e w1 ⟨rfl, b⟩
    have BB := Lib.hid b
    clear b
    go_wp2_with fail
    go_ret2
    exact ⟨_, ret2 (by rw [HC.out]), by rw [HC.out]; exact World.ownsRow_nil _ _ _ _, BB.out⟩
  have y0 : decide ((5 : Int) < (n : Int)) = false := decide_eq_false (by omega)
  by_cases q1 : k < 0
  · have HC := Lib.hid (subsetAction_no (p := p) (k := k) (.inr (.inr (.inl (by omega)))))
    go_enter Try.func45, Try.ntmps45
    go_wp2_with fail
    refine (implPermOk_any HA.out).mono ?_
    rw [HP.out]
    rintro e w1 ⟨rfl, b⟩
    have BB := Lib.hid b
    clear b
    go_wp2_with fail
    go_ret2
    exact ⟨_, ret2 (by rw [HC.out]), by rw [HC.out]; exact World.ownsRow_nil _ _ _ _, BB.out⟩
  by_cases q2 : (n : Int) < k
  · have HC := Lib.hid (subsetAction_no (p := p) (k := k) (.inr (.inr (.inr (by have := HL.out; omega)))))
    go_enter Try.func45, Try.ntmps45
    go_wp2_with fail
    refine (implPermOk_any HA.out).mono ?_
    rw [HP.out]
    rintro e w1 ⟨rfl, b⟩
    have BB := Lib.hid b
    clear b
    go_wp2_with fail
    go_ret2
    exact ⟨_, ret2 (by rw [HC.out]), by rw [HC.out]; exact World.ownsRow_nil _ _ _ _, BB.out⟩
  obtain ⟨K, rfl⟩ := Int.eq_ofNat_of_zero_le (show 0 ≤ k by omega)
  have hKn : K ≤ n := by omega
  have y8 : decide ((K : Int) < 0) = false := decide_eq_false (by omega)
  have y9 : decide ((n : Int) < (K : Int)) = false := decide_eq_false (by omega)
  have y7 : decide (n < K) = false := decide_eq_false (by omega)
  have HC := Lib.hid (subsetAction_yes (p := p) (k := K) HP.out (by have := HL.out; omega) (by have := HL.out; omega))
  have HS : Hid (subsetsOf (n : Int) (K : Int) = subs K 0 p.length) := by rw [Hid, subsetsOf_yes h10.1 (by omega) hKn, HL.out]
  have HLS := Lib.hid (lists_subs (p := p) (k := K) HP.out (by have := HL.out; omega) (by have := HL.out; omega))
  clear q1 q2
  go_enter Try.func45, Try.ntmps45
  go_wp2_with fail
  refine (implPermOk_any HA.out).mono ?_
  rw [HP.out]
  rintro e w1 ⟨rfl, b⟩
  have BB := Lib.hid b
  clear b
  go_wp2_with fail
  refine (implSubsetsOf_any (w := w1) (n : Int) (K : Int)).mono ?_
  rw [HS.out]
  rintro e w2 ⟨v2, rfl, o, b⟩
  have HO := Lib.hid (And.intro o (bstep BB.out b))
  obtain ⟨A2, c2, rfl⟩ := o.reads.shape
  clear o b
  go_wp2_with fail
  refine (moved_any HO.out.1.reads (HA.out.below HO.out.2) HLS.out).mono ?_
  rintro e w3 ⟨v3, rfl, o, b⟩
  have HF : Hid (OI w3 w.heap.size v3 _ ∧ Below w.heap.size w w3) := ⟨OI.mono o HO.out.2.size, bstep HO.out.2 b⟩
  obtain ⟨A3, c3, rfl, -⟩ := OI.form o
  clear o b
  go_wp2_with fail
  go_ret2
  exact ⟨_, ret2 (by rw [HC.out]), by rw [HC.out]; exact HF.out.1, HF.out.2⟩

set_option maxHeartbeats 1600000 in
theorem implPairAction_any {w : World} {a : Value} {p : List Int} (ha : RI w a p) :
    Calls Try.prog 50 #[a] w fun e w' => ∃ v, e = .returned (.tuple #[v, .bool (pairAction p).2]) ∧ OI w' w.heap.size v (pairAction p).1 ∧ Below w.heap.size w w' := by
  have HA := Lib.hid ha
  obtain ⟨A, c, rfl, -, hx⟩ := ha
  have hlx := HA.out.lenle
  clear hx
  cases hp : permOk p with
  | false =>
    have HC := Lib.hid (pairAction_no (p := p) (.inl hp))
    have HP := Lib.hid hp
    clear hp
    go_enter Try.func50, Try.ntmps50
    go_wp2_with fail
    refine (implPermOk_any HA.out).mono ?_
    rw [HP.out]
    rintro e w1 ⟨rfl, b1⟩
    go_wp2
    go_ret2
    exact ⟨_, ret2 (by rw [HC.out]), by rw [HC.out]; exact World.ownsRow_nil _ _ _ _, b1⟩
  | true =>
  have HP := Lib.hid hp
  obtain ⟨n, hn⟩ : ∃ n, n = p.length := ⟨_, rfl⟩
  have h10 : 1 ≤ n ∧ n ≤ 10 := by have := permOk_le hp; omega
  have HL := Lib.hid hn
  rw [← hn] at HA hlx ⊢
  clear hp hn
  by_cases q0 : n < 2
  · have HC := Lib.hid (pairAction_no (p := p) (.inr (.inl (by have := HL.out; omega))))
    have z0 : decide ((n : Int) < 2) = true := decide_eq_true (by omega)
    go_enter Try.func50, Try.ntmps50
    go_wp2_with fail
    refine (implPermOk_any HA.out).mono ?_
    rw [HP.out]
    rintro e w1 ⟨rfl, b⟩
    have BB := Lib.hid b
    clear b
    go_wp2_with fail
    go_ret2
    exact ⟨_, ret2 (by rw [HC.out]), by rw [HC.out]; exact World.ownsRow_nil _ _ _ _, BB.out⟩
  have y0 : decide ((n : Int) < 2) = false := decide_eq_false (by omega)
  by_cases q1 : 5 < n
  · have HC := Lib.hid (pairAction_no (p := p) (.inr (.inr (by have := HL.out; omega))))
    have z1 : decide ((5 : Int) < (n : Int)) = true := decide_eq_true (by omega)
    go_enter Try.func50, Try.ntmps50
    go_wp2_with fail
    refine (implPermOk_any HA.out).mono ?_
    rw [HP.out]
    rintro e w1 ⟨rfl, b⟩
    have BB := Lib.hid b
    clear b
    go_wp2_with fail
    go_ret2
    exact ⟨_, ret2 (by rw [HC.out]), by rw [HC.out]; exact World.ownsRow_nil _ _ _ _, BB.out⟩
  have y1 : decide ((5 : Int) < (n : Int)) = false := decide_eq_false (by omega)
  have HC := Lib.hid (pairAction_yes (p := p) HP.out (by have := HL.out; omega) (by have := HL.out; omega))
  have HS : Hid (pairsOf (n : Int) = subs 2 0 p.length) := by rw [Hid, pairsOf_yes (by omega) (by omega), HL.out]
  have HLS := Lib.hid (lists_subs (p := p) (k := 2) HP.out (by have := HL.out; omega) (by have := HL.out; omega))
  go_enter Try.func50, Try.ntmps50
  go_wp2_with fail
  refine (implPermOk_any HA.out).mono ?_
  rw [HP.out]
  rintro e w1 ⟨rfl, b⟩
  have BB := Lib.hid b
  clear b
  go_wp2_with fail
  refine (implPairsOf_any (w := w1) (n : Int)).mono ?_
  rw [HS.out]
  rintro e w2 ⟨v2, rfl, o, b⟩
  have HO := Lib.hid (And.intro o (bstep BB.out b))
  obtain ⟨A2, c2, rfl⟩ := o.reads.shape
  clear o b
  go_wp2_with fail
  refine (moved_any HO.out.1.reads (HA.out.below HO.out.2) HLS.out).mono ?_
  rintro e w3 ⟨v3, rfl, o, b⟩
  have HF : Hid (OI w3 w.heap.size v3 _ ∧ Below w.heap.size w w3) := ⟨OI.mono o HO.out.2.size, bstep HO.out.2 b⟩
  obtain ⟨A3, c3, rfl, -⟩ := OI.form o
  clear o b
  go_wp2_with fail
  go_ret2
  exact ⟨_, ret2 (by rw [HC.out]), by rw [HC.out]; exact HF.out.1, HF.out.2⟩

end Go.Proofs.Ytogenfooeplkmaa
