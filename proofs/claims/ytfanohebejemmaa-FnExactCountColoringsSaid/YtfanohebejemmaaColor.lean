/-
  Powers and CountColorings, of the program and of the reference.
-/
import Derived.Test.YtfanohebejemmaaGroupOkS
import Derived.Test.YtfanohebejemmaaGroupOkI
import Derived.Test.YtfanohebejemmaaGrpFn
import Derived.Test.YtfanohebejemmaaCyc
namespace Go.Proofs.Ytfanohebejemmaa
open Go.RowKit Go.Deep

set_option maxHeartbeats 800000 in
theorem specPower_any {w : World} (k n : Nat) (hk : k ≤ 4) (hn : n ≤ 10) :
    Calls Try.prog 65 #[.int .i64 k, .int .i64 n] w fun e w' => e = .returned (.int .i64 ((k ^ n : Nat) : Int)) ∧ w = w' := by
  go_enter Try.func65, Try.ntmps65
  go_wp2
  go_loop [5, 6] (fun v i => ∃ j t : Nat, j ≤ n ∧ i = .int .i64 j ∧ v = .int .i64 t ∧ t ≤ 1048576 ∧ Hid (t = k ^ j)) (fun _ i => n - (intOf i).toNat)
  case atStart => exact ⟨0, 1, Nat.zero_le _, rfl, rfl, by omega, rfl⟩
  case round =>
    obtain ⟨j, t, hj, rfl, rfl, ht, HT⟩ := hrel
    by_cases hlt : j < n
    · have hb := pow_le_4 hk (n := j + 1) (by omega)
      rw [Nat.pow_succ, ← HT.out] at hb
      have HN : Hid (t * k = k ^ (j + 1)) := by rw [Hid, Nat.pow_succ, HT.out]
      obtain ⟨m, hm⟩ : ∃ m, m = t * k := ⟨_, rfl⟩
      have hm1 : (t : Int) * (k : Int) = (m : Int) := by rw [hm]; simp
      rw [← hm] at HN hb
      have hm2 : 0 ≤ (t : Int) * (k : Int) := by omega
      have hm3 : (t : Int) * (k : Int) ≤ 1048576 := by omega
      clear hm
      have HM := Lib.hid hm1
      clear hm1
      go_wp2
      go_round
      case rel => exact ⟨j + 1, m, by omega, by go_num, by rw [HM.out], hb, HN.out⟩
      case measure => simp [intOf]; omega
    · go_wp2
      go_ret
      obtain rfl : j = n := by omega
      exact ⟨retI (congrArg (fun t : Nat => (t : Int)) HT.out), rfl⟩

set_option maxHeartbeats 800000 in
theorem implPower_any {w : World} (k n : Nat) (hk : k ≤ 4) (hn : n ≤ 10) :
    Calls Try.prog 67 #[.int .i64 k, .int .i64 n] w fun e w' => e = .returned (.int .i64 ((k ^ n : Nat) : Int)) ∧ w = w' := by
  go_enter Try.func67, Try.ntmps67
  go_wp2
  go_loop [5, 7] (fun v i => ∃ j t : Nat, j ≤ n ∧ i = .int .i64 j ∧ v = .int .i64 t ∧ t ≤ 1048576 ∧ Hid (t = k ^ j)) (fun _ i => n - (intOf i).toNat)
  case atStart => exact ⟨0, 1, Nat.zero_le _, rfl, rfl, by omega, rfl⟩
  case round =>
    obtain ⟨j, t, hj, rfl, rfl, ht, HT⟩ := hrel
    by_cases hlt : j < n
    · have hb := pow_le_4 hk (n := j + 1) (by omega)
      rw [Nat.pow_succ, ← HT.out] at hb
      have HN : Hid (t * k = k ^ (j + 1)) := by rw [Hid, Nat.pow_succ, HT.out]
      obtain ⟨m, hm⟩ : ∃ m, m = t * k := ⟨_, rfl⟩
      have hm1 : (t : Int) * (k : Int) = (m : Int) := by rw [hm]; simp
      rw [← hm] at HN hb
      have hm2 : 0 ≤ (t : Int) * (k : Int) := by omega
      have hm3 : (t : Int) * (k : Int) ≤ 1048576 := by omega
      clear hm
      have HM := Lib.hid hm1
      clear hm1
      go_wp2
      go_round
      case rel => exact ⟨j + 1, m, by omega, by go_num, by rw [HM.out], hb, HN.out⟩
      case measure => simp [intOf]; omega
    · go_wp2
      go_ret
      obtain rfl : j = n := by omega
      exact ⟨retI (congrArg (fun t : Nat => (t : Int)) HT.out), rfl⟩

set_option maxHeartbeats 1600000 in
theorem specCountColorings_any {w : World} {a : Value} {gs : List (List Int)} (ha : RII w a gs) (k : Int) :
    Calls Try.prog 32 #[a, .int .i64 k] w fun e w' => e = .returned (.int .i64 (countColorings gs k)) ∧ Below w.heap.size w w' := by
  have HA := Lib.hid ha
  obtain ⟨A, c, rfl, -, hx⟩ := ha
  cases hg : groupOk gs with
  | false =>
    have HC := Lib.hid (countColorings_bad (k := k) (.inl hg))
    have HG := Lib.hid hg
    clear hg hx
    go_enter Try.func32, Try.ntmps32
    go_wp2_with fail
    refine (specGroupOk_any HA.out).mono ?_
    rw [HG.out]
    rintro e w1 ⟨rfl, b1⟩
    go_wp2
    go_ret
    exact ⟨retI HC.out.symm, b1⟩
  | true =>
  have HG := Lib.hid hg
  have HGR := Lib.hid (grp_of hg)
  by_cases hk : k < 0 ∨ 4 < k
  · have HC := Lib.hid (countColorings_bad (g := gs) (.inr hk))
    clear hg hx
    rcases hk with hk | hk
    all_goals
      go_enter Try.func32, Try.ntmps32
      go_wp2_with fail
      refine (specGroupOk_any HA.out).mono ?_
      rw [HG.out]
      rintro e w1 ⟨rfl, b1⟩
      go_wp2_with (go_at_call 53; refine (l01In_no _ _ _ _ (by omega)).mono ?_; rintro e w' ⟨rfl, rfl⟩)
      go_ret
      exact ⟨retI HC.out.symm, b1⟩
  obtain ⟨k, rfl⟩ := Int.eq_ofNat_of_zero_le (show 0 ≤ k by omega)
  have hk4 : k ≤ 4 := by omega
  have HC := Lib.hid (countColorings_ok hg (show (k : Int) ≤ 4 by omega))
  obtain ⟨n, hn⟩ : ∃ n, n = gs.length := ⟨_, rfl⟩
  have h1 : 1 ≤ n := by have := HGR.out.one; omega
  have h2 : n ≤ 120 := by have := HGR.out.le; omega
  rw [← hn] at hx HA ⊢
  have HL := Lib.hid hn
  have HX := Lib.hid hx
  clear hg hn hx hk
  go_enter Try.func32, Try.ntmps32
  go_wp2_with fail
  refine (specGroupOk_any HA.out).mono ?_
  rw [HG.out]
  rintro e w1 ⟨rfl, b⟩
  have B0 := Lib.hid b
  clear b
  go_wp2_with fail
  refine (l01In_yes _ _ _ _ (by omega) (by omega)).mono ?_
  rintro e w0 ⟨rfl, rfl⟩
  go_wp2_with fail
  go_loopw [5, 18] (fun v i wr => ∃ j t : Nat, j ≤ n ∧ i = .int .i64 j ∧ v = .int .i64 t ∧ t ≤ 125829120 ∧ Hid (t = colSum (gs.take j) k) ∧ Hid (Below w.heap.size w wr)) (fun _ i _ => n - (intOf i).toNat)
  case atStart => exact ⟨0, 0, Nat.zero_le _, rfl, rfl, by omega, rfl, B0.out⟩
  case round =>
    obtain ⟨j, t, hj, rfl, rfl, ht, HT, B⟩ := hrel
    by_cases hlt : j < n
    · have hjl : j < gs.length := by have := HL.out; omega
      obtain ⟨b1, o1, rfl, hb1, hc1⟩ := HX.out (by omega)
      obtain ⟨A1, c1, cc1, rr1⟩ := RII.at hc1 (k := j) hlt
      have e1 := (B.out.cell (p := ⟨b1, o1 + j, none⟩) hb1).trans cc1
      obtain ⟨p, hp⟩ : ∃ p, p = gs.getD j [] := ⟨_, rfl⟩
      rw [← hp] at e1 rr1
      have HP := Lib.hid rr1
      obtain ⟨m, hm⟩ : ∃ m, (cyclesOf p).length = m := ⟨_, rfl⟩
      have hm10 : m ≤ 10 := by rw [← hm]; exact cyclesOf_len p
      have HM : Hid (countCycles p = (m : Int)) := by unfold countCycles Hid; rw [hm]
      obtain ⟨z, hz⟩ : ∃ z, k ^ m = z := ⟨_, rfl⟩
      have hz1 : z ≤ 1048576 := by rw [← hz]; exact pow_le_4 hk4 hm10
      have HS : Hid (colSum (gs.take (j + 1)) k = colSum (gs.take j) k + z) := by rw [Hid, colSum_succ hjl, ← hp, hm, hz]
      have HZ := Lib.hid hz
      have hst := colSum_take HGR.out hk4 (j + 1)
      rw [HS.out, ← HT.out] at hst
      have HN : Hid (t + z = colSum (gs.take (j + 1)) k) := by rw [Hid, HS.out, HT.out]
      clear rr1 cc1 hc1 hp hm hz hjl
      go_wp2_with fail
      refine (specCountCycles_any (HP.out.below B.out)).mono ?_
      rw [HM.out]
      rintro e w2 ⟨rfl, b⟩
      have B2 := Lib.hid (bstep B.out b)
      clear b e1
      go_wp2_with fail
      refine (specPower_any k m hk4 hm10).mono ?_
      rw [HZ.out]
      rintro e w3 ⟨rfl, rfl⟩
      go_wp2_with fail
      go_roundw
      case rel => exact ⟨j + 1, t + z, by omega, by go_num, by go_num, hst, HN.out, B2.out⟩
      case measure => simp [intOf]; omega
    · have h3 := HT.out
      rw [List.take_of_length_le (by have := HL.out; omega)] at h3
      have HF : Hid (countColorings gs k = ((t / n : Nat) : Int)) := by rw [Hid, HC.out, h3, HL.out]
      clear h3
      have hd : (t : Int) / (n : Int) = ((t / n : Nat) : Int) := by simp
      have hw : wrap64 ((t / n : Nat) : Int) = ((t / n : Nat) : Int) := by
        have := Nat.div_le_self t n
        generalize t / n = q at *
        have h5 : (0 : Int) ≤ (q : Int) := by omega
        have h6 : (q : Int) < 1000000000 := by omega
        unfold wrap64; omega
      have HW := Lib.hid hw
      clear hw
      have HD := Lib.hid hd
      clear hd
      go_wp2_with fail
      go_ret
      exact ⟨retI (by rw [HF.out, HD.out, HW.out]), B.out⟩

set_option maxHeartbeats 1600000 in
theorem implCountColorings_any {w : World} {a : Value} {gs : List (List Int)} (ha : RII w a gs) (k : Int) :
    Calls Try.prog 33 #[a, .int .i64 k] w fun e w' => e = .returned (.int .i64 (countColorings gs k)) ∧ Below w.heap.size w w' := by
  have HA := Lib.hid ha
  obtain ⟨A, c, rfl, -, hx⟩ := ha
  cases hg : groupOk gs with
  | false =>
    have HC := Lib.hid (countColorings_bad (k := k) (.inl hg))
    have HG := Lib.hid hg
    clear hg hx
    go_enter Try.func33, Try.ntmps33
    go_wp2_with fail
    refine (implGroupOk_any HA.out).mono ?_
    rw [HG.out]
    rintro e w1 ⟨rfl, b1⟩
    go_wp2
    go_ret
    exact ⟨retI HC.out.symm, b1⟩
  | true =>
  have HG := Lib.hid hg
  have HGR := Lib.hid (grp_of hg)
  by_cases hk : k < 0 ∨ 4 < k
  · have HC := Lib.hid (countColorings_bad (g := gs) (.inr hk))
    clear hg hx
    rcases hk with hk | hk
    all_goals
      go_enter Try.func33, Try.ntmps33
      go_wp2_with fail
      refine (implGroupOk_any HA.out).mono ?_
      rw [HG.out]
      rintro e w1 ⟨rfl, b1⟩
      go_wp2
      go_ret
      exact ⟨retI HC.out.symm, b1⟩
  obtain ⟨k, rfl⟩ := Int.eq_ofNat_of_zero_le (show 0 ≤ k by omega)
  have hk4 : k ≤ 4 := by omega
  have HC := Lib.hid (countColorings_ok hg (show (k : Int) ≤ 4 by omega))
  obtain ⟨n, hn⟩ : ∃ n, n = gs.length := ⟨_, rfl⟩
  have h1 : 1 ≤ n := by have := HGR.out.one; omega
  have h2 : n ≤ 120 := by have := HGR.out.le; omega
  rw [← hn] at hx HA ⊢
  have HL := Lib.hid hn
  have HX := Lib.hid hx
  clear hg hn hx hk
  go_enter Try.func33, Try.ntmps33
  go_wp2_with fail
  refine (implGroupOk_any HA.out).mono ?_
  rw [HG.out]
  rintro e w1 ⟨rfl, b⟩
  have B0 := Lib.hid b
  clear b
  go_wp2_with fail
  go_loopw [5, 21] (fun v i wr => ∃ j t : Nat, j ≤ n ∧ i = .int .i64 j ∧ v = .int .i64 t ∧ t ≤ 125829120 ∧ Hid (t = colSum (gs.take j) k) ∧ Hid (Below w.heap.size w wr)) (fun _ i _ => n - (intOf i).toNat)
  case atStart => exact ⟨0, 0, Nat.zero_le _, rfl, rfl, by omega, rfl, B0.out⟩
  case round =>
    obtain ⟨j, t, hj, rfl, rfl, ht, HT, B⟩ := hrel
    by_cases hlt : j < n
    · have hjl : j < gs.length := by have := HL.out; omega
      obtain ⟨b1, o1, rfl, hb1, hc1⟩ := HX.out (by omega)
      obtain ⟨A1, c1, cc1, rr1⟩ := RII.at hc1 (k := j) hlt
      have e1 := (B.out.cell (p := ⟨b1, o1 + j, none⟩) hb1).trans cc1
      obtain ⟨p, hp⟩ : ∃ p, p = gs.getD j [] := ⟨_, rfl⟩
      rw [← hp] at e1 rr1
      have HP := Lib.hid rr1
      obtain ⟨m, hm⟩ : ∃ m, (cyclesOf p).length = m := ⟨_, rfl⟩
      have hm10 : m ≤ 10 := by rw [← hm]; exact cyclesOf_len p
      have HM : Hid (countCycles p = (m : Int)) := by unfold countCycles Hid; rw [hm]
      obtain ⟨z, hz⟩ : ∃ z, k ^ m = z := ⟨_, rfl⟩
      have hz1 : z ≤ 1048576 := by rw [← hz]; exact pow_le_4 hk4 hm10
      have HS : Hid (colSum (gs.take (j + 1)) k = colSum (gs.take j) k + z) := by rw [Hid, colSum_succ hjl, ← hp, hm, hz]
      have HZ := Lib.hid hz
      have hst := colSum_take HGR.out hk4 (j + 1)
      rw [HS.out, ← HT.out] at hst
      have HN : Hid (t + z = colSum (gs.take (j + 1)) k) := by rw [Hid, HS.out, HT.out]
      clear rr1 cc1 hc1 hp hm hz hjl
      go_wp2_with fail
      refine (implCountCycles_any (HP.out.below B.out)).mono ?_
      rw [HM.out]
      rintro e w2 ⟨rfl, b⟩
      have B2 := Lib.hid (bstep B.out b)
      clear b e1
      go_wp2_with fail
      refine (implPower_any k m hk4 hm10).mono ?_
      rw [HZ.out]
      rintro e w3 ⟨rfl, rfl⟩
      go_wp2_with fail
      go_roundw
      case rel => exact ⟨j + 1, t + z, by omega, by go_num, by go_num, hst, HN.out, B2.out⟩
      case measure => simp [intOf]; omega
    · have h3 := HT.out
      rw [List.take_of_length_le (by have := HL.out; omega)] at h3
      have HF : Hid (countColorings gs k = ((t / n : Nat) : Int)) := by rw [Hid, HC.out, h3, HL.out]
      clear h3
      have hd : (t : Int) / (n : Int) = ((t / n : Nat) : Int) := by simp
      have hw : wrap64 ((t / n : Nat) : Int) = ((t / n : Nat) : Int) := by
        have := Nat.div_le_self t n
        generalize t / n = q at *
        have h5 : (0 : Int) ≤ (q : Int) := by omega
        have h6 : (q : Int) < 1000000000 := by omega
        unfold wrap64; omega
      have HW := Lib.hid hw
      clear hw
      have HD := Lib.hid hd
      clear hd
      go_wp2_with fail
      go_ret
      exact ⟨retI (by rw [HF.out, HD.out, HW.out]), B.out⟩
end Go.Proofs.Ytfanohebejemmaa
