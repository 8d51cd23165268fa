/-
  OrderOf, of the program and of the reference.
-/
import Derived.Test.YtmgighhdkgcigaaOrderFn
import Derived.Test.YtmgighhdkgcigaaPower
import Derived.Test.YtmgighhdkgcigaaCycType
import Derived.Test.YtmgighhdkgcigaaCyc
import Derived.Test.YtmgighhdkgcigaaSame
namespace Go.Proofs.Ytmgighhdkgcigaa
open Go.RowKit Go.Deep

set_option maxHeartbeats 800000 in
theorem l02Gcd_any {w : World} (a b : Nat) (ha : a ≤ 1048576) (hb : b ≤ 1048576) :
    Calls Try.prog 53 #[.int .i64 (a : Int), .int .i64 (b : Int)] w fun e w' => e = .returned (.int .i64 ((Nat.gcd a b : Nat) : Int)) ∧ w = w' := by
  go_enter Try.func53, Try.ntmps53
  go_wp2
  go_loop [0, 1] (fun x y => ∃ i j : Nat, i ≤ 1048576 ∧ j ≤ 1048576 ∧ x = .int .i64 i ∧ y = .int .i64 j ∧ Hid (Nat.gcd i j = Nat.gcd a b)) (fun _ y => (intOf y).toNat)
  case atStart => exact ⟨a, b, ha, hb, rfl, rfl, rfl⟩
  case round =>
    obtain ⟨i, j, hi, hj, rfl, rfl, HG⟩ := hrel
    by_cases h0 : 0 < j
    · have h1 : (0 : Int) < j := by omega
      have hz : ((j : Int) == 0) = false := by simp; omega
      have hm : (i : Int).tmod (j : Int) = ((i % j : Nat) : Int) := rfl
      have hlt : i % j < j := Nat.mod_lt _ h0
      have HN : Hid (Nat.gcd j (i % j) = Nat.gcd a b) := by
        rw [Hid, ← HG.out, Nat.gcd_comm j, ← Nat.gcd_rec, Nat.gcd_comm]
      generalize i % j = r at *
      go_wp2
      go_round
      case rel => exact ⟨j, r, hj, by omega, rfl, rfl, HN⟩
      case measure => simp [intOf]; omega
    · have h1 : ¬ (0 : Int) < j := by omega
      obtain rfl : j = 0 := by omega
      have HE : Hid (i = Nat.gcd a b) := by rw [Hid, ← HG.out, Nat.gcd_zero_right]
      go_wp2
      go_ret
      exact ⟨retI (congrArg (fun n : Nat => (n : Int)) HE.out), rfl⟩

set_option maxHeartbeats 800000 in
theorem specOrderOf_any {w : World} {a : Value} {p : List Int} (ha : RI w a p) :
    Calls Try.prog 24 #[a] w fun e w' => e = .returned (.int .i64 (orderOf p : Int)) ∧ Below w.heap.size w w' := by
  have HA := Lib.hid ha
  obtain ⟨A, c, rfl, -⟩ := ha
  cases hp : permOk p with
  | false =>
    have HC := Lib.hid (orderOf_no hp)
    have HP := Lib.hid hp
    clear hp
    go_enter Try.func24, Try.ntmps24
    go_wp2_with fail
    refine (specPermOk_any HA.out).mono ?_
    rw [HP.out]
    rintro e w1 ⟨rfl, b1⟩
    go_wp2
    go_ret
    exact ⟨retI (by rw [HC.out]; rfl), b1⟩
  | true =>
  have HP := Lib.hid hp
  have HC := Lib.hid (orderOf_yes hp)
  obtain ⟨n, hn⟩ : ∃ n, n = p.length := ⟨_, rfl⟩
  rw [← hn] at HA ⊢
  have HL := Lib.hid hn
  obtain ⟨nc, hnc⟩ : ∃ nc, nc = (cyclesOf p).length := ⟨_, rfl⟩
  have hnc10 : nc ≤ 10 := by have := cyclesOf_len p; omega
  have HNC := Lib.hid hnc
  clear hp hn hnc
  go_enter Try.func24, Try.ntmps24
  go_wp2_with fail
  refine (specPermOk_any HA.out).mono ?_
  rw [HP.out]
  rintro e w1 ⟨rfl, b1⟩
  have HB1 := Lib.hid b1
  clear b1
  go_wp2_with fail
  refine (specCyclesOf_any (HA.out.below HB1.out)).mono ?_
  rintro e w3 ⟨vc, rfl, o3, b3⟩
  have hr3 := o3.reads
  have H3 : Hid (Below w.heap.size w w3) := bstep HB1.out b3
  obtain ⟨AC, cc, hvc, -, hxc⟩ := hr3
  subst hvc
  rw [← HNC.out] at hxc ⊢
  have HX := Lib.hid hxc
  clear o3 b3 hxc
  go_wp2_with fail
  go_loopw [3, 12] (fun v i wr => ∃ j a : Nat, j ≤ nc ∧ i = .int .i64 j ∧ v = .int .i64 a ∧ 1 ≤ a ∧ a ≤ 1024 ∧ Hid (a = lcmL ((cyclesOf p).take j) ∧ wr = w3)) (fun _ i _ => nc - (intOf i).toNat)
  case atStart => exact ⟨0, 1, Nat.zero_le _, rfl, rfl, by omega, by omega, by rw [List.take_zero]; rfl, rfl⟩
  case round =>
    obtain ⟨j, a, hj, rfl, rfl, ha1, ha2, HR⟩ := hrel
    obtain ⟨hR1, rfl⟩ := HR.out
    by_cases hlt : j < nc
    · have hjl : j < (cyclesOf p).length := by have := HNC.out; omega
      obtain ⟨b1, o1, rfl, hb1, hc1⟩ := HX.out (by omega)
      obtain ⟨u, cu, ru⟩ := hc1 j hlt
      obtain ⟨cy, hcy⟩ : ∃ cy, cy = (cyclesOf p).getD j [] := ⟨_, rfl⟩
      rw [← hcy] at ru
      have hcm := cyclesOf_ne HP.out cy (by rw [hcy]; simp [List.getElem?_eq_getElem hjl])
      obtain ⟨A1, c1', hu, -⟩ := ru
      subst hu
      have hn := lcm_take HP.out (j + 1)
      rw [takeS_succ' hjl, ← hcy, lcmL_snoc, ← hR1] at hn
      have HN : Hid (lcmStep a cy = lcmL ((cyclesOf p).take (j + 1))) := by rw [Hid, takeS_succ' hjl, ← hcy, lcmL_snoc, ← hR1]
      obtain ⟨l, hl⟩ : ∃ l, l = cy.length := ⟨_, rfl⟩
      rw [← hl] at cu hcm
      have hl10 : l ≤ 10 := by have := permOk_le HP.out; omega
      have hg := l02Gcd_any (w := wr) a l (by omega) (by omega)
      obtain ⟨g, hgd⟩ : ∃ g, g = Nat.gcd a l := ⟨_, rfl⟩
      rw [← hgd] at hg
      have hgp : 1 ≤ g := by rw [hgd]; exact Nat.gcd_pos_of_pos_left _ (by omega)
      have hdiv : (a : Int).tdiv (g : Int) = ((a / g : Nat) : Int) := rfl
      have hz : ((g : Int) == 0) = false := by simp; omega
      obtain ⟨d, hd⟩ : ∃ d, d = a / g := ⟨_, rfl⟩
      rw [← hd] at hdiv
      obtain ⟨r, hr⟩ : ∃ r, r = lcmStep a cy := ⟨_, rfl⟩
      rw [← hr] at HN hn
      have hmul : (d : Int) * (l : Int) = (r : Int) := by rw [hr, hd, hgd, hl]; unfold lcmStep; simp
      have hd2 : d ≤ 1024 := by rw [hd]; exact Nat.le_trans (Nat.div_le_self _ _) ha2
      obtain ⟨hn1, hn2⟩ := hn
      have hm2 : 0 ≤ (d : Int) * (l : Int) := by omega
      have hm3 : (d : Int) * (l : Int) ≤ 1048576 := by omega
      have HM := Lib.hid hmul
      have HG := Lib.hid hg
      clear hmul hg hc1 hcy hR1 HR hgd hd hr hl
      go_wp2_with fail
      refine HG.out.mono ?_
      rintro e w' ⟨rfl, rfl⟩
      go_wp2_with fail
      go_roundw
      case rel => exact ⟨j + 1, r, by omega, by go_num, by rw [HM.out], hn1, hn2, HN.out, by first | rfl | trivial⟩
      case measure => simp [intOf]; omega
    · have hE : Hid ((a : Int) = (orderOf p : Int)) := by
        rw [Hid, HC.out, hR1, List.take_of_length_le (by have := HNC.out; omega)]
      clear hR1 HR
      go_wp2_with fail
      go_ret
      exact ⟨retI hE.out, H3.out⟩

set_option maxHeartbeats 800000 in
theorem implOrderOf_any {w : World} {a : Value} {p : List Int} (ha : RI w a p) :
    Calls Try.prog 25 #[a] w fun e w' => e = .returned (.int .i64 (orderOf p : Int)) ∧ Below w.heap.size w w' := by
  have HA := Lib.hid ha
  obtain ⟨A, c, rfl, -⟩ := ha
  cases hp : permOk p with
  | false =>
    have HC := Lib.hid (orderOf_no hp)
    have HP := Lib.hid hp
    clear hp
    go_enter Try.func25, Try.ntmps25
    go_wp2_with fail
    refine (implPermOk_any HA.out).mono ?_
    rw [HP.out]
    rintro e w1 ⟨rfl, b1⟩
    go_wp2
    go_ret
    exact ⟨retI (by rw [HC.out]; rfl), b1⟩
  | true =>
  have HP := Lib.hid hp
  obtain ⟨n, hn⟩ : ∃ n, n = p.length := ⟨_, rfl⟩
  have hln := permOk_le hp
  rw [← hn] at HA hln ⊢
  obtain ⟨hn1, hn10⟩ := hln
  have HL := Lib.hid hn
  have HI : Hid (identityPerm (n : Int) = identity n) := by unfold identityPerm Hid; rw [if_pos (by omega), Int.toNat_natCast]
  obtain ⟨m, hm⟩ : ∃ m, m = orderOf p := ⟨_, rfl⟩
  have hmb := order_bound hp
  rw [← hm] at hmb ⊢
  obtain ⟨hm1, hm2⟩ := hmb
  have HM := Lib.hid hm
  clear hp hn hm
  go_enter Try.func25, Try.ntmps25
  go_wp2_with fail
  refine (implPermOk_any HA.out).mono ?_
  rw [HP.out]
  rintro e w1 ⟨rfl, b1⟩
  have HB1 := Lib.hid b1
  clear b1
  go_wp2_with fail
  refine (implIdentityPerm_any (n : Int)).mono ?_
  rw [HI.out]
  rintro e w2 ⟨v, rfl, o2, b2⟩
  obtain ⟨AI, ci, rfl, -⟩ := OI.form o2
  have HB2 : Hid (Below w.heap.size w w2) := bstep HB1.out b2
  have HO := Lib.hid o2
  clear o2 b2
  go_wp2_with fail
  go_loopw [4, 5] (fun i v wr => ∃ k : Nat, 1 ≤ k ∧ k ≤ m ∧ i = .int .i64 k ∧ Hid (RI wr v (powTo p k) ∧ Below w2.heap.size w2 wr)) (fun i _ _ => m - (intOf i).toNat)
  case atStart => exact ⟨1, by omega, hm1, rfl, by rw [powTo_one]; rw [HL.out] at HA ⊢; exact HA.out.below HB2.out, Below.refl _ _⟩
  case round =>
    obtain ⟨k, hk1, hkm, rfl, HR⟩ := hrel
    obtain ⟨A3, c3, hv⟩ := RI.shape HR.out.1
    subst hv
    have HF : Hid (decide (powTo p k = identity n) = decide (k = m)) := by
      rw [Hid, decide_eq_decide, HL.out, HM.out]
      exact order_first HP.out hk1 (by rw [← HM.out]; exact hkm)
    by_cases hlt : k < m
    · have hd : decide (k = m) = false := decide_eq_false (by omega)
      rw [hd] at HF
      clear hd
      go_wp2_with fail
      refine (slicesEqual_any HR.out.1 ((OI.step HO.out HR.out.2).reads)).mono ?_
      rw [HF.out]
      rintro e w3 ⟨rfl, st⟩
      have HS : Hid (RI w3 (.slice A3 (powTo p k).length c3) (powTo p k) ∧ Below w2.heap.size w2 w3) := ⟨HR.out.1.below st.below, bstep HR.out.2 st.below⟩
      clear st
      go_wp2_with fail
      refine (compose_any HS.out.1 (HA.out.below (bstep HB2.out HS.out.2)) (by rw [powTo_len, ← HL.out]; omega) (powTo_mem HP.out k)).mono ?_
      rintro e w4 ⟨v4, rfl, o4, b4⟩
      have HN : Hid (RI w4 v4 (powTo p (k + 1)) ∧ Below w2.heap.size w2 w4) := ⟨o4.reads, bstep HS.out.2 b4⟩
      clear o4 b4
      go_wp2_with fail
      go_roundw
      case rel => exact ⟨k + 1, by omega, by omega, by go_num, HN.out⟩
      case measure => simp [intOf]; omega
    · have hd : decide (k = m) = true := decide_eq_true (by omega)
      rw [hd] at HF
      clear hd
      obtain rfl : k = m := by omega
      go_wp2_with fail
      refine (slicesEqual_any HR.out.1 ((OI.step HO.out HR.out.2).reads)).mono ?_
      rw [HF.out]
      rintro e w3 ⟨rfl, st⟩
      have HS : Hid (Below w.heap.size w w3) := bstep HB2.out (bstep HR.out.2 st.below)
      clear st
      go_wp2_with fail
      go_ret
      exact ⟨rfl, HS.out⟩
end Go.Proofs.Ytmgighhdkgcigaa
