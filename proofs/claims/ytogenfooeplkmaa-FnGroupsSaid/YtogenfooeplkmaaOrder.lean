/-
  OrderOf, of the program and of the reference.
-/
import Derived.Test.YtogenfooeplkmaaOrderFn
import Derived.Test.YtogenfooeplkmaaPower
import Derived.Test.YtogenfooeplkmaaCycType
import Derived.Test.YtogenfooeplkmaaCyc
import Derived.Test.YtogenfooeplkmaaSame
namespace Go.Proofs.Ytogenfooeplkmaa
open Go.RowKit Go.Deep

set_option maxHeartbeats 800000 in
theorem implOrderOf_any {w : World} {a : Value} {p : List Int} (ha : RI w a p) :
    Calls Try.prog 36 #[a] w fun e w' => e = .returned (.int .i64 (orderOf p : Int)) ∧ Below w.heap.size w w' := by
  have HA := Lib.hid ha
  obtain ⟨A, c, rfl, -⟩ := ha
  cases hp : permOk p with
  | false =>
    have HC := Lib.hid (orderOf_no hp)
    have HP := Lib.hid hp
    clear hp
    go_enter Try.func36, Try.ntmps36
    go_wp2_with fail
    refine (implPermOk_any HA.out).mono ?_
    rw [HP.out]
    rintro e w1 ⟨rfl, b1⟩
    go_wp2
    go_ret
    exact ⟨retI (by rw [HC.out]; rfl), b1⟩
  | true =>
  have HP := Lib.hid hp
  obtain ⟨n, hn⟩ : ∃ n, n = p.length := ⟨_, rfl⟩
  have hln := permOk_le hp
  rw [← hn] at HA hln ⊢
  obtain ⟨hn1, hn10⟩ := hln
  have HL := Lib.hid hn
  have HI : Hid (identityPerm (n : Int) = identity n) := by unfold identityPerm Hid; rw [if_pos (by omega), Int.toNat_natCast]
  obtain ⟨m, hm⟩ : ∃ m, m = orderOf p := ⟨_, rfl⟩
  have hmb := order_bound hp
  rw [← hm] at hmb ⊢
  obtain ⟨hm1, hm2⟩ := hmb
  have HM := Lib.hid hm
  clear hp hn hm
  go_enter Try.func36, Try.ntmps36
  go_wp2_with fail
  refine (implPermOk_any HA.out).mono ?_
  rw [HP.out]
  rintro e w1 ⟨rfl, b1⟩
  have HB1 := Lib.hid b1
  clear b1
  go_wp2_with fail
  refine (implIdentityPerm_any (n : Int)).mono ?_
  rw [HI.out]
  rintro e w2 ⟨v, rfl, o2, b2⟩
  obtain ⟨AI, ci, rfl, -⟩ := OI.form o2
  have HB2 : Hid (Below w.heap.size w w2) := bstep HB1.out b2
  have HO := Lib.hid o2
  clear o2 b2
  go_wp2_with fail
  go_loopw [4, 5] (fun i v wr => ∃ k : Nat, 1 ≤ k ∧ k ≤ m ∧ i = .int .i64 k ∧ Hid (RI wr v (powTo p k) ∧ Below w2.heap.size w2 wr)) (fun i _ _ => m - (intOf i).toNat)
  case atStart => exact ⟨1, by omega, hm1, rfl, by rw [powTo_one]; rw [HL.out] at HA ⊢; exact HA.out.below HB2.out, Below.refl _ _⟩
  case round =>
    obtain ⟨k, hk1, hkm, rfl, HR⟩ := hrel
    obtain ⟨A3, c3, hv⟩ := RI.shape HR.out.1
    subst hv
    have HF : Hid (decide (powTo p k = identity n) = decide (k = m)) := by
      rw [Hid, decide_eq_decide, HL.out, HM.out]
      exact order_first HP.out hk1 (by rw [← HM.out]; exact hkm)
    by_cases hlt : k < m
    · have hd : decide (k = m) = false := decide_eq_false (by omega)
      rw [hd] at HF
      clear hd
      go_wp2_with fail
      refine (slicesEqual_any HR.out.1 ((OI.step HO.out HR.out.2).reads)).mono ?_
      rw [HF.out]
      rintro e w3 ⟨rfl, st⟩
      have HS : Hid (RI w3 (.slice A3 (powTo p k).length c3) (powTo p k) ∧ Below w2.heap.size w2 w3) := ⟨HR.out.1.below st.below, bstep HR.out.2 st.below⟩
      clear st
      go_wp2_with fail
      refine (compose_any HS.out.1 (HA.out.below (bstep HB2.out HS.out.2)) (by rw [powTo_len, ← HL.out]; omega) (powTo_mem HP.out k)).mono ?_
      rintro e w4 ⟨v4, rfl, o4, b4⟩
      have HN : Hid (RI w4 v4 (powTo p (k + 1)) ∧ Below w2.heap.size w2 w4) := ⟨o4.reads, bstep HS.out.2 b4⟩
      clear o4 b4
      go_wp2_with fail
      go_roundw
      case rel => exact ⟨k + 1, by omega, by omega, by go_num, HN.out⟩
      case measure => simp [intOf]; omega
    · have hd : decide (k = m) = true := decide_eq_true (by omega)
      rw [hd] at HF
      clear hd
      obtain rfl : k = m := by omega
      go_wp2_with fail
      refine (slicesEqual_any HR.out.1 ((OI.step HO.out HR.out.2).reads)).mono ?_
      rw [HF.out]
      rintro e w3 ⟨rfl, st⟩
      have HS : Hid (Below w.heap.size w w3) := bstep HB2.out (bstep HR.out.2 st.below)
      clear st
      go_wp2_with fail
      go_ret
      exact ⟨rfl, HS.out⟩
end Go.Proofs.Ytogenfooeplkmaa
