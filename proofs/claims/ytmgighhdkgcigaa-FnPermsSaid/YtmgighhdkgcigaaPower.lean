/-
  PowerPerm, of the program and of the reference.
-/
import Derived.Test.YtmgighhdkgcigaaPerm1
import Derived.Test.YtmgighhdkgcigaaActFn
namespace Go.Proofs.Ytmgighhdkgcigaa
open Go.RowKit Go.Deep

set_option maxHeartbeats 800000 in
theorem specPowerPerm_any {w : World} {a : Value} {p : List Int} (ha : RI w a p) (k : Int) :
    Calls Try.prog 18 #[a, .int .i64 k] w fun e w' => ∃ v, e = .returned (.tuple #[v, .bool (powerPerm p k).2]) ∧ OI w' w.heap.size v (powerPerm p k).1 ∧ Below w.heap.size w w' := by
  have HA := Lib.hid ha
  obtain ⟨A, c, rfl, -⟩ := ha
  cases hp : permOk p with
  | false =>
    have HC := Lib.hid (powerPerm_no (k := k) (.inl hp))
    have HP := Lib.hid hp
    clear hp
    go_enter Try.func18, Try.ntmps18
    go_wp2_with fail
    refine (specPermOk_any HA.out).mono ?_
    rw [HP.out]
    rintro e w1 ⟨rfl, b1⟩
    go_wp2
    go_ret2
    exact ⟨_, ret2 (by rw [HC.out]), by rw [HC.out]; exact World.ownsRow_nil _ _ _ _, b1⟩
  | true =>
  have HP := Lib.hid hp
  by_cases hk : k < 0 ∨ 1000 < k
  · have HC := Lib.hid (powerPerm_no (p := p) (.inr hk))
    clear hp
    rcases hk with hk | hk
    all_goals
      go_enter Try.func18, Try.ntmps18
      go_wp2_with fail
      refine (specPermOk_any HA.out).mono ?_
      rw [HP.out]
      rintro e w1 ⟨rfl, b1⟩
      have HB1 := Lib.hid b1
      clear b1
      go_wp2_with (go_at_call 47; refine (l01In_no _ _ _ _ (by omega)).mono ?_; rintro e w' ⟨rfl, rfl⟩)
      go_ret2
      exact ⟨_, ret2 (by rw [HC.out]), by rw [HC.out]; exact World.ownsRow_nil _ _ _ _, HB1.out⟩
  have h0 : 0 ≤ k := by omega
  have h1 : k ≤ 1000 := by omega
  obtain ⟨n, hn⟩ : ∃ n, n = p.length := ⟨_, rfl⟩
  have HC := Lib.hid (powerPerm_yes hp h0 h1)
  have hln := permOk_le hp
  obtain ⟨m, rfl⟩ := Int.eq_ofNat_of_zero_le h0
  rw [← hn] at HA hln ⊢
  obtain ⟨hn1, hn10⟩ := hln
  have HL := Lib.hid hn
  have HI : Hid (identityPerm (n : Int) = identity n) := by unfold identityPerm Hid; rw [if_pos (by omega), Int.toNat_natCast]
  clear hp hk hn
  go_enter Try.func18, Try.ntmps18
  go_wp2_with fail
  refine (specPermOk_any HA.out).mono ?_
  rw [HP.out]
  rintro e w1 ⟨rfl, b1⟩
  have HB1 := Lib.hid b1
  clear b1
  go_wp2_with fail
  refine (l01In_yes _ _ _ _ (by omega) (by omega)).mono ?_
  rintro e w1' ⟨rfl, rfl⟩
  go_wp2_with fail
  refine (specIdentityPerm_any (n : Int)).mono ?_
  rw [HI.out]
  rintro e w2 ⟨v, rfl, o2, b2⟩
  have H0 := Lib.hid (And.intro (OI.mono o2 HB1.out.size) (bstep HB1.out b2))
  clear o2 b2
  go_wp2_with fail
  go_loopw [6, 7] (fun v i wr => ∃ j : Nat, j ≤ m ∧ i = .int .i64 j ∧ Hid (OI wr w.heap.size v (powTo p j) ∧ Below w.heap.size w wr)) (fun _ i _ => m - (intOf i).toNat)
  case atStart => exact ⟨0, Nat.zero_le _, rfl, by unfold powTo; rw [← HL.out]; exact H0.out.1, H0.out.2⟩
  case round =>
    obtain ⟨j, hj, rfl, HR⟩ := hrel
    by_cases hlt : j < m
    · go_wp2_with fail
      refine (l02Compose_any HR.out.1.reads (HA.out.below HR.out.2) (by rw [powTo_len, ← HL.out]; omega) (powTo_mem HP.out j)).mono ?_
      rintro e w3 ⟨v3, rfl, o3, b3⟩
      have HN := Lib.hid (And.intro (OI.mono o3 HR.out.2.size) (bstep HR.out.2 b3))
      clear o3 b3
      go_wp2_with fail
      go_roundw
      case rel => exact ⟨j + 1, by omega, by go_num, HN.out⟩
      case measure => simp [intOf]; omega
    · go_wp2_with fail
      go_ret2
      obtain rfl : j = m := by omega
      exact ⟨_, ret2 (by rw [HC.out]), by rw [HC.out]; exact HR.out.1, HR.out.2⟩

set_option maxHeartbeats 800000 in
theorem implPowerPerm_any {w : World} {a : Value} {p : List Int} (ha : RI w a p) (k : Int) :
    Calls Try.prog 19 #[a, .int .i64 k] w fun e w' => ∃ v, e = .returned (.tuple #[v, .bool (powerPerm p k).2]) ∧ OI w' w.heap.size v (powerPerm p k).1 ∧ Below w.heap.size w w' := by
  have HA := Lib.hid ha
  obtain ⟨A, c, rfl, -⟩ := ha
  cases hp : permOk p with
  | false =>
    have HC := Lib.hid (powerPerm_no (k := k) (.inl hp))
    have HP := Lib.hid hp
    clear hp
    go_enter Try.func19, Try.ntmps19
    go_wp2_with fail
    refine (implPermOk_any HA.out).mono ?_
    rw [HP.out]
    rintro e w1 ⟨rfl, b1⟩
    go_wp2
    go_ret2
    exact ⟨_, ret2 (by rw [HC.out]), by rw [HC.out]; exact World.ownsRow_nil _ _ _ _, b1⟩
  | true =>
  have HP := Lib.hid hp
  by_cases hk : k < 0 ∨ 1000 < k
  · have HC := Lib.hid (powerPerm_no (p := p) (.inr hk))
    clear hp
    rcases hk with hk | hk
    all_goals
      go_enter Try.func19, Try.ntmps19
      go_wp2_with fail
      refine (implPermOk_any HA.out).mono ?_
      rw [HP.out]
      rintro e w1 ⟨rfl, b1⟩
      have HB1 := Lib.hid b1
      clear b1
      go_wp2
      go_ret2
      exact ⟨_, ret2 (by rw [HC.out]), by rw [HC.out]; exact World.ownsRow_nil _ _ _ _, HB1.out⟩
  have h0 : 0 ≤ k := by omega
  have h1 : k ≤ 1000 := by omega
  obtain ⟨n, hn⟩ : ∃ n, n = p.length := ⟨_, rfl⟩
  have HC := Lib.hid (powerPerm_yes hp h0 h1)
  have hln := permOk_le hp
  obtain ⟨m, rfl⟩ := Int.eq_ofNat_of_zero_le h0
  rw [← hn] at HA hln ⊢
  obtain ⟨hn1, hn10⟩ := hln
  have HL := Lib.hid hn
  have HI : Hid (identityPerm (n : Int) = identity n) := by unfold identityPerm Hid; rw [if_pos (by omega), Int.toNat_natCast]
  clear hp hk hn
  go_enter Try.func19, Try.ntmps19
  go_wp2_with fail
  refine (implPermOk_any HA.out).mono ?_
  rw [HP.out]
  rintro e w1 ⟨rfl, b1⟩
  have HB1 := Lib.hid b1
  clear b1
  go_wp2_with fail
  refine (implIdentityPerm_any (n : Int)).mono ?_
  rw [HI.out]
  rintro e w2 ⟨v, rfl, o2, b2⟩
  have H0 := Lib.hid (And.intro (OI.mono o2 HB1.out.size) (bstep HB1.out b2))
  clear o2 b2
  go_wp2_with fail
  go_loopw [6, 22] (fun v i wr => ∃ j : Nat, j ≤ m ∧ i = .int .i64 j ∧ Hid (OI wr w.heap.size v (powTo p j) ∧ Below w.heap.size w wr)) (fun _ i _ => m - (intOf i).toNat)
  case atStart => exact ⟨0, Nat.zero_le _, rfl, by unfold powTo; rw [← HL.out]; exact H0.out.1, H0.out.2⟩
  case round =>
    obtain ⟨j, hj, rfl, HR⟩ := hrel
    by_cases hlt : j < m
    · go_wp2_with fail
      refine (compose_any HR.out.1.reads (HA.out.below HR.out.2) (by rw [powTo_len, ← HL.out]; omega) (powTo_mem HP.out j)).mono ?_
      rintro e w3 ⟨v3, rfl, o3, b3⟩
      have HN := Lib.hid (And.intro (OI.mono o3 HR.out.2.size) (bstep HR.out.2 b3))
      clear o3 b3
      go_wp2_with fail
      go_roundw
      case rel => exact ⟨j + 1, by omega, by go_num, HN.out⟩
      case measure => simp [intOf]; omega
    · go_wp2_with fail
      go_ret2
      obtain rfl : j = m := by omega
      exact ⟨_, ret2 (by rw [HC.out]), by rw [HC.out]; exact HR.out.1, HR.out.2⟩
end Go.Proofs.Ytmgighhdkgcigaa
