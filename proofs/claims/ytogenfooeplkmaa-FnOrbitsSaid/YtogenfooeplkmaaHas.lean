/-
  laws.has: is a number in a list?
-/
import Derived.Test.YtogenfooeplkmaaSame
import Derived.Test.YtogenfooeplkmaaPermFn
namespace Go.Proofs.Ytogenfooeplkmaa
open Go.RowKit

set_option maxHeartbeats 800000 in
theorem lawsHas_any {w : World} {a : Value} {xs : List Int} (n : Int) (ha : RI w a xs) :
    Calls Try.prog 32 #[a, .int .i64 n] w fun e w' => e = .returned (.bool (decide (n ∈ xs))) ∧ Still w w' := by
  have hlx := ha.lenle
  obtain ⟨A, c, rfl, -, hx⟩ := ha
  obtain ⟨m, hm⟩ : ∃ m, m = xs.length := ⟨_, rfl⟩
  rw [← hm] at hlx hx ⊢
  have HL := Lib.hid hm
  have HX := Lib.hid hx
  clear hm hx
  go_enter Try.func32, Try.ntmps32
  go_wp2
  go_loopw [9] (fun i wr => ∃ k : Nat, k ≤ m ∧ i = .int .i64 k ∧ Hid (n ∉ xs.take k) ∧ Still w wr) (fun i _ => m - (intOf i).toNat)
  case atStart => exact ⟨0, Nat.zero_le _, rfl, by simp [Hid], Still.refl _⟩
  case round =>
    obtain ⟨k, hk, rfl, HT, HS⟩ := hrel
    by_cases hlt : k < m
    · obtain ⟨b1, o1, rfl, hb1, hc1⟩ := HX.out (by omega)
      have c1 := (HS.cell _).trans (hc1 k hlt)
      have hkl : k < xs.length := by have := HL.out; omega
      have hts := take_succ_getD hkl
      have hmem := getD_mem hkl
      generalize xs.getD k 0 = x at c1 hts hmem
      have HE := Lib.hid (And.intro hts hmem)
      clear hc1 hts hmem hkl
      by_cases he : x = n
      · have h1 : (x == n) = true := by simp [he]
        have HE2 := Lib.hid he
        clear he
        go_wp2
        go_ret
        exact ⟨retB (Eq.symm (decide_eq_true (by rw [← HE2.out]; exact HE.out.2))), HS⟩
      · have h1 : (x == n) = false := by simp [he]
        have HN : Hid (n ∉ xs.take (k + 1)) := fun hin => by
          rw [HE.out.1] at hin
          rcases List.mem_append.1 hin with hin | hin
          · exact HT.out hin
          · simp only [List.mem_singleton] at hin; exact he hin.symm
        have HE2 := Lib.hid he
        clear he
        go_wp2
        go_roundw
        case rel => exact ⟨k + 1, by omega, by go_num, HN, HS⟩
        case measure => simp [intOf]; omega
    · have HN : Hid (n ∉ xs) := by
        have h := HT.out
        rwa [List.take_of_length_le (by have := HL.out; omega)] at h
      go_wp2
      go_ret
      exact ⟨retB (Eq.symm (decide_eq_false HN.out)), HS⟩
end Go.Proofs.Ytogenfooeplkmaa
