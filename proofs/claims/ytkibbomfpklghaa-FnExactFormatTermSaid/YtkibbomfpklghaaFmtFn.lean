/-
  Plain Lean: an integer's text.
-/
import Derived.Test.YtkibbomfpklghaaMem
import Derived.Laws.BytesArg
namespace Go.Proofs.Ytkibbomfpklghaa
open Go.RowKit Go.Deep

/-- The decimal digits of n as signs. -/
def dec (n : Nat) : List Int := if n < 10 then [48 + (n : Int)] else dec (n / 10) ++ [48 + ((n % 10 : Nat) : Int)]
theorem dec_low {n : Nat} (h : n < 10) : dec n = [48 + (n : Int)] := by rw [dec, if_pos h]
theorem dec_high {n : Nat} (h : ¬ n < 10) : dec n = dec (n / 10) ++ [48 + ((n % 10 : Nat) : Int)] := by rw [dec, if_neg h]
theorem dec_len : ∀ (k n : Nat), n < 10 ^ (k + 1) → (dec n).length ≤ k + 1 := by
  intro k
  induction k with
  | zero => intro n h; rw [dec_low (by simpa using h)]; simp
  | succ k ih =>
    intro n h
    by_cases hl : n < 10
    · rw [dec_low hl]; simp
    · rw [dec_high hl, List.length_append]
      have := ih (n / 10) (by rw [Nat.pow_succ] at h; omega)
      simp only [List.length_cons, List.length_nil]
      omega
def fmt (n : Int) : ByteArray := if n < 0 then strOfNums (45 :: dec n.natAbs) else strOfNums (dec n.toNat)
theorem nums_app (a b : List Int) : strOfNums (a ++ b) = strOfNums a ++ strOfNums b := by
  apply ByteArray.ext
  simp [strOfNums, ByteArray.data_append]
theorem fmt_nat (n : Nat) : fmt (n : Int) = strOfNums (dec n) := by unfold fmt; rw [if_neg (by omega), Int.toNat_natCast]
theorem fmt_neg {n : Nat} (h : 1 ≤ n) : fmt (-(n : Int)) = strOfNums (45 :: dec n) := by unfold fmt; rw [if_pos (by omega), Int.natAbs_neg, Int.natAbs_natCast]
theorem fmt_low {n : Nat} (h : n < 10) : fmt (n : Int) = strOfNums [48 + (n : Int)] := by rw [fmt_nat, dec_low h]
theorem fmt_high {n : Nat} (h : ¬ n < 10) : fmt (n : Int) = fmt ((n / 10 : Nat) : Int) ++ fmt ((n % 10 : Nat) : Int) := by
  rw [fmt_nat, fmt_nat, fmt_low (by omega), dec_high h, nums_app]
theorem fmt_neg1 {n : Nat} (h0 : 1 ≤ n) (h : n < 10) : fmt (-(n : Int)) = strOfNums [45] ++ fmt (n : Int) := by
  rw [fmt_neg h0, fmt_low h, dec_low h, ← nums_app]; rfl
theorem fmt_neg2 {n : Nat} (h : ¬ n < 10) : fmt (-(n : Int)) = fmt (-((n / 10 : Nat) : Int)) ++ fmt ((n % 10 : Nat) : Int) := by
  rw [fmt_neg (by omega), fmt_neg (by omega), fmt_low (by omega), dec_high h, ← nums_app]; rfl
theorem fmt_size {n : Int} (h : -9223372036854775808 ≤ n ∧ n ≤ 9223372036854775807) : (fmt n).size ≤ 20 := by
  unfold fmt
  split
  · rw [strOfNums_size, List.length_cons]
    have := dec_len 18 n.natAbs (by omega)
    omega
  · rw [strOfNums_size]
    have := dec_len 18 n.toNat (by omega)
    omega
theorem enc_digit {n : Nat} (h : n < 10) : Utf8.encode (48 + (n : Int)) = fmt (n : Int) := by
  rw [fmt_low h]
  have : ∀ k : Nat, k < 10 → Utf8.encode (48 + (k : Int)) = strOfNums [48 + (k : Int)] := by decide
  exact this n h
theorem tdiv10 (m : Nat) : (m : Int).tdiv 10 = ((m / 10 : Nat) : Int) := rfl
theorem tmod10 (m : Nat) : (m : Int).tmod 10 = ((m % 10 : Nat) : Int) := rfl
theorem neg_tdiv10 (m : Nat) : (-(m : Int)).tdiv 10 = -((m / 10 : Nat) : Int) := by rw [Int.neg_tdiv]; rfl
theorem neg_tmod10 (m : Nat) : (-(m : Int)).tmod 10 = -((m % 10 : Nat) : Int) := by rw [Int.neg_tmod]; rfl
theorem retS {a b : ByteArray} (h : a = b) : Ending.returned (.string a) = .returned (.string b) := by rw [h]

/-- 'string(b)', b of one byte. -/
theorem conv_one {w : World} {g c : Nat} {z : Int} (h : w.cell? ⟨g, 0, none⟩ = some (.int .u8 z)) : (convert 49 9 (.slice (some ⟨g, 0, none⟩) 1 c)).run Try.prog w = .ok (.string (strOfNums [z])) w := by
  have hc : ∀ i, i < 1 → w.cell? ⟨g, 0 + i, none⟩ = some (.int .u8 ([z].getD i 0)) := by
    intro i hi
    obtain rfl : i = 0 := by omega
    exact h
  exact run_convert_bytes_arg w 49 5 Try.underlying49 Try.underlying5 g 0 1 c [z] rfl hc 9 Try.underlying9
theorem conv_new (w : World) (c : Nat) (z : Int) : (convert 49 9 (.slice (some ⟨w.heap.size, 0, none⟩) 1 c)).run Try.prog (w.alloc (.cells #[.int .u8 z] 5)) = .ok (.string (strOfNums [z])) (w.alloc (.cells #[.int .u8 z] 5)) :=
  conv_one (by rw [World.cell?_alloc_mark]; rfl)
end Go.Proofs.Ytkibbomfpklghaa
