/-
  FormatInt of the reference.
-/
import Derived.Test.YtkibbomfpklghaaFmtFn
import Derived.Deep.RegionWith
namespace Go.Proofs.Ytkibbomfpklghaa
open Go.RowKit Go.Deep

theorem ByteArray.nil_app (b : ByteArray) : ({ data := #[] } : ByteArray) ++ b = b := by apply ByteArray.ext; simp [ByteArray.data_append]
/-- What the loop holds. -/
theorem fmt_step {n k : Nat} {s : ByteArray} (h : fmt (n : Int) = strOfNums (dec k) ++ s) (hk : ¬ k < 10) : fmt (n : Int) = strOfNums (dec (k / 10)) ++ (strOfNums [48 + ((k % 10 : Nat) : Int)] ++ s) := by
  rw [h, dec_high hk, nums_app, ByteArray.append_assoc]

set_option maxHeartbeats 1600000 in
set_option maxRecDepth 100000 in
theorem specFmtNat_any {w : World} (n : Nat) (hn : n ≤ 9223372036854775807) :
    Calls Try.prog 45 #[.int .i64 n] w fun e w' => e = .returned (.string (fmt n)) ∧ Below w.heap.size w w' := by
  have hcv := conv_new
  have HSZ := Lib.hid (fmt_size (n := (n : Int)) (by omega))
  go_enter Try.func45, Try.ntmps45
  go_wp2_with fail
  go_loopw [0, 3] (fun x s wr => ∃ (k : Nat) (t : ByteArray), x = .int .i64 k ∧ s = .string t ∧ k ≤ n ∧ Hid (fmt (n : Int) = strOfNums (dec k) ++ t) ∧ Hid (Below w.heap.size w wr)) (fun x _ _ => (intOf x).toNat)
  case atStart => exact ⟨n, _, rfl, rfl, Nat.le_refl _, by rw [Hid, fmt_nat]; apply ByteArray.ext; simp [ByteArray.data_append], Below.refl _ _⟩
  case round =>
    obtain ⟨k, t, rfl, rfl, hk, HT, HB⟩ := hrel
    have t1 : (k : Int).tdiv 10 = ((k / 10 : Nat) : Int) := tdiv10 k
    have t2 : (k : Int).tmod 10 = ((k % 10 : Nat) : Int) := tmod10 k
    by_cases hl : k < 10
    · have hg : ¬ ((9 : Int) < (k : Int)) := by omega
      have HE : Hid (fmt (n : Int) = strOfNums [48 + (k : Int)] ++ t) := by rw [Hid, HT.out, dec_low hl]
      have g1 : (strOfNums [48 + (k : Int)]).size + t.size ≤ 9223372036854775807 := by
        have := HSZ.out
        rw [HE.out, ByteArray.size_append] at this
        omega
      clear t1 t2
      go_wp2
      go_ret
      exact ⟨retS HE.out.symm, HB.out.alloc HB.out.size _⟩
    · have hg : (9 : Int) < (k : Int) := by omega
      obtain ⟨r, hr⟩ : ∃ r, r = k % 10 := ⟨_, rfl⟩
      obtain ⟨q, hq⟩ : ∃ q, q = k / 10 := ⟨_, rfl⟩
      have HE : Hid (fmt (n : Int) = strOfNums (dec q) ++ (strOfNums [48 + (r : Int)] ++ t)) := by rw [hr, hq]; exact fmt_step HT.out hl
      have g1 : (strOfNums [48 + (r : Int)]).size + t.size ≤ 9223372036854775807 := by
        have := HSZ.out
        rw [HE.out, ByteArray.size_append, ByteArray.size_append] at this
        omega
      have hr9 : r < 10 := by omega
      have hqk : q < k := by omega
      rw [← hr] at t2
      rw [← hq] at t1
      clear hr hq
      go_wp2
      go_roundw
      case rel => exact ⟨q, _, rfl, rfl, by omega, HE.out, HB.out.alloc HB.out.size _⟩
      case measure => simp [intOf]; omega

theorem conv_after {w W w1 : World} {z : Int} {c : Nat} (b : Below W.heap.size W w1) (h : W.heap = (w.alloc (.cells #[.int .u8 z] 5)).heap) : (convert 49 9 (.slice (some ⟨w.heap.size, 0, none⟩) 1 c)).run Try.prog w1 = .ok (.string (strOfNums [z])) w1 := by
  have hc : (w.alloc (.cells #[.int .u8 z] 5)).cell? ⟨w.heap.size, 0, none⟩ = some (.int .u8 z) := by rw [World.cell?_alloc_mark]; rfl
  refine conv_one ((b.cell (p := ⟨w.heap.size, 0, none⟩) (by rw [h]; simp)).trans ?_)
  rw [← hc]
  simp [World.cell?, h]

theorem below_new {w W w1 : World} {o : Obj} (b : Below W.heap.size W w1) (h : W.heap = (w.alloc o).heap) (h1 : W.os = w.os) (h2 : W.tape = w.tape) (h3 : W.output = w.output) : Below w.heap.size w w1 := by
  have hs : w.heap.size ≤ W.heap.size := by rw [h]; simp
  exact ⟨b.os.trans h1, b.tape.trans h2, b.output.trans h3, Nat.le_trans hs b.size, fun k hk => (b.block k (by omega)).trans (by rw [h]; exact Below.heap_alloc w o k hk)⟩

set_option maxHeartbeats 1600000 in
set_option maxRecDepth 100000 in
theorem specFmtNeg_any : ∀ (m n : Nat) {w : World}, n < m → 1 ≤ n → n ≤ 9223372036854775808 →
    Calls Try.prog 45 #[.int .i64 (-(n : Int))] w fun e w' => e = .returned (.string (fmt (-(n : Int)))) ∧ Below w.heap.size w w' := by
  intro m
  induction m with
  | zero => intro n w h; omega
  | succ m ih =>
    intro n w hn h1 hm
    by_cases hl : n < 10
    · have HE : Hid (fmt (-(n : Int)) = strOfNums [45] ++ strOfNums [48 + (n : Int)]) := by rw [← fmt_low hl]; exact fmt_neg1 h1 hl
      have hsz := fmt_size (n := -(n : Int)) (by omega)
      rw [HE.out, ByteArray.size_append, show (strOfNums [45]).size = 1 from rfl] at hsz
      have t1 : (-(n : Int)).tdiv 10 = 0 := by rw [neg_tdiv10]; omega
      obtain ⟨z, hz⟩ : ∃ z : Int, z = -(n : Int) := ⟨_, rfl⟩
      rw [show 48 + (n : Int) = 48 - z from by omega] at HE hsz
      rw [← hz] at HE t1 ⊢
      have hcv := conv_new w 1 (48 - z)
      have g1 : 1 + (strOfNums [48 - z]).size ≤ 9223372036854775807 := by omega
      have hz1 : z < 0 := by omega
      have hz2 : -10 < z := by omega
      clear ih hz hn hm hsz
      go_enter Try.func45, Try.ntmps45
      go_wp2
      go_ret
      exact ⟨retS HE.out.symm, (Below.refl _ _).alloc (Nat.le_refl _) _⟩
    · obtain ⟨q, hqe⟩ : ∃ q, q = n / 10 := ⟨_, rfl⟩
      obtain ⟨r, hre⟩ : ∃ r, r = n % 10 := ⟨_, rfl⟩
      have hr : r < 10 := by omega
      have HE : Hid (fmt (-(n : Int)) = fmt (-(q : Int)) ++ strOfNums [48 + (r : Int)]) := by rw [hqe, hre, ← fmt_low (by omega)]; exact fmt_neg2 hl
      have hsz := fmt_size (n := -(n : Int)) (by omega)
      rw [HE.out, ByteArray.size_append] at hsz
      have hq0 : 1 ≤ q := by omega
      have hq9 : q ≤ 922337203685477580 := by omega
      have HQ : Hid (∀ {w : World}, Calls Try.prog 45 #[.int .i64 (-(q : Int))] w fun e w' => e = .returned (.string (fmt (-(q : Int)))) ∧ Below w.heap.size w w') := by
        intro w; rw [hqe]; exact ih (n / 10) (by omega) (by omega) (by omega)
      have t1 : (-(n : Int)).tdiv 10 = -(q : Int) := by rw [hqe]; exact neg_tdiv10 n
      have t2 : (-(n : Int)).tmod 10 = -(r : Int) := by rw [hre]; exact neg_tmod10 n
      have hq1 : (-(q : Int) == 0) = false := by rw [beq_eq_false_iff_ne]; omega
      obtain ⟨z, hz⟩ : ∃ z : Int, z = -(n : Int) := ⟨_, rfl⟩
      rw [← hz] at HE t1 t2 ⊢
      have g1 : (fmt (-(q : Int))).size + (strOfNums [48 + (r : Int)]).size ≤ 9223372036854775807 := by omega
      have hz1 : z < 0 := by omega
      have hz4 : -9223372036854775808 ≤ z := by omega
      have hcv := fun (w : World) => conv_new w 1 (48 + (r : Int))
      have hcv2 : ∀ (w : World), (convert 49 9 (.slice (some ⟨w.heap.size, 0, none⟩) 1 1)).run Try.prog (w.alloc (.cells #[.int .u8 (48 + (r : Int))] 5)).drew = .ok (.string (strOfNums [48 + (r : Int)])) (w.alloc (.cells #[.int .u8 (48 + (r : Int))] 5)).drew := fun w => conv_after (W := (w.alloc (.cells #[.int .u8 (48 + (r : Int))] 5)).drew) (Below.refl _ _) rfl
      have k1 : IntKind.i64.wrap (-(q : Int)) = -(q : Int) := by rw [IntKind.wrap_i64]; omega
      have k2 : IntKind.i64.wrap (-(r : Int)) = -(r : Int) := by rw [IntKind.wrap_i64]; omega
      have k3 : IntKind.i64.wrap (48 + (r : Int)) = 48 + (r : Int) := by rw [IntKind.wrap_i64]; omega
      have k4 : IntKind.u8.wrap (48 + (r : Int)) = 48 + (r : Int) := by rw [IntKind.wrap_u8]; omega
      clear ih hz hn hm hsz hqe hre
      go_enter Try.func45, Try.ntmps45
      go_wp2
      go_region_with (first | (go_at_call 45; refine HQ.out.mono ?_; rintro e w1 ⟨rfl, b1⟩; first | (have hk := conv_after (w := w) (z := 48 + (r : Int)) (c := 1) b1 rfl; skip) | skip))
      all_goals go_wp2
      all_goals go_ret
      all_goals first
        | exact ⟨retS HE.out.symm, bstepN (b1.alloc b1.size _) 1⟩
        | exact ⟨retS HE.out.symm, b1.alloc b1.size _⟩
        | exact ⟨retS HE.out.symm, (show Below w.heap.size w w1 from ⟨b1.os, b1.tape, b1.output, b1.size, b1.block⟩).alloc b1.size _⟩
        | exact ⟨retS HE.out.symm, (show Below w.heap.size w w1 from ⟨b1.os, b1.tape, b1.output, b1.size, b1.block⟩)⟩
        | exact ⟨retS HE.out.symm, below_new (w := w) b1 rfl rfl rfl rfl⟩

theorem specFormatInt_any {w : World} (n : Int) (h : -9223372036854775808 ≤ n ∧ n ≤ 9223372036854775807) :
    Calls Try.prog 45 #[.int .i64 n] w fun e w' => e = .returned (.string (fmt n)) ∧ Below w.heap.size w w' := by
  by_cases h0 : 0 ≤ n
  · obtain ⟨m, rfl⟩ := Int.eq_ofNat_of_zero_le h0
    exact specFmtNat_any m (by omega)
  · obtain ⟨m, hm⟩ : ∃ m : Nat, n = -(m : Int) := ⟨n.natAbs, by omega⟩
    subst hm
    exact specFmtNeg_any (m + 1) m (by omega) (by omega) (by omega)
end Go.Proofs.Ytkibbomfpklghaa
