/-
  Rows of strings: marking them and finding the marks.
-/
import Derived.Test.YtodlkjfpahggmaaEqS
import Derived.Deep.RegionWith
namespace Go.Proofs.Ytodlkjfpahggmaa
open Go.RowKit Go.Deep

def markT (k : Nat) : ByteArray := strOfNums (109 :: dec k)
def decP (k : Nat) : List Int := if k = 0 then [] else dec k
theorem decP_step {k : Nat} (h : 0 < k) : decP k = decP (k / 10) ++ [48 + ((k % 10 : Nat) : Int)] := by
  unfold decP
  rw [if_neg (by omega)]
  by_cases hl : k < 10
  · rw [if_pos (by omega), dec_low hl, Nat.mod_eq_of_lt hl]; rfl
  · rw [if_neg (by omega), dec_high hl]
theorem nums_nil_app (b : ByteArray) : strOfNums [] ++ b = b := by apply ByteArray.ext; simp [strOfNums]
theorem dec_size {k : Nat} (h : k ≤ 9223372036854775807) : (strOfNums (dec k)).size ≤ 20 := by
  rw [strOfNums_size]
  have := dec_len 18 k (by omega)
  omega

set_option maxHeartbeats 1600000 in
set_option maxRecDepth 100000 in
theorem markText_any {w : World} (n : Nat) (hn : n ≤ 9223372036854775807) :
    Calls Try.prog 46 #[.int .i64 n] w fun e w' => e = .returned (.string (markT n)) ∧ Below w.heap.size w w' := by
  have hcv := conv_new
  by_cases h0 : n = 0
  · subst h0
    have HM : Hid (markT 0 = ⟨#[109, 48]⟩) := by unfold Hid markT; rw [dec_low (by omega)]; rfl
    go_enter Try.func46, Try.ntmps46
    go_wp2_with fail
    go_ret
    exact ⟨retS HM.out.symm, Below.refl _ _⟩
  have HSZ := Lib.hid (dec_size hn)
  have z0 : decide ((n : Int) ≤ 0) = false := decide_eq_false (by omega)
  go_enter Try.func46, Try.ntmps46
  go_wp2_with fail
  go_loopw [0, 3] (fun x s wr => ∃ (k : Nat) (t : ByteArray), x = .int .i64 k ∧ s = .string t ∧ k ≤ n ∧ Hid (strOfNums (dec n) = strOfNums (decP k) ++ t) ∧ Hid (Below w.heap.size w wr)) (fun x _ _ => (intOf x).toNat)
  case atStart => exact ⟨n, _, rfl, rfl, Nat.le_refl _, by rw [Hid, decP, if_neg h0]; apply ByteArray.ext; simp [ByteArray.data_append], Below.refl _ _⟩
  case round =>
    obtain ⟨k, t, rfl, rfl, hk, HT, HB⟩ := hrel
    have t1 : (k : Int).tdiv 10 = ((k / 10 : Nat) : Int) := tdiv10 k
    have t2 : (k : Int).tmod 10 = ((k % 10 : Nat) : Int) := tmod10 k
    have hts : t.size ≤ 20 := by
      have := HSZ.out
      rw [HT.out, ByteArray.size_append] at this
      omega
    by_cases hl : 0 < k
    · have hg : (0 : Int) < (k : Int) := by omega
      have hst := decP_step hl
      obtain ⟨r, hr⟩ : ∃ r, r = k % 10 := ⟨_, rfl⟩
      obtain ⟨q, hq⟩ : ∃ q, q = k / 10 := ⟨_, rfl⟩
      have HE : Hid (strOfNums (dec n) = strOfNums (decP q) ++ (strOfNums [48 + (r : Int)] ++ t)) := by
        rw [Hid, HT.out, hst, ← hr, ← hq, nums_app, ByteArray.append_assoc]
      have g1 : (strOfNums [48 + (r : Int)]).size + t.size ≤ 9223372036854775807 := by rw [strOfNums_size]; simp only [List.length_cons, List.length_nil]; omega
      have hr9 : r < 10 := by omega
      have hqk : q < k := by omega
      rw [← hr] at t2
      rw [← hq] at t1
      clear hr hq hst
      go_wp2
      go_roundw
      case rel => exact ⟨q, _, rfl, rfl, by omega, HE.out, HB.out.alloc HB.out.size _⟩
      case measure => simp [intOf]; omega
    · obtain rfl : k = 0 := by omega
      have g1 : (⟨#[109]⟩ : ByteArray).size + t.size ≤ 9223372036854775807 := by show 1 + t.size ≤ _; omega
      have g2 : 1 + t.size ≤ 9223372036854775807 := g1
      have HF : Hid (markT n = ⟨#[109]⟩ ++ t) := by
        have e : strOfNums (dec n) = t := by rw [HT.out, decP, if_pos rfl, nums_nil_app]
        unfold Hid markT
        rw [show (109 :: dec n : List Int) = [109] ++ dec n from rfl, nums_app, e]; rfl
      clear t1 t2
      go_wp2_with fail
      go_ret
      exact ⟨retS HF.out.symm, HB.out⟩

def marksS (n : Nat) (k : Int) : List ByteArray := (List.range n).map fun i : Nat => markT (k.toNat + i)
theorem marksS_len (n : Nat) (k : Int) : (marksS n k).length = n := by simp [marksS]
theorem marksS_getD {n i : Nat} {k : Int} (h : i < n) : (marksS n k).getD i ByteArray.empty = markT (k.toNat + i) := by simp [marksS, h]
theorem marksS_set {xs : List ByteArray} {k : Int} {i : Nat} (hi : i < xs.length) : (marksS i k ++ xs.drop i).set i (markT (k.toNat + i)) = marksS (i + 1) k ++ xs.drop (i + 1) := by
  have hl : (marksS i k).length = i := by simp [marksS]
  rw [List.set_append_right _ _ (by omega), hl, Nat.sub_self, List.drop_eq_getElem_cons hi, List.set_cons_zero]
  simp [marksS, List.range_succ]

/-- What marking leaves: memory may have grown; what lay below lo is as it was. -/
structure TurnedG (lo : Nat) (w w' : World) : Prop where
  os : w'.os = w.os
  tape : w'.tape = w.tape
  output : w'.output = w.output
  size : w.heap.size ≤ w'.heap.size
  block : ∀ k, k < lo → w'.heap[k]? = w.heap[k]?
theorem TurnedG.below {lo B : Nat} {w w' : World} (h : TurnedG lo w w') (hB : B ≤ lo) : Below B w w' := ⟨h.os, h.tape, h.output, h.size, fun k hk => h.block k (by omega)⟩
theorem OSS.bound {w : World} {lo : Nat} {v : Value} {xs : List ByteArray} (h : OSS w lo v xs) : ∀ k, v.ownBlock = some k → k < w.heap.size := fun k hk => (h.lt k hk).2

set_option maxHeartbeats 1600000 in
theorem markStringS_step {w : World} {lo hi : Nat} {a : Value} {xs : List ByteArray} (k : Int) (h : OSS w lo a xs) (_hb : ∀ g, a.ownBlock = some g → g < hi) (h0 : 0 ≤ k) (h1 : k ≤ 4611686018427387904) (hx : xs.length ≤ 4611686018427387903) :
    Calls Try.prog 34 #[a, .int .i64 k] w fun e w' => e = .returned (.int .i64 (k + xs.length)) ∧ OSS w' lo a (marksS xs.length k) ∧ TurnedG lo w w' := by
  obtain ⟨A, c, rfl, hA⟩ := h.form
  obtain ⟨n, hn⟩ : ∃ n, n = xs.length := ⟨_, rfl⟩
  rw [← hn] at hA hx ⊢
  have HL := Lib.hid hn
  have HA := Lib.hid hA
  have H := Lib.hid h
  clear h hA hn _hb
  go_enter Try.func34, Try.ntmps34
  go_wp2
  go_loopw [1, 5] (fun q i wr => ∃ j : Nat, j ≤ n ∧ i = .int .i64 j ∧ q = .int .i64 (k + j) ∧ Hid (OSS wr lo (.slice A n c) (marksS j k ++ xs.drop j) ∧ TurnedG lo w wr)) (fun _ i _ => n - (intOf i).toNat)
  case atStart => exact ⟨0, Nat.zero_le _, rfl, by simp, by simp only [marksS, List.range_zero, List.map_nil, List.nil_append, List.drop_zero]; rw [HL.out]; exact H.out, ⟨rfl, rfl, rfl, Nat.le_refl _, fun _ _ => rfl⟩⟩
  case round =>
    obtain ⟨j, hj, rfl, rfl, HO⟩ := hrel
    by_cases hlt : j < n
    · obtain ⟨g, rfl, hg1, hg2⟩ := HA.out (by have := HL.out; omega)
      have hlen : (marksS j k ++ xs.drop j).length = n := by have := HL.out; simp [marksS]; omega
      have HLEN := Lib.hid hlen
      obtain ⟨K, hK⟩ : ∃ K : Nat, (K : Int) = k + (j : Int) := ⟨(k + j).toNat, by omega⟩
      have hKn : K = k.toNat + j := by omega
      have hq : k + (j : Int) = (K : Int) := hK.symm
      have HMK := Lib.hid (markText_any (w := wr) K (by omega))
      have HKN := Lib.hid hKn
      have hq2 : (K : Int) ≤ 9223372036854775806 := by omega
      have hq3 : (K : Int) + 1 = k + ((j + 1 : Nat) : Int) := by omega
      have HQ3 := Lib.hid hq3
      clear hlen hK hKn hq3
      rw [hq]
      clear hq
      go_wp2_with fail
      refine HMK.out.mono ?_
      rintro e w1 ⟨rfl, b⟩
      have ho := OSS.step HO.out.1 b
      have c1 := ho.cell HLEN.out j (by omega)
      have f1 := ho.frozen HLEN.out j
      have hs := ho.set HLEN.out j (markT K)
      rw [HKN.out, marksS_set (by have := HL.out; omega), ← HKN.out] at hs
      have hlo : ∀ kk, kk < lo → kk < wr.heap.size := fun kk hkk => by have := (HO.out.1.lt g rfl).1; have := (HO.out.1.lt g rfl).2; omega
      have HS : Hid (OSS (w1.setCell ⟨g, j, none⟩ (.string (markT K))) lo (.slice (some ⟨g, 0, none⟩) n c) (marksS (j + 1) k ++ xs.drop (j + 1)) ∧ TurnedG lo w (w1.setCell ⟨g, j, none⟩ (.string (markT K)))) := by
        refine ⟨hs.1, ⟨b.os.trans HO.out.2.os, b.tape.trans HO.out.2.tape, b.output.trans HO.out.2.output, ?_, fun kk hkk => ?_⟩⟩
        · have h1 := hs.2.size
          have h2 := b.size
          have h3 := HO.out.2.size
          omega
        · have h1 := hlo kk hkk
          rw [Below.heap_setCell _ _ _ _ (by simp; omega)]
          exact (b.block kk h1).trans (HO.out.2.block kk hkk)
      clear hs ho b hlo
      go_wp2_with fail
      go_roundw
      case rel => exact ⟨j + 1, by omega, by go_num, by rw [← HQ3.out], HS.out⟩
      case measure => simp [intOf]; omega
    · go_wp2
      go_ret
      have := HL.out
      obtain rfl : j = n := by omega
      have ho := HO.out.1
      rw [List.drop_of_length_le (by omega), List.append_nil] at ho
      exact ⟨rfl, ho, HO.out.2⟩

set_option maxHeartbeats 1600000 in
theorem heldStringS_step {w : World} {a : Value} {n : Nat} (k : Int) (h : RSS w a (marksS n k)) (h0 : 0 ≤ k) (h1 : k ≤ 4611686018427387904) (hn : n ≤ 4611686018427387903) :
    Calls Try.prog 35 #[a, .int .i64 k] w fun e w' => e = .returned (.int .i64 (k + n)) ∧ Below w.heap.size w w' := by
  obtain ⟨A, c, rfl, _, hA⟩ := h
  rw [marksS_len] at hA ⊢
  have HA := Lib.hid hA
  have HB0 := Lib.hid (Below.refl w.heap.size w)
  clear hA
  go_enter Try.func35, Try.ntmps35
  go_wp2
  go_loopw [1, 5] (fun q i wr => ∃ j : Nat, j ≤ n ∧ i = .int .i64 j ∧ q = .int .i64 (k + j) ∧ Hid (Below w.heap.size w wr)) (fun _ i _ => n - (intOf i).toNat)
  case atStart => exact ⟨0, Nat.zero_le _, rfl, by simp, HB0.out⟩
  case round =>
    obtain ⟨j, hj, rfl, rfl, HB⟩ := hrel
    by_cases hlt : j < n
    · obtain ⟨-, b, off, rfl, hb, hc⟩ := HA.out (by omega)
      have c0 := hc j hlt
      rw [marksS_getD hlt] at c0
      have c1 := (HB.out.cell (p := ⟨b, off + j, none⟩) hb).trans c0
      have hbr : b < wr.heap.size := Nat.lt_of_lt_of_le hb HB.out.size
      obtain ⟨K, hK⟩ : ∃ K : Nat, (K : Int) = k + (j : Int) := ⟨(k + j).toNat, by omega⟩
      rw [show k.toNat + j = K from by omega] at c1
      have hq : k + (j : Int) = (K : Int) := hK.symm
      have HMK : Hid (∀ {w1 : World}, Calls Try.prog 46 #[.int .i64 K] w1 fun e w' => e = .returned (.string (markT K)) ∧ Below w1.heap.size w1 w') := markText_any K (by omega)
      have hq2 : (K : Int) ≤ 9223372036854775806 := by omega
      have hq3 : (K : Int) + 1 = k + ((j + 1 : Nat) : Int) := by omega
      have HQ3 := Lib.hid hq3
      obtain ⟨x, hx⟩ : ∃ x, x = markT K := ⟨_, rfl⟩
      rw [← hx] at c1 HMK
      have hxx : (x.toList == x.toList) = true := by simp
      clear hc c0 hK hq3 hx
      rw [hq]
      clear hq
      go_wp2_with fail
      go_region_with (first | (go_at_call 46; refine HMK.out.mono ?_; rintro e w1 ⟨rfl, b1⟩; first | (have c2 := (b1.cell (p := ⟨b, off + j, none⟩) hbr).trans c1; skip) | skip))
      all_goals (go_simp; try go_wp2_with fail)
      all_goals exact ⟨⟨j + 1, by omega, by go_num, by rw [← HQ3.out], bstep HB.out (show Below wr.heap.size wr w1 from ⟨b1.os, b1.tape, b1.output, b1.size, b1.block⟩)⟩, by simp [intOf]; omega⟩
    · go_wp2
      go_ret
      obtain rfl : j = n := by omega
      exact ⟨rfl, HB.out⟩
end Go.Proofs.Ytodlkjfpahggmaa
