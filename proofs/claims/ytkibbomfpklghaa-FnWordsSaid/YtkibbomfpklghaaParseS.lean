/-
  ParseInt of the reference.
-/
import Derived.Test.YtkibbomfpklghaaParse
namespace Go.Proofs.Ytkibbomfpklghaa
open Go.RowKit Go.Deep

theorem spec_over {s : ByteArray} (h : 9223372036854775808 < decv (bts (tailS s))) : parseInt s = (0, false) := by
  refine parseInt_no fun m hm he => ?_
  have h4 := (fmt_digits hm he).2.2.2
  unfold inR at hm
  omega
theorem spec_min {s : ByteArray} (hm : minus s = false) (h : decv (bts (tailS s)) = 9223372036854775808) : parseInt s = (0, false) := by
  refine parseInt_no fun m hr he => ?_
  have h4 := (fmt_digits hr he).2.2.2
  have h5 := (fmt_tail he).2
  have : ¬ m < 0 := fun h => by have := h5.1 h; rw [hm] at this; cases this
  unfold inR at hr
  omega
theorem spec_last {s : ByteArray} {f : Int} (hf : f = if minus s = true then -(decv (bts (tailS s)) : Int) else (decv (bts (tailS s)) : Int)) (h : fmt f ≠ s) : parseInt s = (0, false) := by
  refine parseInt_no fun m hr he => h ?_
  have h4 := (fmt_digits hr he).2.2.2
  have h5 := (fmt_tail he).2
  have : f = m := by
    rw [hf]
    split
    · rename_i hm; have := h5.2 hm; omega
    · rename_i hm
      have : ¬ m < 0 := fun h => hm (h5.1 h)
      omega
  rw [this]; exact he

set_option maxHeartbeats 3200000 in
set_option maxRecDepth 100000 in
theorem specParseInt_any {w : World} (s : ByteArray) (hs : s.size ≤ maxLen) :
    Calls Try.prog 11 #[.string s] w fun e w' => e = .returned (.tuple #[.int .i64 (parseInt s).1, .bool (parseInt s).2]) ∧ Below w.heap.size w w' := by
  unfold maxLen at hs
  cases hm : minus s with
  | true =>
    obtain ⟨hs0, hs1⟩ := of_decide_eq_true hm
    have hs2 : ((s[0].toNat : Int) == 45) = true := beq_iff_eq.2 (by omega)
    have hs3 : (s[0].toNat == 45) = true := beq_iff_eq.2 hs1
    obtain ⟨t, ht⟩ : ∃ t, t = s.extract 1 s.size := ⟨_, rfl⟩
    have HT : Hid (t = tailS s) := by unfold Hid tailS; rw [if_pos hm]; exact ht
    have hst : s.extract 1 s.size = t := ht.symm
    have htl : t.size = s.size - 1 := by rw [ht]; simp
    clear hs1 ht
    have htm : t.size ≤ maxLen := by unfold maxLen; omega
    cases hd : isDigits t with
    | false =>
      have HC := Lib.hid (parse_bad (s := s) (.inl (by rw [← HT.out]; exact hd)))
      have HD := Lib.hid hd
      clear hd
      go_enter Try.func11, Try.ntmps11
      go_wp2_with fail
      refine (specIsDigits_any t _ htm).mono ?_
      rw [HD.out]
      rintro e w2 ⟨rfl, rfl⟩
      go_wp2_with fail
      go_ret2
      exact ⟨by rw [HC.out]; rfl, Below.refl _ _⟩
    | true =>
    have HD := Lib.hid hd
    have HDG := Lib.hid (digits_of hd)
    clear hd
    by_cases h19 : 19 < t.size
    · have HC := Lib.hid (parse_bad (s := s) (.inr (by rw [← HT.out]; exact h19)))
      go_enter Try.func11, Try.ntmps11
      go_wp2_with fail
      refine (specIsDigits_any t _ htm).mono ?_
      rw [HD.out]
      rintro e w2 ⟨rfl, rfl⟩
      go_wp2_with fail
      go_ret2
      exact ⟨by rw [HC.out]; rfl, Below.refl _ _⟩
    have d19 : decide ((19 : Int) < (t.size : Int)) = false := decide_eq_false (by omega)
    have d19' : decide (19 < t.size) = false := decide_eq_false h19
    go_enter Try.func11, Try.ntmps11
    go_wp2_with fail
    refine (specIsDigits_any t _ htm).mono ?_
    rw [HD.out]
    rintro e w2 ⟨rfl, rfl⟩
    go_wp2_with fail
    go_loop [6, 7] (fun x i => ∃ (k v : Nat), k ≤ t.size ∧ i = .int .i64 k ∧ x = .int .i64 (-(v : Int)) ∧ v ≤ 9223372036854775808 ∧ Hid (v = decv ((bts t).take k))) (fun _ i => t.size - (intOf i).toNat)
    case atStart => exact ⟨0, 0, Nat.zero_le _, rfl, rfl, by decide, by simp [Hid, decv]⟩
    case round =>
      obtain ⟨k, v, hk, rfl, rfl, hv, HV⟩ := hrel
      obtain ⟨x, hx⟩ : ∃ x : Int, x = -(v : Int) := ⟨_, rfl⟩
      rw [← hx]
      have hxr : -9223372036854775808 ≤ x ∧ x ≤ 0 := by omega
      by_cases hlt : k < t.size
      · have hdg := HDG.out k hlt
        have hb := bts_at hlt
        have hts := decv_take_succ (l := bts t) (k := k) (by rw [bts_len]; exact hlt)
        have hdl := decv_le (bts t) (k + 1)
        rw [hb, ← HV.out] at hts
        obtain ⟨d, hdd⟩ : ∃ d : Nat, (d : Int) = (t[k].toNat : Int) - 48 := ⟨t[k].toNat - 48, by omega⟩
        rw [← hdd, Int.toNat_natCast] at hts
        have hd9 : d ≤ 9 := by omega
        obtain ⟨Q, hQ⟩ : ∃ Q, Q = (9223372036854775808 - d) / 10 := ⟨_, rfl⟩
        have hQ9 : Q ≤ 922337203685477580 := by omega
        have hq : (-9223372036854775808 + (d : Int)).tdiv 10 = -(Q : Int) := by
          rw [show (-9223372036854775808 + (d : Int)) = -((9223372036854775808 - d : Nat) : Int) from by omega, neg_tdiv10, hQ]
        have hdd' : ((t[k].toNat : Int) - 48) = (d : Int) := hdd.symm
        by_cases hov : x < -(Q : Int)
        · have HC : Hid (parseInt s = (0, false)) := spec_over (by rw [← HT.out]; omega)
          clear hb hts hdl hdd HV hQ hx
          go_wp2_with fail
          go_ret2
          exact ⟨by rw [HC.out]; rfl, Below.refl _ _⟩
        · have hnx : x * 10 - (d : Int) = -((10 * v + d : Nat) : Int) := by omega
          have hnr : 10 * v + d ≤ 9223372036854775808 := by omega
          obtain ⟨v2, hv2⟩ : ∃ v2, v2 = 10 * v + d := ⟨_, rfl⟩
          rw [← hv2] at hnx hnr hts
          have hxl : -9223372036854775808 ≤ x * 10 := by omega
          have HTS := Lib.hid hts
          clear hb hts hdl hdd HV hQ hx hv2
          go_wp2_with fail
          go_round
          case rel => exact ⟨k + 1, v2, by omega, by go_num, by go_num, hnr, HTS.out.symm⟩
          case measure => simp [intOf]; omega
      · have hvd : v = decv (bts t) := by rw [HV.out, List.take_of_length_le (by rw [bts_len]; omega)]
        have hfr : -9223372036854775808 ≤ x ∧ x ≤ 9223372036854775807 := by omega
        have hxf : x = if minus s = true then -(decv (bts (tailS s)) : Int) else (decv (bts (tailS s)) : Int) := by rw [if_pos hm, ← HT.out, ← hvd]; exact hx
        by_cases he : fmt x = s
        · have hb1 : ((fmt x).toList == s.toList) = true := beq_bytes.2 he
          have HC : Hid (parseInt s = (x, true)) := parseInt_yes hfr he
          clear he hxf hvd hx HV
          go_wp2_with fail
          refine (specFormatInt_any x hfr).mono ?_
          rintro e w3 ⟨rfl, b⟩
          have HB := Lib.hid b
          clear b
          go_wp2_with fail
          go_ret2
          exact ⟨by rw [HC.out]; rfl, HB.out⟩
        · have hb1 : ((fmt x).toList == s.toList) = false := by rw [Bool.eq_false_iff]; exact fun h => he (beq_bytes.1 h)
          have HC : Hid (parseInt s = (0, false)) := spec_last hxf he
          clear he hxf hvd hx HV
          go_wp2_with fail
          refine (specFormatInt_any x hfr).mono ?_
          rintro e w3 ⟨rfl, b⟩
          have HB := Lib.hid b
          clear b
          go_wp2_with fail
          go_ret2
          exact ⟨by rw [HC.out]; rfl, HB.out⟩
  | false =>
    have HT : Hid (s = tailS s) := by unfold Hid tailS; rw [if_neg (by rw [hm]; simp)]
    by_cases hs0 : 0 < s.size
    · have hs1 : s[0].toNat ≠ 45 := fun h => by
        have : minus s = true := decide_eq_true ⟨hs0, h⟩
        rw [hm] at this; cases this
      have hs2 : ((s[0].toNat : Int) == 45) = false := beq_eq_false_iff_ne.2 (by omega)
      have hs3 : (s[0].toNat == 45) = false := beq_eq_false_iff_ne.2 hs1
      clear hs1
      have htm : s.size ≤ maxLen := by unfold maxLen; omega
      cases hd : isDigits s with
      | false =>
        have HC := Lib.hid (parse_bad (s := s) (.inl (by rw [← HT.out]; exact hd)))
        have HD := Lib.hid hd
        clear hd
        go_enter Try.func11, Try.ntmps11
        go_wp2_with fail
        refine (specIsDigits_any s _ htm).mono ?_
        rw [HD.out]
        rintro e w2 ⟨rfl, rfl⟩
        go_wp2_with fail
        go_ret2
        exact ⟨by rw [HC.out]; rfl, Below.refl _ _⟩
      | true =>
      have HD := Lib.hid hd
      have HDG := Lib.hid (digits_of hd)
      clear hd
      by_cases h19 : 19 < s.size
      · have HC := Lib.hid (parse_bad (s := s) (.inr (by rw [← HT.out]; exact h19)))
        go_enter Try.func11, Try.ntmps11
        go_wp2_with fail
        refine (specIsDigits_any s _ htm).mono ?_
        rw [HD.out]
        rintro e w2 ⟨rfl, rfl⟩
        go_wp2_with fail
        go_ret2
        exact ⟨by rw [HC.out]; rfl, Below.refl _ _⟩
      have d19 : decide ((19 : Int) < (s.size : Int)) = false := decide_eq_false (by omega)
      have d19' : decide (19 < s.size) = false := decide_eq_false h19
      go_enter Try.func11, Try.ntmps11
      go_wp2_with fail
      refine (specIsDigits_any s _ htm).mono ?_
      rw [HD.out]
      rintro e w2 ⟨rfl, rfl⟩
      go_wp2_with fail
      go_loop [6, 7] (fun x i => ∃ (k v : Nat), k ≤ s.size ∧ i = .int .i64 k ∧ x = .int .i64 (-(v : Int)) ∧ v ≤ 9223372036854775808 ∧ Hid (v = decv ((bts s).take k))) (fun _ i => s.size - (intOf i).toNat)
      case atStart => exact ⟨0, 0, Nat.zero_le _, rfl, rfl, by decide, by simp [Hid, decv]⟩
      case round =>
        obtain ⟨k, v, hk, rfl, rfl, hv, HV⟩ := hrel
        obtain ⟨x, hx⟩ : ∃ x : Int, x = -(v : Int) := ⟨_, rfl⟩
        rw [← hx]
        have hxr : -9223372036854775808 ≤ x ∧ x ≤ 0 := by omega
        by_cases hlt : k < s.size
        · have hdg := HDG.out k hlt
          have hb := bts_at hlt
          have hts := decv_take_succ (l := bts s) (k := k) (by rw [bts_len]; exact hlt)
          have hdl := decv_le (bts s) (k + 1)
          rw [hb, ← HV.out] at hts
          obtain ⟨d, hdd⟩ : ∃ d : Nat, (d : Int) = (s[k].toNat : Int) - 48 := ⟨s[k].toNat - 48, by omega⟩
          rw [← hdd, Int.toNat_natCast] at hts
          have hd9 : d ≤ 9 := by omega
          obtain ⟨Q, hQ⟩ : ∃ Q, Q = (9223372036854775808 - d) / 10 := ⟨_, rfl⟩
          have hQ9 : Q ≤ 922337203685477580 := by omega
          have hq : (-9223372036854775808 + (d : Int)).tdiv 10 = -(Q : Int) := by
            rw [show (-9223372036854775808 + (d : Int)) = -((9223372036854775808 - d : Nat) : Int) from by omega, neg_tdiv10, hQ]
          have hdd' : ((s[k].toNat : Int) - 48) = (d : Int) := hdd.symm
          by_cases hov : x < -(Q : Int)
          · have HC : Hid (parseInt s = (0, false)) := spec_over (by rw [← HT.out]; omega)
            clear hb hts hdl hdd HV hQ hx
            go_wp2_with fail
            go_ret2
            exact ⟨by rw [HC.out]; rfl, Below.refl _ _⟩
          · have hnx : x * 10 - (d : Int) = -((10 * v + d : Nat) : Int) := by omega
            have hnr : 10 * v + d ≤ 9223372036854775808 := by omega
            obtain ⟨v2, hv2⟩ : ∃ v2, v2 = 10 * v + d := ⟨_, rfl⟩
            rw [← hv2] at hnx hnr hts
            have hxl : -9223372036854775808 ≤ x * 10 := by omega
            have HTS := Lib.hid hts
            clear hb hts hdl hdd HV hQ hx hv2
            go_wp2_with fail
            go_round
            case rel => exact ⟨k + 1, v2, by omega, by go_num, by go_num, hnr, HTS.out.symm⟩
            case measure => simp [intOf]; omega
        · have hvd : v = decv (bts s) := by rw [HV.out, List.take_of_length_le (by rw [bts_len]; omega)]
          by_cases hmin : x = -9223372036854775808
          · have hq1 : (x == -9223372036854775808) = true := beq_iff_eq.2 hmin
            have HC : Hid (parseInt s = (0, false)) := spec_min hm (by rw [← HT.out, ← hvd]; omega)
            clear hmin hvd hx HV
            go_wp2_with fail
            go_ret2
            exact ⟨by rw [HC.out]; rfl, Below.refl _ _⟩
          have hq1 : (x == -9223372036854775808) = false := beq_eq_false_iff_ne.2 hmin
          obtain ⟨f, hf⟩ : ∃ f, f = -x := ⟨_, rfl⟩
          have hfr : -9223372036854775808 ≤ f ∧ f ≤ 9223372036854775807 := by omega
          have hxf : f = if minus s = true then -(decv (bts (tailS s)) : Int) else (decv (bts (tailS s)) : Int) := by rw [if_neg (by rw [hm]; simp), ← HT.out, ← hvd]; omega
          have hnf : -x = f := hf.symm
          have hxg : -9223372036854775807 ≤ x := by omega
          by_cases he : fmt f = s
          · have hb1 : ((fmt f).toList == s.toList) = true := beq_bytes.2 he
            have HC : Hid (parseInt s = (f, true)) := parseInt_yes hfr he
            clear he hxf hvd hx HV hf hmin
            go_wp2_with fail
            refine (specFormatInt_any f hfr).mono ?_
            rintro e w3 ⟨rfl, b⟩
            have HB := Lib.hid b
            clear b
            go_wp2_with fail
            go_ret2
            exact ⟨by rw [HC.out]; rfl, HB.out⟩
          · have hb1 : ((fmt f).toList == s.toList) = false := by rw [Bool.eq_false_iff]; exact fun h => he (beq_bytes.1 h)
            have HC : Hid (parseInt s = (0, false)) := spec_last hxf he
            clear he hxf hvd hx HV hf hmin
            go_wp2_with fail
            refine (specFormatInt_any f hfr).mono ?_
            rintro e w3 ⟨rfl, b⟩
            have HB := Lib.hid b
            clear b
            go_wp2_with fail
            go_ret2
            exact ⟨by rw [HC.out]; rfl, HB.out⟩
    · have hs2 : decide ((0 : Int) < (s.size : Int)) = false := decide_eq_false (by omega)
      have hs3 : decide (0 < s.size) = false := decide_eq_false hs0
      have hd : isDigits s = false := by unfold isDigits; exact decide_eq_false fun h => hs0 h.1
      have HC := Lib.hid (parse_bad (s := s) (.inl (by rw [← HT.out]; exact hd)))
      have HD := Lib.hid hd
      have htm : s.size ≤ maxLen := by unfold maxLen; omega
      clear hd
      go_enter Try.func11, Try.ntmps11
      go_wp2_with fail
      refine (specIsDigits_any s _ htm).mono ?_
      rw [HD.out]
      rintro e w2 ⟨rfl, rfl⟩
      go_wp2_with fail
      go_ret2
      exact ⟨by rw [HC.out]; rfl, Below.refl _ _⟩
end Go.Proofs.Ytkibbomfpklghaa
