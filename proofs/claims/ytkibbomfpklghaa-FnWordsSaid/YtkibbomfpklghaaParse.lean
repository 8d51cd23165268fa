/-
  ParseInt, of the program and of the reference.
-/
import Derived.Test.YtkibbomfpklghaaParseFn
import Derived.Test.YtkibbomfpklghaaDigits
import Derived.Test.YtkibbomfpklghaaFmt
import Derived.Test.YtkibbomfpklghaaFmtS
import Derived.Test.YtkibbomfpklghaaShelf
namespace Go.Proofs.Ytkibbomfpklghaa
open Go.RowKit Go.Deep

theorem beq_bytes {a b : ByteArray} : (a.toList == b.toList) = true ↔ a = b := by
  rw [ByteArray.toList_eq, ByteArray.toList_eq, beq_iff_eq]
  exact ⟨fun h => ByteArray.ext (Array.toList_inj.1 h), fun h => by rw [h]⟩
theorem minus_list (s : ByteArray) : Lib.hasPrefix s.data.toList [45] = minus s := by
  obtain ⟨⟨l⟩⟩ := s
  cases l with
  | nil =>
    have : minus ⟨⟨[]⟩⟩ = false := decide_eq_false fun ⟨h, _⟩ => Nat.lt_irrefl 0 h
    rw [this]; rfl
  | cons x l =>
    rw [Bool.eq_iff_iff]
    unfold Lib.hasPrefix minus
    simp only [List.isPrefixOf, Bool.and_true, decide_eq_true_eq, beq_iff_eq]
    constructor
    · intro h
      refine ⟨Nat.succ_pos l.length, ?_⟩
      show x.toNat = 45
      rw [← h]; rfl
    · rintro ⟨_, h⟩
      have h' : x.toNat = 45 := h
      exact (UInt8.toNat_inj.1 (by rw [h']; rfl)).symm
theorem trim_tail (s : ByteArray) : (⟨(Lib.trimPrefix s.data.toList (⟨#[45]⟩ : ByteArray).data.toList).toArray⟩ : ByteArray) = tailS s := by
  have e : (⟨#[45]⟩ : ByteArray).data.toList = [45] := rfl
  rw [e]
  unfold Lib.trimPrefix tailS
  rw [minus_list]
  cases hm : minus s with
  | false => simp
  | true =>
    rw [if_pos rfl, if_pos rfl]
    apply ByteArray.ext
    apply Array.toList_inj.1
    rw [ByteArray.data_extract]
    simp only [List.length_cons, List.length_nil, Array.toList_extract]
    rw [List.extract_eq_take_drop]
    apply Eq.symm
    apply List.take_of_length_le
    simp
theorem tail_size (s : ByteArray) : (tailS s).size ≤ s.size ∧ (((tailS s).size = s.size) ↔ minus s = false) := by
  unfold tailS
  cases hm : minus s with
  | false => simp
  | true =>
    obtain ⟨h0, _⟩ := of_decide_eq_true hm
    rw [if_pos rfl]
    have : (s.extract 1 s.size).size = s.size - 1 := by simp
    constructor
    · omega
    · constructor
      · intro h; omega
      · intro h; cases h
theorem digits_of {s : ByteArray} (h : isDigits s = true) : ∀ j (hj : j < s.size), 48 ≤ s[j].toNat ∧ s[j].toNat ≤ 57 := fun j hj => by
  have := (of_decide_eq_true h).2 j hj
  have := digC_yes this
  omega
theorem parse_bad {s : ByteArray} (h : isDigits (tailS s) = false ∨ 19 < (tailS s).size) : parseInt s = (0, false) := by
  refine parseInt_no fun m hm he => ?_
  obtain ⟨h1, h2, h3, _⟩ := fmt_digits hm he
  rcases h with h | h
  · have : isDigits (tailS s) = true := by
      unfold isDigits
      refine decide_eq_true ⟨by omega, fun j hj => ?_⟩
      have := h3 ((bts (tailS s)).getD j 0) (by simp [List.getElem?_eq_getElem (show j < (bts (tailS s)).length by rw [bts_len]; exact hj)])
      rw [bts_at hj] at this
      unfold digC
      exact decide_eq_true (by omega)
    rw [this] at h; cases h
  · omega

set_option maxHeartbeats 1600000 in
theorem implParseInt_any {w : World} (s : ByteArray) (hs : s.size ≤ maxLen) :
    Calls Try.prog 12 #[.string s] w fun e w' => e = .returned (.tuple #[.int .i64 (parseInt s).1, .bool (parseInt s).2]) ∧ Below w.heap.size w w' := by
  have htr := Sh.strings_TrimPrefix s ⟨#[45]⟩ w
  rw [trim_tail] at htr
  have HTR := Lib.hid htr
  obtain ⟨t, ht⟩ : ∃ t, t = tailS s := ⟨_, rfl⟩
  have hts := tail_size s
  rw [← ht] at HTR hts
  have htm : t.size ≤ maxLen := by omega
  unfold maxLen at hs
  have HT := Lib.hid ht
  have HTS := Lib.hid hts.2
  have hle := hts.1
  clear htr ht hts
  cases hd : isDigits t with
  | false =>
    have HC := Lib.hid (parse_bad (s := s) (.inl (by rw [← HT.out]; exact hd)))
    have HD := Lib.hid hd
    clear hd
    go_enter Try.func12, Try.ntmps12
    go_wp2_with fail
    refine HTR.out.mono ?_
    rintro e w1 ⟨rfl, rfl⟩
    go_wp2_with fail
    refine (implIsDigits_any t _ htm).mono ?_
    rw [HD.out]
    rintro e w2 ⟨rfl, rfl⟩
    go_wp2_with fail
    go_ret2
    exact ⟨by rw [HC.out]; rfl, Below.refl _ _⟩
  | true =>
  have HD := Lib.hid hd
  have HDG := Lib.hid (digits_of hd)
  clear hd
  by_cases h19 : 19 < t.size
  · have HC := Lib.hid (parse_bad (s := s) (.inr (by rw [← HT.out]; exact h19)))
    go_enter Try.func12, Try.ntmps12
    go_wp2_with fail
    refine HTR.out.mono ?_
    rintro e w1 ⟨rfl, rfl⟩
    go_wp2_with fail
    refine (implIsDigits_any t _ htm).mono ?_
    rw [HD.out]
    rintro e w2 ⟨rfl, rfl⟩
    go_wp2_with fail
    go_ret2
    exact ⟨by rw [HC.out]; rfl, Below.refl _ _⟩
  have d19 : decide ((19 : Int) < (t.size : Int)) = false := decide_eq_false (by omega)
  have d19' : decide (19 < t.size) = false := decide_eq_false h19
  go_enter Try.func12, Try.ntmps12
  go_wp2_with fail
  refine HTR.out.mono ?_
  rintro e w1 ⟨rfl, rfl⟩
  go_wp2_with fail
  refine (implIsDigits_any t _ htm).mono ?_
  rw [HD.out]
  rintro e w2 ⟨rfl, rfl⟩
  go_wp2_with fail
  go_loop [5, 19] (fun x i => ∃ k : Nat, k ≤ t.size ∧ i = .int .i64 k ∧ x = .int .i64 (iv (bts t) k)) (fun _ i => t.size - (intOf i).toNat)
  case atStart => exact ⟨0, Nat.zero_le _, rfl, rfl⟩
  case round =>
    obtain ⟨k, hk, rfl, rfl⟩ := hrel
    obtain ⟨x, hx⟩ : ∃ x, x = iv (bts t) k := ⟨_, rfl⟩
    have hxr := iv_inR (bts t) k
    unfold inR at hxr
    rw [← hx] at hxr ⊢
    by_cases hlt : k < t.size
    · have hdg := HDG.out k hlt
      have hb := bts_at hlt
      obtain ⟨c, hc⟩ : ∃ c, c = t[k].toNat := ⟨_, rfl⟩
      have HXN : Hid (iv (bts t) (k + 1) = wrap64 (wrap64 (10 * x) - ((t[k].toNat : Int) - 48))) := by
        rw [Hid, iv, ← hx, hb, IntKind.wrap_i64, IntKind.wrap_i64]
        unfold wrap64; rfl
      clear hx hb hc
      go_wp2_with fail
      go_round
      case rel => exact ⟨k + 1, by omega, by go_num, by rw [HXN.out]⟩
      case measure => simp [intOf]; omega
    · have hk' : k = t.size := by omega
      have HLR := Lib.hid (lastI_inR s)
      obtain ⟨f, hf⟩ : ∃ f, f = lastI s := ⟨_, rfl⟩
      have HPI := Lib.hid (parseInt_lastI s)
      rw [← hf] at HPI HLR
      have hfr := HLR.out
      unfold inR at hfr
      cases hm : minus s with
      | true =>
        have hts : ¬ t.size = s.size := fun h => by
          have := HTS.out.1 h
          rw [this] at hm; cases hm
        have hxf : x = f := by rw [hx, hf, hk']; unfold lastI; rw [if_pos hm, ← HT.out]
        have hq : ((t.size : Int) == (s.size : Int)) = false := beq_eq_false_iff_ne.2 (by omega)
        have hq2 : (t.size == s.size) = false := beq_eq_false_iff_ne.2 hts
        rw [hxf]
        clear hx hm hf hts hxf hxr
        by_cases he : fmt f = s
        · have hb1 : ((fmt f).toList == s.toList) = true := beq_bytes.2 he
          have HC : Hid (parseInt s = (f, true)) := by rw [Hid, HPI.out, if_pos he]
          clear he
          go_wp2_with fail
          refine (implFormatInt_any f hfr).mono ?_
          rintro e w3 ⟨rfl, rfl⟩
          go_wp2_with fail
          go_ret2
          exact ⟨by rw [HC.out]; rfl, Below.refl _ _⟩
        · have hb1 : ((fmt f).toList == s.toList) = false := by rw [Bool.eq_false_iff]; exact fun h => he (beq_bytes.1 h)
          have HC : Hid (parseInt s = (0, false)) := by rw [Hid, HPI.out, if_neg he]
          clear he
          go_wp2_with fail
          refine (implFormatInt_any f hfr).mono ?_
          rintro e w3 ⟨rfl, rfl⟩
          go_wp2_with fail
          go_ret2
          exact ⟨by rw [HC.out]; rfl, Below.refl _ _⟩
      | false =>
        have hts : t.size = s.size := HTS.out.2 hm
        have hxf : wrap64 (-x) = f := by rw [hf, hx, hk']; unfold lastI; rw [if_neg (by rw [hm]; simp), ← HT.out, IntKind.wrap_i64]; unfold wrap64; rfl
        have hq : ((t.size : Int) == (s.size : Int)) = true := beq_iff_eq.2 (by omega)
        have hq2 : (t.size == s.size) = true := beq_iff_eq.2 hts
        clear hx hm hf hts
        by_cases he : fmt f = s
        · have hb1 : ((fmt f).toList == s.toList) = true := beq_bytes.2 he
          have HC : Hid (parseInt s = (f, true)) := by rw [Hid, HPI.out, if_pos he]
          clear he
          go_wp2_with fail
          refine (implFormatInt_any f hfr).mono ?_
          rintro e w3 ⟨rfl, rfl⟩
          go_wp2_with fail
          go_ret2
          exact ⟨by rw [HC.out]; rfl, Below.refl _ _⟩
        · have hb1 : ((fmt f).toList == s.toList) = false := by rw [Bool.eq_false_iff]; exact fun h => he (beq_bytes.1 h)
          have HC : Hid (parseInt s = (0, false)) := by rw [Hid, HPI.out, if_neg he]
          clear he
          go_wp2_with fail
          refine (implFormatInt_any f hfr).mono ?_
          rintro e w3 ⟨rfl, rfl⟩
          go_wp2_with fail
          go_ret2
          exact ⟨by rw [HC.out]; rfl, Below.refl _ _⟩
end Go.Proofs.Ytkibbomfpklghaa
