/-
  HasPerm, FixedPairs, IsAbelian, of the program and of the reference.
-/
import Derived.Test.YtfanohebejemmaaGroupOkS
import Derived.Test.YtfanohebejemmaaGroupOkI
import Derived.Test.YtfanohebejemmaaGrpFn
namespace Go.Proofs.Ytfanohebejemmaa
open Go.RowKit Go.Deep

set_option maxHeartbeats 1600000 in
theorem specHasPerm_any {w : World} {a b : Value} {gs : List (List Int)} {p : List Int} (ha : RII w a gs) (hb : RI w b p) :
    Calls Try.prog 20 #[a, b] w fun e w' => e = .returned (.bool (hasPerm gs p)) ∧ Below w.heap.size w w' := by
  have HB := Lib.hid hb
  have hlp := hb.lenle
  obtain ⟨B0, d, rfl⟩ := hb.shape
  clear hb
  have HA := Lib.hid ha
  obtain ⟨A, c, rfl, -, hx⟩ := ha
  cases hg : groupOk gs with
  | false =>
    have HC := Lib.hid (hasPerm_bad (p := p) hg)
    have HG := Lib.hid hg
    clear hg hx
    go_enter Try.func20, Try.ntmps20
    go_wp2_with fail
    refine (specGroupOk_any HA.out).mono ?_
    rw [HG.out]
    rintro e w1 ⟨rfl, b1⟩
    go_wp2
    go_ret
    exact ⟨retB HC.out.symm, b1⟩
  | true =>
  have HG := Lib.hid hg
  have HGR := Lib.hid (grp_of hg)
  obtain ⟨n, hn⟩ : ∃ n, n = gs.length := ⟨_, rfl⟩
  have h1 : 1 ≤ n := by have := HGR.out.one; omega
  have h2 : n ≤ 120 := by have := HGR.out.le; omega
  rw [← hn] at hx HA ⊢
  have HL := Lib.hid hn
  have HX := Lib.hid hx
  have HC := Lib.hid (hasPerm_ok (p := p) hg)
  obtain ⟨f, hf⟩ : ∃ f, findIdx gs p = f := ⟨_, rfl⟩
  have hfr := findIdx_range gs p
  rw [hf] at hfr
  have HF := Lib.hid hf
  clear hg hn hx hf
  obtain ⟨b1, o1, rfl, hb1, hc1⟩ := HX.out (by omega)
  obtain ⟨A0, c0, cc0, rr0⟩ := RII.at hc1 (k := 0) (by omega)
  have hl0 := rr0.lenle
  obtain ⟨l0, hl0e⟩ : ∃ l0, l0 = (gs.getD 0 []).length := ⟨_, rfl⟩
  rw [← hl0e] at cc0 hl0
  simp only [Nat.add_zero] at cc0
  have HL0 := Lib.hid hl0e
  clear rr0 hc1 hl0e
  by_cases hll : p.length = l0
  rotate_left
  · have hbn : ((p.length : Int) == l0) = false := beq_eq_false_iff_ne.2 (by omega)
    have hnm : p ∉ gs := fun hm => hll (by rw [HGR.out.len p hm, HL0.out]; rfl)
    have HM := Lib.hid hnm
    clear hnm hfr
    go_enter Try.func20, Try.ntmps20
    go_wp2_with fail
    refine (specGroupOk_any HA.out).mono ?_
    rw [HG.out]
    rintro e w1 ⟨rfl, b⟩
    have e0 := (b.cell (p := ⟨b1, o1, none⟩) hb1).trans cc0
    have B := Lib.hid b
    clear b cc0
    go_wp2_with fail
    go_ret
    exact ⟨retB (by rw [HC.out, decide_eq_false HM.out]), B.out⟩
  have hbn : ((p.length : Int) == l0) = true := by simp [hll]
  have HD : Hid (∀ q ∈ gs, q.length = p.length) := fun q hq => by rw [hll, HL0.out, HGR.out.len q hq]; rfl
  clear hll
  go_enter Try.func20, Try.ntmps20
  go_wp2_with fail
  refine (specGroupOk_any HA.out).mono ?_
  rw [HG.out]
  rintro e w1 ⟨rfl, b⟩
  have e0 := (b.cell (p := ⟨b1, o1, none⟩) hb1).trans cc0
  have B := Lib.hid b
  clear b cc0
  go_wp2_with fail
  refine (l03Find_any (HA.out.below B.out) (HB.out.below B.out) HGR.out.asc HD.out (by have := HL.out; omega)).mono ?_
  rw [HF.out]
  rintro e w2 ⟨rfl, s2⟩
  rcases hfr with ⟨hf0, hf1, hfm⟩ | ⟨hf0, hfm⟩
  · have HM := Lib.hid hfm
    clear hfm hf1
    go_wp2_with fail
    go_ret
    exact ⟨retB (by rw [HC.out, decide_eq_true HM.out]; first | done | rfl | (simp; omega)), bstep B.out s2.below⟩
  · have HM := Lib.hid hfm
    have hneg : f < 0 := by omega
    clear hfm hf0
    go_wp2_with fail
    go_ret
    exact ⟨retB (by rw [HC.out, decide_eq_false HM.out]; first | rfl | (simp; omega)), bstep B.out s2.below⟩

set_option maxHeartbeats 1600000 in
theorem implHasPerm_any {w : World} {a b : Value} {gs : List (List Int)} {p : List Int} (ha : RII w a gs) (hb : RI w b p) :
    Calls Try.prog 22 #[a, b] w fun e w' => e = .returned (.bool (hasPerm gs p)) ∧ Below w.heap.size w w' := by
  have HB := Lib.hid hb
  have hlp := hb.lenle
  obtain ⟨B0, d, rfl⟩ := hb.shape
  clear hb
  have HA := Lib.hid ha
  obtain ⟨A, c, rfl, -, hx⟩ := ha
  cases hg : groupOk gs with
  | false =>
    have HC := Lib.hid (hasPerm_bad (p := p) hg)
    have HG := Lib.hid hg
    clear hg hx
    go_enter Try.func22, Try.ntmps22
    go_wp2_with fail
    refine (implGroupOk_any HA.out).mono ?_
    rw [HG.out]
    rintro e w1 ⟨rfl, b1⟩
    go_wp2
    go_ret
    exact ⟨retB HC.out.symm, b1⟩
  | true =>
  have HG := Lib.hid hg
  have HGR := Lib.hid (grp_of hg)
  obtain ⟨n, hn⟩ : ∃ n, n = gs.length := ⟨_, rfl⟩
  have h1 : 1 ≤ n := by have := HGR.out.one; omega
  have h2 : n ≤ 120 := by have := HGR.out.le; omega
  rw [← hn] at hx HA ⊢
  have HL := Lib.hid hn
  have HX := Lib.hid hx
  have HC := Lib.hid (hasPerm_ok (p := p) hg)
  obtain ⟨f, hf⟩ : ∃ f, findIdx gs p = f := ⟨_, rfl⟩
  have hfr := findIdx_range gs p
  rw [hf] at hfr
  have HF := Lib.hid hf
  clear hg hn hx hf
  go_enter Try.func22, Try.ntmps22
  go_wp2_with fail
  refine (implGroupOk_any HA.out).mono ?_
  rw [HG.out]
  rintro e w1 ⟨rfl, b1⟩
  have B := Lib.hid b1
  clear b1
  go_wp2_with fail
  refine (indexOf_any (HA.out.below B.out) (HB.out.below B.out) HGR.out.asc (by have := HL.out; omega)).mono ?_
  rw [HF.out]
  rintro e w2 ⟨rfl, rfl⟩
  rcases hfr with ⟨hf0, hf1, hfm⟩ | ⟨hf0, hfm⟩
  · have HM := Lib.hid hfm
    clear hfm hf1
    go_wp2_with fail
    go_ret
    exact ⟨retB (by rw [HC.out, decide_eq_true HM.out]; first | done | rfl | (simp; omega)), B.out⟩
  · have HM := Lib.hid hfm
    have hneg : f < 0 := by omega
    clear hfm hf0
    go_wp2_with fail
    go_ret
    exact ⟨retB (by rw [HC.out, decide_eq_false HM.out]; first | rfl | (simp; omega)), B.out⟩

set_option maxHeartbeats 1600000 in
theorem specFixedPairs_any {w : World} {a : Value} {gs : List (List Int)} (ha : RII w a gs) :
    Calls Try.prog 24 #[a] w fun e w' => e = .returned (.int .i64 (fixedPairs gs)) ∧ Below w.heap.size w w' := by
  have HA := Lib.hid ha
  obtain ⟨A, c, rfl, -, hx⟩ := ha
  cases hg : groupOk gs with
  | false =>
    have HC := Lib.hid (fixedPairs_bad hg)
    have HG := Lib.hid hg
    clear hg hx
    go_enter Try.func24, Try.ntmps24
    go_wp2_with fail
    refine (specGroupOk_any HA.out).mono ?_
    rw [HG.out]
    rintro e w1 ⟨rfl, b1⟩
    go_wp2
    go_ret
    exact ⟨retI HC.out.symm, b1⟩
  | true =>
  have HG := Lib.hid hg
  have HGR := Lib.hid (grp_of hg)
  obtain ⟨n, hn⟩ : ∃ n, n = gs.length := ⟨_, rfl⟩
  have h1 : 1 ≤ n := by have := HGR.out.one; omega
  have h2 : n ≤ 120 := by have := HGR.out.le; omega
  rw [← hn] at hx HA ⊢
  have HL := Lib.hid hn
  have HX := Lib.hid hx
  have HC := Lib.hid (fixedPairs_ok hg)
  clear hg hn hx
  go_enter Try.func24, Try.ntmps24
  go_wp2_with fail
  refine (specGroupOk_any HA.out).mono ?_
  rw [HG.out]
  rintro e w1 ⟨rfl, b⟩
  have B := Lib.hid b
  clear b
  go_wp2_with fail
  go_loop [3, 13] (fun v i => ∃ k t : Nat, k ≤ n ∧ i = .int .i64 k ∧ v = .int .i64 t ∧ t ≤ 1200 ∧ Hid (t = fixSum (gs.take k))) (fun _ i => n - (intOf i).toNat)
  case atStart => exact ⟨0, 0, Nat.zero_le _, rfl, rfl, by omega, rfl⟩
  case round =>
    obtain ⟨k, t, hk, rfl, rfl, ht, HT⟩ := hrel
    by_cases hlt : k < n
    · have hkl : k < gs.length := by have := HL.out; omega
      obtain ⟨b1, o1, rfl, hb1, hc1⟩ := HX.out (by omega)
      obtain ⟨A1, c1, cc1, rr1⟩ := RII.at hc1 (k := k) hlt
      have e1 := (B.out.cell (p := ⟨b1, o1 + k, none⟩) hb1).trans cc1
      obtain ⟨p, hp⟩ : ∃ p, p = gs.getD k [] := ⟨_, rfl⟩
      rw [← hp] at e1 rr1
      have hp10 : p.length ≤ 10 := by rw [hp]; exact HGR.out.short _ (getD_memS hkl)
      have HS : Hid (fixSum (gs.take (k + 1)) = fixSum (gs.take k) + fixPts p) := by rw [hp]; exact fixSum_succ hkl
      have hst := fixSum_take HGR.out (k + 1)
      have HST := Lib.hid hst
      obtain ⟨AA, cc, hv, -, hq⟩ := rr1.below B.out
      simp only [Value.slice.injEq, true_and] at hv
      obtain ⟨rfl, rfl⟩ := hv
      obtain ⟨m, hm⟩ : ∃ m, m = p.length := ⟨_, rfl⟩
      rw [← hm] at hq hp10 e1
      have HQ := Lib.hid hq
      have HM := Lib.hid hm
      clear hc1 cc1 rr1 hp hkl hst hq hm
      go_wp2_with fail
      go_loop [3, 19] (fun v i => ∃ j u : Nat, j ≤ m ∧ i = .int .i64 j ∧ v = .int .i64 u ∧ u ≤ 1210 ∧ Hid (u = t + fixTo p j)) (fun _ i => m - (intOf i).toNat)
      case atStart => exact ⟨0, t, Nat.zero_le _, rfl, rfl, by omega, by simp [Hid, fixTo]⟩
      case round =>
        obtain ⟨j, u, hj, rfl, rfl, hu, HU⟩ := hrel
        by_cases hlt2 : j < m
        · obtain ⟨b2, o2, rfl, hb2, hc2⟩ := HQ.out (by omega)
          have c2 := hc2 j hlt2
          obtain ⟨x, hx⟩ : ∃ x, x = p.getD j 0 := ⟨_, rfl⟩
          rw [← hx] at c2
          have hle := fixTo_le p (j + 1)
          have hsu := fixTo_succ p j
          rw [← hx] at hsu
          clear hc2 hx
          by_cases he : x = (j : Int)
          · rw [if_pos he] at hsu
            have hb : ((j : Int) == x) = true := by simp [he]
            have hu2 : u + 1 ≤ 1210 := by have := HU.out; omega
            have HN : Hid (u + 1 = t + fixTo p (j + 1)) := by have := HU.out; exact (by omega : u + 1 = t + fixTo p (j + 1))
            clear hsu he hle
            go_wp2_with fail
            go_round
            case rel => exact ⟨j + 1, u + 1, by omega, by go_num, by go_num, hu2, HN.out⟩
            case measure => simp [intOf]; omega
          · rw [if_neg he] at hsu
            have hb : ((j : Int) == x) = false := beq_eq_false_iff_ne.2 (fun e => he e.symm)
            have HN : Hid (u = t + fixTo p (j + 1)) := by have := HU.out; exact (by omega : u = t + fixTo p (j + 1))
            clear hsu he hle
            go_wp2_with fail
            go_round
            case rel => exact ⟨j + 1, u, by omega, by go_num, rfl, hu, HN.out⟩
            case measure => simp [intOf]; omega
        · have hfin : u = fixSum (gs.take (k + 1)) := by
            have h1 := HU.out; have h2 := HS.out; have h3 := HT.out; have h4 := HM.out
            obtain rfl : j = m := by omega
            rw [h4] at h1
            unfold fixPts at h2
            omega
          have HF := Lib.hid hfin
          have hu3 : u ≤ 1200 := by have := HST.out; omega
          clear hfin
          go_wp2_with fail
          go_round
          case rel => exact ⟨k + 1, u, by omega, by go_num, rfl, hu3, HF.out⟩
          case measure => simp [intOf]; omega
    · go_wp2_with fail
      go_ret
      have h3 := HT.out
      rw [List.take_of_length_le (by have := HL.out; omega)] at h3
      exact ⟨retI (by rw [HC.out, h3]), B.out⟩

set_option maxHeartbeats 1600000 in
theorem implFixedPairs_any {w : World} {a : Value} {gs : List (List Int)} (ha : RII w a gs) :
    Calls Try.prog 25 #[a] w fun e w' => e = .returned (.int .i64 (fixedPairs gs)) ∧ Below w.heap.size w w' := by
  have HA := Lib.hid ha
  obtain ⟨A, c, rfl, -, hx⟩ := ha
  cases hg : groupOk gs with
  | false =>
    have HC := Lib.hid (fixedPairs_bad hg)
    have HG := Lib.hid hg
    clear hg hx
    go_enter Try.func25, Try.ntmps25
    go_wp2_with fail
    refine (implGroupOk_any HA.out).mono ?_
    rw [HG.out]
    rintro e w1 ⟨rfl, b1⟩
    go_wp2
    go_ret
    exact ⟨retI HC.out.symm, b1⟩
  | true =>
  have HG := Lib.hid hg
  have HGR := Lib.hid (grp_of hg)
  obtain ⟨n, hn⟩ : ∃ n, n = gs.length := ⟨_, rfl⟩
  have h1 : 1 ≤ n := by have := HGR.out.one; omega
  have h2 : n ≤ 120 := by have := HGR.out.le; omega
  rw [← hn] at hx HA ⊢
  have HL := Lib.hid hn
  have HX := Lib.hid hx
  have HC := Lib.hid (fixedPairs_ok hg)
  clear hg hn hx
  go_enter Try.func25, Try.ntmps25
  go_wp2_with fail
  refine (implGroupOk_any HA.out).mono ?_
  rw [HG.out]
  rintro e w1 ⟨rfl, b⟩
  have B := Lib.hid b
  clear b
  go_wp2_with fail
  go_loop [3, 13] (fun v i => ∃ k t : Nat, k ≤ n ∧ i = .int .i64 k ∧ v = .int .i64 t ∧ t ≤ 1200 ∧ Hid (t = fixSum (gs.take k))) (fun _ i => n - (intOf i).toNat)
  case atStart => exact ⟨0, 0, Nat.zero_le _, rfl, rfl, by omega, rfl⟩
  case round =>
    obtain ⟨k, t, hk, rfl, rfl, ht, HT⟩ := hrel
    by_cases hlt : k < n
    · have hkl : k < gs.length := by have := HL.out; omega
      obtain ⟨b1, o1, rfl, hb1, hc1⟩ := HX.out (by omega)
      obtain ⟨A1, c1, cc1, rr1⟩ := RII.at hc1 (k := k) hlt
      have e1 := (B.out.cell (p := ⟨b1, o1 + k, none⟩) hb1).trans cc1
      obtain ⟨p, hp⟩ : ∃ p, p = gs.getD k [] := ⟨_, rfl⟩
      rw [← hp] at e1 rr1
      have hp10 : p.length ≤ 10 := by rw [hp]; exact HGR.out.short _ (getD_memS hkl)
      have HS : Hid (fixSum (gs.take (k + 1)) = fixSum (gs.take k) + fixPts p) := by rw [hp]; exact fixSum_succ hkl
      have hst := fixSum_take HGR.out (k + 1)
      have HST := Lib.hid hst
      obtain ⟨AA, cc, hv, -, hq⟩ := rr1.below B.out
      simp only [Value.slice.injEq, true_and] at hv
      obtain ⟨rfl, rfl⟩ := hv
      obtain ⟨m, hm⟩ : ∃ m, m = p.length := ⟨_, rfl⟩
      rw [← hm] at hq hp10 e1
      have HQ := Lib.hid hq
      have HM := Lib.hid hm
      clear hc1 cc1 rr1 hp hkl hst hq hm
      go_wp2_with fail
      go_loop [3, 19] (fun v i => ∃ j u : Nat, j ≤ m ∧ i = .int .i64 j ∧ v = .int .i64 u ∧ u ≤ 1210 ∧ Hid (u = t + fixTo p j)) (fun _ i => m - (intOf i).toNat)
      case atStart => exact ⟨0, t, Nat.zero_le _, rfl, rfl, by omega, by simp [Hid, fixTo]⟩
      case round =>
        obtain ⟨j, u, hj, rfl, rfl, hu, HU⟩ := hrel
        by_cases hlt2 : j < m
        · obtain ⟨b2, o2, rfl, hb2, hc2⟩ := HQ.out (by omega)
          have c2 := hc2 j hlt2
          obtain ⟨x, hx⟩ : ∃ x, x = p.getD j 0 := ⟨_, rfl⟩
          rw [← hx] at c2
          have hle := fixTo_le p (j + 1)
          have hsu := fixTo_succ p j
          rw [← hx] at hsu
          clear hc2 hx
          by_cases he : x = (j : Int)
          · rw [if_pos he] at hsu
            have hb : ((j : Int) == x) = true := by simp [he]
            have hu2 : u + 1 ≤ 1210 := by have := HU.out; omega
            have HN : Hid (u + 1 = t + fixTo p (j + 1)) := by have := HU.out; exact (by omega : u + 1 = t + fixTo p (j + 1))
            clear hsu he hle
            go_wp2_with fail
            go_round
            case rel => exact ⟨j + 1, u + 1, by omega, by go_num, by go_num, hu2, HN.out⟩
            case measure => simp [intOf]; omega
          · rw [if_neg he] at hsu
            have hb : ((j : Int) == x) = false := beq_eq_false_iff_ne.2 (fun e => he e.symm)
            have HN : Hid (u = t + fixTo p (j + 1)) := by have := HU.out; exact (by omega : u = t + fixTo p (j + 1))
            clear hsu he hle
            go_wp2_with fail
            go_round
            case rel => exact ⟨j + 1, u, by omega, by go_num, rfl, hu, HN.out⟩
            case measure => simp [intOf]; omega
        · have hfin : u = fixSum (gs.take (k + 1)) := by
            have h1 := HU.out; have h2 := HS.out; have h3 := HT.out; have h4 := HM.out
            obtain rfl : j = m := by omega
            rw [h4] at h1
            unfold fixPts at h2
            omega
          have HF := Lib.hid hfin
          have hu3 : u ≤ 1200 := by have := HST.out; omega
          clear hfin
          go_wp2_with fail
          go_round
          case rel => exact ⟨k + 1, u, by omega, by go_num, rfl, hu3, HF.out⟩
          case measure => simp [intOf]; omega
    · go_wp2_with fail
      go_ret
      have h3 := HT.out
      rw [List.take_of_length_le (by have := HL.out; omega)] at h3
      exact ⟨retI (by rw [HC.out, h3]), B.out⟩

set_option maxHeartbeats 1600000 in
theorem specIsAbelian_any {w : World} {a : Value} {gs : List (List Int)} (ha : RII w a gs) :
    Calls Try.prog 26 #[a] w fun e w' => e = .returned (.bool (isAbelian gs)) ∧ Below w.heap.size w w' := by
  have HA := Lib.hid ha
  obtain ⟨A, c, rfl, -, hx⟩ := ha
  cases hg : groupOk gs with
  | false =>
    have HC := Lib.hid (isAbelian_bad hg)
    have HG := Lib.hid hg
    clear hg hx
    go_enter Try.func26, Try.ntmps26
    go_wp2_with fail
    refine (specGroupOk_any HA.out).mono ?_
    rw [HG.out]
    rintro e w1 ⟨rfl, b1⟩
    go_wp2
    go_ret
    exact ⟨retB HC.out.symm, b1⟩
  | true =>
  have HG := Lib.hid hg
  have HGR := Lib.hid (grp_of hg)
  obtain ⟨n, hn⟩ : ∃ n, n = gs.length := ⟨_, rfl⟩
  have h1 : 1 ≤ n := by have := HGR.out.one; omega
  have h2 : n ≤ 120 := by have := HGR.out.le; omega
  rw [← hn] at hx HA ⊢
  have HL := Lib.hid hn
  have HX := Lib.hid hx
  clear hg hn hx
  go_enter Try.func26, Try.ntmps26
  go_wp2_with fail
  refine (specGroupOk_any HA.out).mono ?_
  rw [HG.out]
  rintro e w1 ⟨rfl, b⟩
  have B0 := Lib.hid b
  clear b
  go_wp2_with fail
  go_loopw [12] (fun i wr => ∃ i' : Nat, i' ≤ n ∧ i = .int .i64 i' ∧ Hid (∀ p ∈ gs.take i', ∀ q ∈ gs, compose p q = compose q p) ∧ Hid (Below w.heap.size w wr)) (fun i _ => n - (intOf i).toNat)
  case atStart => exact ⟨0, Nat.zero_le _, rfl, fun p h => absurd h (by simp), B0.out⟩
  case round =>
    obtain ⟨i, hi, rfl, HI, B1⟩ := hrel
    by_cases hlt2 : i < n
    · obtain ⟨b1, o1, rfl, hb1, hc1⟩ := HX.out (by omega)
      obtain ⟨A1, c1, cc1, rr1⟩ := RII.at hc1 (k := i) hlt2
      have e1 := (B1.out.cell (p := ⟨b1, o1 + i, none⟩) hb1).trans cc1
      have hil : i < gs.length := by have := HL.out; omega
      obtain ⟨p, hp⟩ : ∃ p, p = gs.getD i [] := ⟨_, rfl⟩
      rw [← hp] at e1 rr1
      have HP := Lib.hid rr1
      have HPE := Lib.hid hp
      have HPM : Hid (p ∈ gs) := by rw [Hid, hp]; exact getD_memS hil
      clear rr1 cc1 hp hil
      go_wp2_with fail
      clear e1
      go_loopw [18] (fun i wr => ∃ j' : Nat, j' ≤ n ∧ i = .int .i64 j' ∧ Hid (∀ q ∈ gs.take j', compose p q = compose q p) ∧ Hid (Below w.heap.size w wr)) (fun i _ => n - (intOf i).toNat)
      case atStart => exact ⟨0, Nat.zero_le _, rfl, fun p h => absurd h (by simp), B1.out⟩
      case round =>
        obtain ⟨j, hj, rfl, HJ, B⟩ := hrel
        by_cases hlt3 : j < n
        · obtain ⟨A2, c2, cc2, rr2⟩ := RII.at hc1 (k := j) hlt3
          have e2 := (B.out.cell (p := ⟨b1, o1 + j, none⟩) hb1).trans cc2
          have hjl : j < gs.length := by have := HL.out; omega
          obtain ⟨q, hq⟩ : ∃ q, q = gs.getD j [] := ⟨_, rfl⟩
          rw [← hq] at e2 rr2
          have hqm : q ∈ gs := by rw [hq]; exact getD_memS hjl
          have HQ := Lib.hid rr2
          have HI1 : Hid (Into p q) := fun x hx => by rw [HGR.out.len q hqm, ← HGR.out.len p HPM.out]; exact permOk_mem (HGR.out.perm p HPM.out) x hx
          have HI2 : Hid (Into q p) := fun x hx => by rw [HGR.out.len p HPM.out, ← HGR.out.len q hqm]; exact permOk_mem (HGR.out.perm q hqm) x hx
          have hp10 : p.length ≤ 1048576 := by have := HGR.out.short p HPM.out; omega
          have hq10 : q.length ≤ 1048576 := by have := HGR.out.short q hqm; omega
          have HQM := Lib.hid (And.intro hqm hq)
          have HJT := Lib.hid (takeG_succ hjl)
          clear rr2 cc2 hq hqm hjl
          go_wp2_with fail
          refine (l02Compose_any (RI.below HP.out B.out) (RI.below HQ.out B.out) hp10 HI1.out).mono ?_
          rintro e w1 ⟨v1, rfl, o, b⟩
          have B2 := Lib.hid (bstep B.out b)
          have O := Lib.hid o
          clear o b e2
          go_wp2_with fail
          refine (l02Compose_any (RI.below HQ.out B2.out) (RI.below HP.out B2.out) hq10 HI2.out).mono ?_
          rintro e w2 ⟨v2, rfl, o, b⟩
          have B3 := Lib.hid (bstep B2.out b)
          have O2 := Lib.hid (And.intro (O.out.reads.below b) o.reads)
          clear o b O
          by_cases he : compose p q = compose q p
          · have HE := Lib.hid he
            clear he
            go_wp2_with fail
            refine (l03Same_any O2.out.1 O2.out.2).mono ?_
            rw [decide_eq_true HE.out]
            rintro e w3 ⟨rfl, s3⟩
            have B4 := Lib.hid (bstep B3.out s3.below)
            clear s3
            have HN : Hid (∀ r ∈ gs.take (j + 1), compose p r = compose r p) := fun r hr => by
              rw [HJT.out] at hr
              rcases List.mem_append.1 hr with hr | hr
              · exact HJ.out r hr
              · simp only [List.mem_singleton] at hr; rw [hr, ← HQM.out.2]; exact HE.out
            go_wp2_with fail
            go_roundw
            case rel => exact ⟨j + 1, by omega, by go_num, HN.out, B4.out⟩
            case measure => simp [intOf]; omega
          · have HE := Lib.hid he
            have HN := Lib.hid (isAbelian_no HPM.out HQM.out.1 he)
            clear he
            go_wp2_with fail
            refine (l03Same_any O2.out.1 O2.out.2).mono ?_
            rw [decide_eq_false HE.out]
            rintro e w3 ⟨rfl, s3⟩
            have B4 := Lib.hid (bstep B3.out s3.below)
            clear s3
            go_wp2_with fail
            go_ret
            exact ⟨retB HN.out.symm, B4.out⟩
        · have HN : Hid (∀ r ∈ gs.take (i + 1), ∀ q ∈ gs, compose r q = compose q r) := fun r hr q hq => by
            rw [takeG_succ (by have := HL.out; omega)] at hr
            rcases List.mem_append.1 hr with hr | hr
            · exact HI.out r hr q hq
            · simp only [List.mem_singleton] at hr
              have h := HJ.out
              rw [List.take_of_length_le (by have := HL.out; omega)] at h
              rw [hr, ← HPE.out]; exact h q hq
          go_wp2_with fail
          go_roundw
          case rel => exact ⟨i + 1, by omega, by go_num, HN.out, B.out⟩
          case measure => simp [intOf]; omega
    · go_wp2_with fail
      go_ret
      refine ⟨retB (Eq.symm (isAbelian_yes HG.out fun p hp q hq => HI.out p ?_ q hq)), B1.out⟩
      rw [List.take_of_length_le (by have := HL.out; omega)]
      exact hp

set_option maxHeartbeats 1600000 in
theorem implIsAbelian_any {w : World} {a : Value} {gs : List (List Int)} (ha : RII w a gs) :
    Calls Try.prog 27 #[a] w fun e w' => e = .returned (.bool (isAbelian gs)) ∧ Below w.heap.size w w' := by
  have HA := Lib.hid ha
  obtain ⟨A, c, rfl, -, hx⟩ := ha
  cases hg : groupOk gs with
  | false =>
    have HC := Lib.hid (isAbelian_bad hg)
    have HG := Lib.hid hg
    clear hg hx
    go_enter Try.func27, Try.ntmps27
    go_wp2_with fail
    refine (implGroupOk_any HA.out).mono ?_
    rw [HG.out]
    rintro e w1 ⟨rfl, b1⟩
    go_wp2
    go_ret
    exact ⟨retB HC.out.symm, b1⟩
  | true =>
  have HG := Lib.hid hg
  have HGR := Lib.hid (grp_of hg)
  obtain ⟨n, hn⟩ : ∃ n, n = gs.length := ⟨_, rfl⟩
  have h1 : 1 ≤ n := by have := HGR.out.one; omega
  have h2 : n ≤ 120 := by have := HGR.out.le; omega
  rw [← hn] at hx HA ⊢
  have HL := Lib.hid hn
  have HX := Lib.hid hx
  clear hg hn hx
  go_enter Try.func27, Try.ntmps27
  go_wp2_with fail
  refine (implGroupOk_any HA.out).mono ?_
  rw [HG.out]
  rintro e w1 ⟨rfl, b⟩
  have B0 := Lib.hid b
  clear b
  go_wp2_with fail
  go_loopw [12] (fun i wr => ∃ i' : Nat, i' ≤ n ∧ i = .int .i64 i' ∧ Hid (∀ p ∈ gs.take i', ∀ q ∈ gs, compose p q = compose q p) ∧ Hid (Below w.heap.size w wr)) (fun i _ => n - (intOf i).toNat)
  case atStart => exact ⟨0, Nat.zero_le _, rfl, fun p h => absurd h (by simp), B0.out⟩
  case round =>
    obtain ⟨i, hi, rfl, HI, B1⟩ := hrel
    by_cases hlt2 : i < n
    · obtain ⟨b1, o1, rfl, hb1, hc1⟩ := HX.out (by omega)
      obtain ⟨A1, c1, cc1, rr1⟩ := RII.at hc1 (k := i) hlt2
      have e1 := (B1.out.cell (p := ⟨b1, o1 + i, none⟩) hb1).trans cc1
      have hil : i < gs.length := by have := HL.out; omega
      obtain ⟨p, hp⟩ : ∃ p, p = gs.getD i [] := ⟨_, rfl⟩
      rw [← hp] at e1 rr1
      have HP := Lib.hid rr1
      have HPE := Lib.hid hp
      have HPM : Hid (p ∈ gs) := by rw [Hid, hp]; exact getD_memS hil
      clear rr1 cc1 hp hil
      go_wp2_with fail
      clear e1
      go_loopw [18] (fun i wr => ∃ j' : Nat, j' ≤ n ∧ i = .int .i64 j' ∧ Hid (∀ q ∈ gs.take j', compose p q = compose q p) ∧ Hid (Below w.heap.size w wr)) (fun i _ => n - (intOf i).toNat)
      case atStart => exact ⟨0, Nat.zero_le _, rfl, fun p h => absurd h (by simp), B1.out⟩
      case round =>
        obtain ⟨j, hj, rfl, HJ, B⟩ := hrel
        by_cases hlt3 : j < n
        · obtain ⟨A2, c2, cc2, rr2⟩ := RII.at hc1 (k := j) hlt3
          have e2 := (B.out.cell (p := ⟨b1, o1 + j, none⟩) hb1).trans cc2
          have hjl : j < gs.length := by have := HL.out; omega
          obtain ⟨q, hq⟩ : ∃ q, q = gs.getD j [] := ⟨_, rfl⟩
          rw [← hq] at e2 rr2
          have hqm : q ∈ gs := by rw [hq]; exact getD_memS hjl
          have HQ := Lib.hid rr2
          have HI1 : Hid (Into p q) := fun x hx => by rw [HGR.out.len q hqm, ← HGR.out.len p HPM.out]; exact permOk_mem (HGR.out.perm p HPM.out) x hx
          have HI2 : Hid (Into q p) := fun x hx => by rw [HGR.out.len p HPM.out, ← HGR.out.len q hqm]; exact permOk_mem (HGR.out.perm q hqm) x hx
          have hp10 : p.length ≤ 1048576 := by have := HGR.out.short p HPM.out; omega
          have hq10 : q.length ≤ 1048576 := by have := HGR.out.short q hqm; omega
          have HQM := Lib.hid (And.intro hqm hq)
          have HJT := Lib.hid (takeG_succ hjl)
          clear rr2 cc2 hq hqm hjl
          go_wp2_with fail
          refine (compose_any (RI.below HP.out B.out) (RI.below HQ.out B.out) hp10 HI1.out).mono ?_
          rintro e w1 ⟨v1, rfl, o, b⟩
          have B2 := Lib.hid (bstep B.out b)
          have O := Lib.hid o
          clear o b e2
          go_wp2_with fail
          refine (compose_any (RI.below HQ.out B2.out) (RI.below HP.out B2.out) hq10 HI2.out).mono ?_
          rintro e w2 ⟨v2, rfl, o, b⟩
          have B3 := Lib.hid (bstep B2.out b)
          have O2 := Lib.hid (And.intro (O.out.reads.below b) o.reads)
          clear o b O
          by_cases he : compose p q = compose q p
          · have HE := Lib.hid he
            clear he
            go_wp2_with fail
            refine (slicesEqual_any O2.out.1 O2.out.2).mono ?_
            rw [decide_eq_true HE.out]
            rintro e w3 ⟨rfl, s3⟩
            have B4 := Lib.hid (bstep B3.out s3.below)
            clear s3
            have HN : Hid (∀ r ∈ gs.take (j + 1), compose p r = compose r p) := fun r hr => by
              rw [HJT.out] at hr
              rcases List.mem_append.1 hr with hr | hr
              · exact HJ.out r hr
              · simp only [List.mem_singleton] at hr; rw [hr, ← HQM.out.2]; exact HE.out
            go_wp2_with fail
            go_roundw
            case rel => exact ⟨j + 1, by omega, by go_num, HN.out, B4.out⟩
            case measure => simp [intOf]; omega
          · have HE := Lib.hid he
            have HN := Lib.hid (isAbelian_no HPM.out HQM.out.1 he)
            clear he
            go_wp2_with fail
            refine (slicesEqual_any O2.out.1 O2.out.2).mono ?_
            rw [decide_eq_false HE.out]
            rintro e w3 ⟨rfl, s3⟩
            have B4 := Lib.hid (bstep B3.out s3.below)
            clear s3
            go_wp2_with fail
            go_ret
            exact ⟨retB HN.out.symm, B4.out⟩
        · have HN : Hid (∀ r ∈ gs.take (i + 1), ∀ q ∈ gs, compose r q = compose q r) := fun r hr q hq => by
            rw [takeG_succ (by have := HL.out; omega)] at hr
            rcases List.mem_append.1 hr with hr | hr
            · exact HI.out r hr q hq
            · simp only [List.mem_singleton] at hr
              have h := HJ.out
              rw [List.take_of_length_le (by have := HL.out; omega)] at h
              rw [hr, ← HPE.out]; exact h q hq
          go_wp2_with fail
          go_roundw
          case rel => exact ⟨i + 1, by omega, by go_num, HN.out, B.out⟩
          case measure => simp [intOf]; omega
    · go_wp2_with fail
      go_ret
      refine ⟨retB (Eq.symm (isAbelian_yes HG.out fun p hp q hq => HI.out p ?_ q hq)), B1.out⟩
      rw [List.take_of_length_le (by have := HL.out; omega)]
      exact hp
end Go.Proofs.Ytfanohebejemmaa
