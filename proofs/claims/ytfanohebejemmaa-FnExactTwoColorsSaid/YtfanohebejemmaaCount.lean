/-
  Contents, CountFixed and CountContents, of the program and of the reference.
-/
import Derived.Test.YtfanohebejemmaaWaysI
import Derived.Test.YtfanohebejemmaaWaysS
import Derived.Test.YtfanohebejemmaaGroupOkS
import Derived.Test.YtfanohebejemmaaGroupOkI
namespace Go.Proofs.Ytfanohebejemmaa
open Go.RowKit Go.Deep

set_option maxHeartbeats 800000 in
theorem implContents_any {w : World} {a : Value} {c : List Int} (ha : RI w a c) (d : Int) :
    Calls Try.prog 90 #[a, .int .i64 d] w fun e w' => e = .returned (.bool (contentsOk c d)) ∧ w = w' := by
  obtain ⟨A, cp, rfl, hm, hx⟩ := ha
  unfold maxLen at hm
  obtain ⟨n, hn⟩ : ∃ n, n = c.length := ⟨_, rfl⟩
  rw [← hn] at hx hm ⊢
  by_cases h4 : 4 < n
  · have HC := Lib.hid (contentsOk_long (n := d) (hn ▸ h4 : 4 < c.length))
    clear hx hn
    go_enter Try.func90, Try.ntmps90
    go_wp2
    go_ret
    exact ⟨retB HC.out.symm, rfl⟩
  have hn4 : n ≤ 4 := by omega
  have hg : decide ((4 : Int) < (n : Int)) = false := decide_eq_false (by omega)
  have HX := Lib.hid hx
  have HN := Lib.hid hn
  clear hx hn h4
  go_enter Try.func90, Try.ntmps90
  go_wp2_with fail
  go_loop [5, 13] (fun v i => ∃ (k : Nat) (t : Int), k ≤ n ∧ i = .int .i64 k ∧ v = .int .i64 t ∧ 0 ≤ t ∧ t ≤ 10 * (k : Int) ∧ Hid (t = (c.take k).sum ∧ ∀ x ∈ c.take k, 0 ≤ x ∧ x ≤ 10)) (fun _ i => n - (intOf i).toNat)
  case atStart => exact ⟨0, 0, Nat.zero_le _, rfl, rfl, by omega, by omega, rfl, by simp⟩
  case round =>
    obtain ⟨k, t, hk, rfl, rfl, ht0, ht1, HT⟩ := hrel
    by_cases hlt : k < n
    · have hkl : k < c.length := by have := HN.out; omega
      obtain ⟨b, off, rfl, hb, hc⟩ := HX.out (by omega)
      have e1 := hc k hlt
      obtain ⟨x, hx⟩ : ∃ x, x = c.getD k 0 := ⟨_, rfl⟩
      rw [← hx] at e1
      clear hc
      by_cases hr : x < 0 ∨ 10 < x
      · have HB := Lib.hid (contentsOk_out (n := d) hkl (by rw [← hx]; exact hr))
        clear hx hkl
        rcases hr with hr | hr
        all_goals
        go_wp2_with fail
        go_ret
        exact ⟨retB HB.out.symm, rfl⟩
      · have h0 : 0 ≤ x := by omega
        have h1 : x ≤ 10 := by omega
        have hb1 : decide (x < 0) = false := decide_eq_false (by omega)
        have hb2 : decide (10 < x) = false := decide_eq_false (by omega)
        have HS : Hid (t + x = (c.take (k + 1)).sum ∧ ∀ x ∈ c.take (k + 1), 0 ≤ x ∧ x ≤ 10) := by
          refine ⟨by rw [sum_take hkl, ← hx, HT.out.1], fun y hy => ?_⟩
          rw [List.take_add_one, List.getElem?_eq_getElem hkl] at hy
          rcases List.mem_append.1 hy with hy | hy
          · exact HT.out.2 y hy
          · simp only [Option.toList_some, List.mem_singleton] at hy
            have : y = x := by rw [hy, hx]; simp [hkl]
            omega
        clear hx hkl hr
        go_wp2_with fail
        go_round
        case rel => exact ⟨k + 1, t + x, by omega, by go_num, by go_num, by omega, by omega, HS.out⟩
        case measure => simp [intOf]; omega
    · obtain rfl : k = n := by omega
      have h := HT.out
      rw [List.take_of_length_le (by have := HN.out; omega)] at h
      have HE : Hid (contentsOk c d = decide (t = d)) := by rw [Hid, contentsOk_end (by have := HN.out; omega) h.2, ← h.1]
      clear h
      go_wp2_with fail
      go_ret
      exact ⟨retB (by rw [HE.out]; first | done | rfl | (by_cases e : t = d <;> simp [e])), rfl⟩

set_option maxHeartbeats 800000 in
theorem specContents_any {w : World} {a : Value} {c : List Int} (ha : RI w a c) (d : Int) :
    Calls Try.prog 88 #[.int .i64 d, a] w fun e w' => e = .returned (.bool (contentsOk c d)) ∧ w = w' := by
  obtain ⟨A, cp, rfl, hm, hx⟩ := ha
  unfold maxLen at hm
  obtain ⟨n, hn⟩ : ∃ n, n = c.length := ⟨_, rfl⟩
  rw [← hn] at hx hm ⊢
  by_cases h4 : 4 < n
  · have HC := Lib.hid (contentsOk_long (n := d) (hn ▸ h4 : 4 < c.length))
    clear hx hn
    go_enter Try.func88, Try.ntmps88
    go_wp2
    go_ret
    exact ⟨retB HC.out.symm, rfl⟩
  have hn4 : n ≤ 4 := by omega
  have hg : decide ((4 : Int) < (n : Int)) = false := decide_eq_false (by omega)
  have HX := Lib.hid hx
  have HN := Lib.hid hn
  clear hx hn h4
  go_enter Try.func88, Try.ntmps88
  go_wp2_with fail
  go_loop [5, 13] (fun v i => ∃ (k : Nat) (t : Int), k ≤ n ∧ i = .int .i64 k ∧ v = .int .i64 t ∧ 0 ≤ t ∧ t ≤ 10 * (k : Int) ∧ Hid (t = (c.take k).sum ∧ ∀ x ∈ c.take k, 0 ≤ x ∧ x ≤ 10)) (fun _ i => n - (intOf i).toNat)
  case atStart => exact ⟨0, 0, Nat.zero_le _, rfl, rfl, by omega, by omega, rfl, by simp⟩
  case round =>
    obtain ⟨k, t, hk, rfl, rfl, ht0, ht1, HT⟩ := hrel
    by_cases hlt : k < n
    · have hkl : k < c.length := by have := HN.out; omega
      obtain ⟨b, off, rfl, hb, hc⟩ := HX.out (by omega)
      have e1 := hc k hlt
      obtain ⟨x, hx⟩ : ∃ x, x = c.getD k 0 := ⟨_, rfl⟩
      rw [← hx] at e1
      clear hc
      by_cases hr : x < 0 ∨ 10 < x
      · have HB := Lib.hid (contentsOk_out (n := d) hkl (by rw [← hx]; exact hr))
        clear hx hkl
        rcases hr with hr | hr
        all_goals
        go_wp2_with fail
        refine (l01In_no _ _ _ _ (by omega)).mono ?_
        rintro e w2 ⟨rfl, rfl⟩
        go_wp2
        go_ret
        exact ⟨retB HB.out.symm, rfl⟩
      · have h0 : 0 ≤ x := by omega
        have h1 : x ≤ 10 := by omega
        have hb1 : decide (x < 0) = false := decide_eq_false (by omega)
        have hb2 : decide (10 < x) = false := decide_eq_false (by omega)
        have HS : Hid (t + x = (c.take (k + 1)).sum ∧ ∀ x ∈ c.take (k + 1), 0 ≤ x ∧ x ≤ 10) := by
          refine ⟨by rw [sum_take hkl, ← hx, HT.out.1], fun y hy => ?_⟩
          rw [List.take_add_one, List.getElem?_eq_getElem hkl] at hy
          rcases List.mem_append.1 hy with hy | hy
          · exact HT.out.2 y hy
          · simp only [Option.toList_some, List.mem_singleton] at hy
            have : y = x := by rw [hy, hx]; simp [hkl]
            omega
        clear hx hkl hr
        go_wp2_with fail
        refine (l01In_yes _ _ _ _ (by omega) (by omega)).mono ?_
        rintro e w2 ⟨rfl, rfl⟩
        go_wp2_with fail
        go_round
        case rel => exact ⟨k + 1, t + x, by omega, by go_num, by go_num, by omega, by omega, HS.out⟩
        case measure => simp [intOf]; omega
    · obtain rfl : k = n := by omega
      have h := HT.out
      rw [List.take_of_length_le (by have := HN.out; omega)] at h
      have HE : Hid (contentsOk c d = decide (t = d)) := by rw [Hid, contentsOk_end (by have := HN.out; omega) h.2, ← h.1]
      clear h
      go_wp2_with fail
      go_ret
      exact ⟨retB (by rw [HE.out]; first | done | rfl | (by_cases e : t = d <;> simp [e])), rfl⟩

set_option maxHeartbeats 1600000 in
theorem implCountFixed_any {w : World} {a b : Value} {p c : List Int} (ha : RI w a p) (hb : RI w b c) :
    Calls Try.prog 73 #[a, b] w fun e w' => e = .returned (.int .i64 (countFixed p c)) ∧ Below w.heap.size w w' := by
  have HA := Lib.hid ha
  have HC := Lib.hid hb
  obtain ⟨A, cp, rfl⟩ := ha.shape
  obtain ⟨A2, cp2, rfl⟩ := hb.shape
  have hm := ha.lenle
  clear ha hb
  obtain ⟨m, hmp⟩ : ∃ m, m = p.length := ⟨_, rfl⟩
  obtain ⟨n2, hn2⟩ : ∃ n2, n2 = c.length := ⟨_, rfl⟩
  rw [← hmp] at HA hm ⊢
  rw [← hn2] at HC ⊢
  have HCN := Lib.hid hn2
  have HPN := Lib.hid hmp
  clear hn2
  cases hp : permOk p with
  | false =>
    have HF := Lib.hid (countFixed_bad (c := c) (.inl hp))
    have HP := Lib.hid hp
    clear hp hmp
    go_enter Try.func73, Try.ntmps73
    go_wp2_with fail
    refine (implPermOk_any HA.out).mono ?_
    rw [HP.out]
    rintro e w1 ⟨rfl, b1⟩
    go_wp2
    go_ret
    exact ⟨retI HF.out.symm, b1⟩
  | true =>
  have HP := Lib.hid hp
  have hpl := permOk_le hp
  rw [← hmp] at hpl
  cases hc : contentsOk c (m : Int) with
  | false =>
    have HF := Lib.hid (countFixed_bad (p := p) (.inr (by rw [← hmp]; exact hc)))
    have HCO := Lib.hid hc
    clear hp hmp hc
    go_enter Try.func73, Try.ntmps73
    go_wp2_with fail
    refine (implPermOk_any HA.out).mono ?_
    rw [HP.out]
    rintro e w1 ⟨rfl, b1⟩
    have B := Lib.hid b1
    clear b1
    go_wp2_with fail
    refine (implContents_any (HC.out.below B.out) (m : Int)).mono ?_
    rw [HCO.out]
    rintro e w2 ⟨rfl, rfl⟩
    go_wp2
    go_ret
    exact ⟨retI HF.out.symm, B.out⟩
  | true =>
  have HF := Lib.hid (countFixed_ok hp (by rw [← hmp]; exact hc))
  have HCO := Lib.hid hc
  have HLF := Lib.hid (contents_left hc (by omega))
  have hc1 : 1 ≤ n2 := by rw [HCN.out]; exact HLF.out.1
  have hc4 : n2 ≤ 4 := by rw [HCN.out]; exact HLF.out.2.1
  have HCY : Hid (∀ x ∈ cyclesOf p, 1 ≤ x.length ∧ x.length ≤ 10) := fun x hx => by have := cyclesOf_ne hp x hx; omega
  clear hp hmp hc
  go_enter Try.func73, Try.ntmps73
  go_wp2_with fail
  refine (implPermOk_any HA.out).mono ?_
  rw [HP.out]
  rintro e w1 ⟨rfl, b1⟩
  have B := Lib.hid b1
  clear b1
  go_wp2_with fail
  refine (implContents_any (HC.out.below B.out) (m : Int)).mono ?_
  rw [HCO.out]
  rintro e w2 ⟨rfl, rfl⟩
  go_wp2_with fail
  refine (implCyclesOf_any (HA.out.below B.out)).mono ?_
  rintro e w3 ⟨vc, rfl, o3, b3⟩
  have B3 := Lib.hid (bstep B.out b3)
  have hrc := o3.reads
  obtain ⟨AC, cc, rfl, -⟩ := OIIh.form o3
  have hcap := OIIh.cap o3
  have HRC := Lib.hid hrc
  clear hrc b3 o3
  go_wp2_with fail
  refine (clone_any (HC.out.below B3.out) (by rw [← HCN.out]; exact hc1) (by rw [← HCN.out]; omega)).mono ?_
  rintro e w4 ⟨v4, rfl, o4, b4⟩
  have B4 := Lib.hid b4
  obtain ⟨A4, c4, rfl, hA4⟩ := OI.form o4
  obtain ⟨g, rfl, hg1, hg2⟩ := hA4 (by rw [← HCN.out]; exact hc1)
  rw [← HCN.out] at o4
  have O4 := Lib.hid o4
  rw [← HCN.out]
  clear o4 b4 hA4
  go_wp2_with fail
  refine (implWays_any (cyclesOf p) w3 w4 AC _ cc g n2 c4 c HRC.out hcap HCY.out (cyclesOf_len p) B4.out O4.out HCN.out HLF.out).mono ?_
  rintro e w5 ⟨rfl, o5, t5⟩
  have B5 := Lib.hid (bstep B3.out (B4.out.trans (t5.below hg1)))
  clear o5 t5
  go_wp2_with fail
  go_ret
  exact ⟨retI HF.out.symm, B5.out⟩

set_option maxHeartbeats 1600000 in
theorem specCountFixed_any {w : World} {a b : Value} {p c : List Int} (ha : RI w a p) (hb : RI w b c) :
    Calls Try.prog 72 #[a, b] w fun e w' => e = .returned (.int .i64 (countFixed p c)) ∧ Below w.heap.size w w' := by
  have HA := Lib.hid ha
  have HC := Lib.hid hb
  obtain ⟨A, cp, rfl⟩ := ha.shape
  obtain ⟨A2, cp2, rfl⟩ := hb.shape
  have hm := ha.lenle
  clear ha hb
  obtain ⟨m, hmp⟩ : ∃ m, m = p.length := ⟨_, rfl⟩
  obtain ⟨n2, hn2⟩ : ∃ n2, n2 = c.length := ⟨_, rfl⟩
  rw [← hmp] at HA hm ⊢
  rw [← hn2] at HC ⊢
  have HCN := Lib.hid hn2
  have HPN := Lib.hid hmp
  clear hn2
  cases hp : permOk p with
  | false =>
    have HF := Lib.hid (countFixed_bad (c := c) (.inl hp))
    have HP := Lib.hid hp
    clear hp hmp
    go_enter Try.func72, Try.ntmps72
    go_wp2_with fail
    refine (specPermOk_any HA.out).mono ?_
    rw [HP.out]
    rintro e w1 ⟨rfl, b1⟩
    go_wp2
    go_ret
    exact ⟨retI HF.out.symm, b1⟩
  | true =>
  have HP := Lib.hid hp
  have hpl := permOk_le hp
  rw [← hmp] at hpl
  cases hc : contentsOk c (m : Int) with
  | false =>
    have HF := Lib.hid (countFixed_bad (p := p) (.inr (by rw [← hmp]; exact hc)))
    have HCO := Lib.hid hc
    clear hp hmp hc
    go_enter Try.func72, Try.ntmps72
    go_wp2_with fail
    refine (specPermOk_any HA.out).mono ?_
    rw [HP.out]
    rintro e w1 ⟨rfl, b1⟩
    have B := Lib.hid b1
    clear b1
    go_wp2_with fail
    refine (specContents_any (HC.out.below B.out) (m : Int)).mono ?_
    rw [HCO.out]
    rintro e w2 ⟨rfl, rfl⟩
    go_wp2
    go_ret
    exact ⟨retI HF.out.symm, B.out⟩
  | true =>
  have HF := Lib.hid (countFixed_ok hp (by rw [← hmp]; exact hc))
  have HCO := Lib.hid hc
  have HLF := Lib.hid (contents_left hc (by omega))
  have hc1 : 1 ≤ n2 := by rw [HCN.out]; exact HLF.out.1
  have hc4 : n2 ≤ 4 := by rw [HCN.out]; exact HLF.out.2.1
  have HCY : Hid (∀ x ∈ cyclesOf p, 1 ≤ x.length ∧ x.length ≤ 10) := fun x hx => by have := cyclesOf_ne hp x hx; omega
  clear hp hmp hc
  go_enter Try.func72, Try.ntmps72
  go_wp2_with fail
  refine (specPermOk_any HA.out).mono ?_
  rw [HP.out]
  rintro e w1 ⟨rfl, b1⟩
  have B := Lib.hid b1
  clear b1
  go_wp2_with fail
  refine (specContents_any (HC.out.below B.out) (m : Int)).mono ?_
  rw [HCO.out]
  rintro e w2 ⟨rfl, rfl⟩
  go_wp2_with fail
  refine (specCyclesOf_any (HA.out.below B.out)).mono ?_
  rintro e w3 ⟨vc, rfl, o3, b3⟩
  have B3 := Lib.hid (bstep B.out b3)
  have hrc := o3.reads
  obtain ⟨AC, cc, rfl, -⟩ := OIIh.form o3
  have HRC := Lib.hid hrc
  clear hrc b3 o3
  go_wp2_with fail
  refine (specFixed_any (cyclesOf p) HCY.out (cyclesOf_len p) (cyclesOf p).length w3 w3 AC _ cc 0 _ c HRC.out (by omega) (Below.refl _ _) (HC.out.below B3.out) HLF.out).mono ?_
  rw [List.drop_zero]
  rintro e w5 ⟨rfl, b5⟩
  have B5 := Lib.hid (bstep B3.out b5)
  clear b5
  go_wp2_with fail
  go_ret
  exact ⟨retI HF.out.symm, B5.out⟩

set_option maxHeartbeats 1600000 in
theorem implCountContents_any {w : World} {a b : Value} {gs : List (List Int)} {ct : List Int} (ha : RII w a gs) (hb : RI w b ct) :
    Calls Try.prog 39 #[a, b] w fun e w' => e = .returned (.int .i64 (countContents gs ct)) ∧ Below w.heap.size w w' := by
  have HB := Lib.hid hb
  obtain ⟨A2, cp2, rfl⟩ := hb.shape
  clear hb
  have HA := Lib.hid ha
  obtain ⟨A, c, rfl, -, hx⟩ := ha
  cases hg : groupOk gs with
  | false =>
    have HC := Lib.hid (countContents_bad (c := ct) hg)
    have HG := Lib.hid hg
    clear hg hx
    go_enter Try.func39, Try.ntmps39
    go_wp2_with fail
    refine (implGroupOk_any HA.out).mono ?_
    rw [HG.out]
    rintro e w1 ⟨rfl, b1⟩
    go_wp2
    go_ret
    exact ⟨retI HC.out.symm, b1⟩
  | true =>
  have HG := Lib.hid hg
  have HGR := Lib.hid (grp_of hg)
  obtain ⟨n, hn⟩ : ∃ n, n = gs.length := ⟨_, rfl⟩
  have h1 : 1 ≤ n := by have := HGR.out.one; omega
  have h2 : n ≤ 120 := by have := HGR.out.le; omega
  rw [← hn] at hx HA ⊢
  have HL := Lib.hid hn
  have HX := Lib.hid hx
  have HC := Lib.hid (countContents_ok (c := ct) hg)
  obtain ⟨n2, hn2⟩ : ∃ n2, n2 = ct.length := ⟨_, rfl⟩
  rw [← hn2] at HB ⊢
  clear hg hn hx hn2
  go_enter Try.func39, Try.ntmps39
  go_wp2_with fail
  refine (implGroupOk_any HA.out).mono ?_
  rw [HG.out]
  rintro e w1 ⟨rfl, b⟩
  have B0 := Lib.hid b
  clear b
  go_wp2_with fail
  go_loopw [5, 13] (fun v i wr => ∃ j t : Nat, j ≤ n ∧ i = .int .i64 j ∧ v = .int .i64 t ∧ t ≤ 125829120 ∧ Hid (t = fixAll (gs.take j) ct) ∧ Hid (Below w.heap.size w wr)) (fun _ i _ => n - (intOf i).toNat)
  case atStart => exact ⟨0, 0, Nat.zero_le _, rfl, rfl, by omega, rfl, B0.out⟩
  case round =>
    obtain ⟨j, t, hj, rfl, rfl, ht, HT, B⟩ := hrel
    by_cases hlt : j < n
    · have hjl : j < gs.length := by have := HL.out; omega
      obtain ⟨b1, o1, rfl, hb1, hc1⟩ := HX.out (by omega)
      obtain ⟨A1, c1, cc1, rr1⟩ := RII.at hc1 (k := j) hlt
      have e1 := (B.out.cell (p := ⟨b1, o1 + j, none⟩) hb1).trans cc1
      obtain ⟨p, hp⟩ : ∃ p, p = gs.getD j [] := ⟨_, rfl⟩
      rw [← hp] at e1 rr1
      have HP := Lib.hid rr1
      have hcf := countFixed_le p ct
      obtain ⟨z, hz⟩ : ∃ z : Nat, countFixed p ct = (z : Int) := ⟨(countFixed p ct).toNat, by omega⟩
      have hz1 : z ≤ 1048576 := by omega
      have HS : Hid (fixAll (gs.take (j + 1)) ct = fixAll (gs.take j) ct + z) := by rw [Hid, fixAll_succ hjl, ← hp, hz, Int.toNat_natCast]
      have HZ := Lib.hid hz
      have hst := fixAll_take HGR.out ct (j + 1)
      rw [HS.out, ← HT.out] at hst
      have HN : Hid (t + z = fixAll (gs.take (j + 1)) ct) := by rw [Hid, HS.out, HT.out]
      clear rr1 cc1 hc1 hp hz hjl hcf
      go_wp2_with fail
      refine (implCountFixed_any (HP.out.below B.out) (HB.out.below B.out)).mono ?_
      rw [HZ.out]
      rintro e w2 ⟨rfl, b⟩
      have B2 := Lib.hid (bstep B.out b)
      clear b e1
      go_wp2_with fail
      go_roundw
      case rel => exact ⟨j + 1, t + z, by omega, by go_num, by go_num, hst, HN.out, B2.out⟩
      case measure => simp [intOf]; omega
    · have h3 := HT.out
      rw [List.take_of_length_le (by have := HL.out; omega)] at h3
      have HF : Hid (countContents gs ct = ((t / n : Nat) : Int)) := by rw [Hid, HC.out, h3, HL.out]
      clear h3
      have hd : (t : Int) / (n : Int) = ((t / n : Nat) : Int) := by simp
      have hw : wrap64 ((t / n : Nat) : Int) = ((t / n : Nat) : Int) := by
        have := Nat.div_le_self t n
        generalize t / n = q at *
        have h5 : (0 : Int) ≤ (q : Int) := by omega
        have h6 : (q : Int) < 1000000000 := by omega
        unfold wrap64; omega
      have HW := Lib.hid hw
      clear hw
      have HD := Lib.hid hd
      clear hd
      go_wp2_with fail
      go_ret
      exact ⟨retI (by rw [HF.out, HD.out, HW.out]), B.out⟩

set_option maxHeartbeats 1600000 in
theorem specCountContents_any {w : World} {a b : Value} {gs : List (List Int)} {ct : List Int} (ha : RII w a gs) (hb : RI w b ct) :
    Calls Try.prog 38 #[a, b] w fun e w' => e = .returned (.int .i64 (countContents gs ct)) ∧ Below w.heap.size w w' := by
  have HB := Lib.hid hb
  obtain ⟨A2, cp2, rfl⟩ := hb.shape
  clear hb
  have HA := Lib.hid ha
  obtain ⟨A, c, rfl, -, hx⟩ := ha
  cases hg : groupOk gs with
  | false =>
    have HC := Lib.hid (countContents_bad (c := ct) hg)
    have HG := Lib.hid hg
    clear hg hx
    go_enter Try.func38, Try.ntmps38
    go_wp2_with fail
    refine (specGroupOk_any HA.out).mono ?_
    rw [HG.out]
    rintro e w1 ⟨rfl, b1⟩
    go_wp2
    go_ret
    exact ⟨retI HC.out.symm, b1⟩
  | true =>
  have HG := Lib.hid hg
  have HGR := Lib.hid (grp_of hg)
  obtain ⟨n, hn⟩ : ∃ n, n = gs.length := ⟨_, rfl⟩
  have h1 : 1 ≤ n := by have := HGR.out.one; omega
  have h2 : n ≤ 120 := by have := HGR.out.le; omega
  rw [← hn] at hx HA ⊢
  have HL := Lib.hid hn
  have HX := Lib.hid hx
  have HC := Lib.hid (countContents_ok (c := ct) hg)
  obtain ⟨n2, hn2⟩ : ∃ n2, n2 = ct.length := ⟨_, rfl⟩
  rw [← hn2] at HB ⊢
  clear hg hn hx hn2
  go_enter Try.func38, Try.ntmps38
  go_wp2_with fail
  refine (specGroupOk_any HA.out).mono ?_
  rw [HG.out]
  rintro e w1 ⟨rfl, b⟩
  have B0 := Lib.hid b
  clear b
  go_wp2_with fail
  go_loopw [5, 13] (fun v i wr => ∃ j t : Nat, j ≤ n ∧ i = .int .i64 j ∧ v = .int .i64 t ∧ t ≤ 125829120 ∧ Hid (t = fixAll (gs.take j) ct) ∧ Hid (Below w.heap.size w wr)) (fun _ i _ => n - (intOf i).toNat)
  case atStart => exact ⟨0, 0, Nat.zero_le _, rfl, rfl, by omega, rfl, B0.out⟩
  case round =>
    obtain ⟨j, t, hj, rfl, rfl, ht, HT, B⟩ := hrel
    by_cases hlt : j < n
    · have hjl : j < gs.length := by have := HL.out; omega
      obtain ⟨b1, o1, rfl, hb1, hc1⟩ := HX.out (by omega)
      obtain ⟨A1, c1, cc1, rr1⟩ := RII.at hc1 (k := j) hlt
      have e1 := (B.out.cell (p := ⟨b1, o1 + j, none⟩) hb1).trans cc1
      obtain ⟨p, hp⟩ : ∃ p, p = gs.getD j [] := ⟨_, rfl⟩
      rw [← hp] at e1 rr1
      have HP := Lib.hid rr1
      have hcf := countFixed_le p ct
      obtain ⟨z, hz⟩ : ∃ z : Nat, countFixed p ct = (z : Int) := ⟨(countFixed p ct).toNat, by omega⟩
      have hz1 : z ≤ 1048576 := by omega
      have HS : Hid (fixAll (gs.take (j + 1)) ct = fixAll (gs.take j) ct + z) := by rw [Hid, fixAll_succ hjl, ← hp, hz, Int.toNat_natCast]
      have HZ := Lib.hid hz
      have hst := fixAll_take HGR.out ct (j + 1)
      rw [HS.out, ← HT.out] at hst
      have HN : Hid (t + z = fixAll (gs.take (j + 1)) ct) := by rw [Hid, HS.out, HT.out]
      clear rr1 cc1 hc1 hp hz hjl hcf
      go_wp2_with fail
      refine (specCountFixed_any (HP.out.below B.out) (HB.out.below B.out)).mono ?_
      rw [HZ.out]
      rintro e w2 ⟨rfl, b⟩
      have B2 := Lib.hid (bstep B.out b)
      clear b e1
      go_wp2_with fail
      go_roundw
      case rel => exact ⟨j + 1, t + z, by omega, by go_num, by go_num, hst, HN.out, B2.out⟩
      case measure => simp [intOf]; omega
    · have h3 := HT.out
      rw [List.take_of_length_le (by have := HL.out; omega)] at h3
      have HF : Hid (countContents gs ct = ((t / n : Nat) : Int)) := by rw [Hid, HC.out, h3, HL.out]
      clear h3
      have hd : (t : Int) / (n : Int) = ((t / n : Nat) : Int) := by simp
      have hw : wrap64 ((t / n : Nat) : Int) = ((t / n : Nat) : Int) := by
        have := Nat.div_le_self t n
        generalize t / n = q at *
        have h5 : (0 : Int) ≤ (q : Int) := by omega
        have h6 : (q : Int) < 1000000000 := by omega
        unfold wrap64; omega
      have HW := Lib.hid hw
      clear hw
      have HD := Lib.hid hd
      clear hd
      go_wp2_with fail
      go_ret
      exact ⟨retI (by rw [HF.out, HD.out, HW.out]), B.out⟩
end Go.Proofs.Ytfanohebejemmaa
