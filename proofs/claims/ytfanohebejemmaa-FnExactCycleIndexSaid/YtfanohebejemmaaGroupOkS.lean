/-
  GroupOk of the reference.
-/
import Derived.Test.YtfanohebejemmaaOrd
import Derived.Test.YtfanohebejemmaaPerm1
namespace Go.Proofs.Ytfanohebejemmaa
open Go.RowKit Go.Deep

set_option maxHeartbeats 4000000 in
theorem specGroupOk_any {w : World} {a : Value} {gs : List (List Int)} (ha : RII w a gs) :
    Calls Try.prog 16 #[a] w fun e w' => e = .returned (.bool (groupOk gs)) ∧ Below w.heap.size w w' := by
  have hl := ha.lenle
  have HR0 := Lib.hid ha
  obtain ⟨A, c, rfl, -, hx⟩ := ha
  obtain ⟨n, hn⟩ : ∃ n, n = gs.length := ⟨_, rfl⟩
  rw [← hn] at hx hl HR0 ⊢
  by_cases hsz : n < 1 ∨ 120 < n
  · have HN := Lib.hid (groupOk_no (g := gs) (by rintro ⟨⟨h1, h2⟩, _⟩; omega))
    clear hx hn
    rcases hsz with hsz | hsz
    all_goals
      go_enter Try.func16, Try.ntmps16
      go_wp2_with (go_at_call 53; refine (l01In_no _ _ _ _ (by omega)).mono ?_; rintro e w' ⟨rfl, rfl⟩)
      go_ret
      exact ⟨retB HN.out.symm, Below.refl _ _⟩
  have h1 : 1 ≤ n := by omega
  have h2 : n ≤ 120 := by omega
  have HL := Lib.hid hn
  have HX := Lib.hid hx
  clear hn hx hsz
  go_enter Try.func16, Try.ntmps16
  go_wp2_with fail
  refine (l01In_yes _ _ _ _ (by omega) (by omega)).mono ?_
  rintro e w0 ⟨rfl, rfl⟩
  go_wp2_with fail
  go_loopw [15] (fun i wr => ∃ k : Nat, k ≤ n ∧ i = .int .i64 k ∧ Hid (∀ i, i < k → RowOk gs i) ∧ Hid (Below w.heap.size w wr)) (fun i _ => n - (intOf i).toNat)
  case atStart => exact ⟨0, Nat.zero_le _, rfl, fun i h => absurd h (Nat.not_lt_zero _), Below.refl _ _⟩
  case round =>
    obtain ⟨k, hk, rfl, HK, B⟩ := hrel
    by_cases hlt : k < n
    · obtain ⟨b1, o1, rfl, hb1, hc1⟩ := HX.out (by omega)
      obtain ⟨A1, c1, cc1, rr1⟩ := RII.at hc1 (k := k) hlt
      obtain ⟨A0, c0, cc0, rr0⟩ := RII.at hc1 (k := 0) (by omega)
      have hkl : k < gs.length := by have := HL.out; omega
      have e1 := (B.out.cell (p := ⟨b1, o1 + k, none⟩) hb1).trans cc1
      obtain ⟨p, hp⟩ : ∃ p, p = gs.getD k [] := ⟨_, rfl⟩
      rw [← hp] at e1 rr1
      have HP := Lib.hid rr1
      have HPE := Lib.hid hp
      obtain ⟨l0, hl0⟩ : ∃ l0, l0 = (gs.getD 0 []).length := ⟨_, rfl⟩
      have hlp := rr1.lenle
      have hl0le := rr0.lenle
      rw [← hl0] at hl0le cc0
      have HL0 := Lib.hid hl0
      clear rr1 rr0 cc1 hl0
      cases hpo : permOk p with
      | false =>
        have HN := Lib.hid (groupOk_no (g := gs) (by rintro ⟨_, h, _⟩; have := (h k hkl).1; rw [← HPE.out, hpo] at this; cases this))
        have HPO := Lib.hid hpo
        clear hpo hp hkl hc1 cc0
        go_wp2_with fail
        refine (specPermOk_any (RI.below HP.out B.out)).mono ?_
        rw [HPO.out]
        rintro e w1 ⟨rfl, b⟩
        have B1 := Lib.hid (bstep B.out b)
        clear b
        go_wp2_with fail
        go_ret
        exact ⟨retB HN.out.symm, B1.out⟩
      | true =>
      have HPO := Lib.hid hpo
      by_cases hll : p.length = l0
      · have hbn : ((p.length : Int) != l0) = false := by simp [hll]
        by_cases hk0 : k = 0
        · subst hk0
          have hrow : RowOk gs 0 := ⟨by rw [← HPE.out]; exact hpo, rfl, fun h => absurd h (by omega)⟩
          have HRow := Lib.hid hrow
          have HLL := Lib.hid hll
          clear hrow hpo hll hp hc1
          simp only [Nat.add_zero] at e1
          go_wp2_with fail
          refine (specPermOk_any (RI.below HP.out B.out)).mono ?_
          rw [HPO.out]
          rintro e w1 ⟨rfl, b⟩
          have e0 := ((bstep B.out b).cell (p := ⟨b1, o1, none⟩) hb1).trans (by simpa using cc0)
          have B1 := Lib.hid (bstep B.out b)
          clear b
          go_wp2_with fail
          go_roundw
          case rel => exact ⟨1, by omega, by go_num, fun i hi => by obtain rfl : i = 0 := by omega
                                                                    exact HRow.out, B1.out⟩
          case measure => simp [intOf]; omega
        · obtain ⟨k', rfl⟩ : ∃ k', k = k' + 1 := ⟨k - 1, by omega⟩
          obtain ⟨A2, c2, cc2, rr2⟩ := RII.at hc1 (k := k') (by omega)
          obtain ⟨q, hq⟩ : ∃ q, q = gs.getD k' [] := ⟨_, rfl⟩
          rw [← hq] at rr2 cc2
          have hql : q.length = l0 := by have := (HK.out k' (by omega)).2.1; rw [hq, this, HL0.out]
          have HQ := Lib.hid rr2
          have HQE := Lib.hid hq
          have HLL : Hid (q.length = p.length) := by rw [Hid, hql, hll]
          have HLP := Lib.hid hll
          clear rr2 hq hql hll hp hc1 hk0
          cases hlt2 : ltL q p with
          | true =>
            have hrow : RowOk gs (k' + 1) := ⟨by rw [← HPE.out]; exact hpo, by rw [← HPE.out, HLP.out, HL0.out], fun _ => by rw [Nat.add_sub_cancel, ← HQE.out, ← HPE.out]; exact hlt2⟩
            have HRow := Lib.hid hrow
            have HLT := Lib.hid hlt2
            obtain ⟨z, hz⟩ : ∃ z, cmpL q p = z := ⟨_, rfl⟩
            have hz0 : z < 0 := by rw [← hz]; exact of_decide_eq_true hlt2
            have HZ := Lib.hid hz
            clear hrow hpo hlt2 hz
            go_wp2_with fail
            refine (specPermOk_any (RI.below HP.out B.out)).mono ?_
            rw [HPO.out]
            rintro e w1 ⟨rfl, b⟩
            have e0 := ((bstep B.out b).cell (p := ⟨b1, o1, none⟩) hb1).trans (by simpa using cc0)
            have e2 := ((bstep B.out b).cell (p := ⟨b1, o1 + k', none⟩) hb1).trans cc2
            have B1 := Lib.hid (bstep B.out b)
            clear cc0 cc2 e1
            go_wp2_with fail
            refine (l03Less_any (RI.below HQ.out (bstep B.out b)) (RI.below HP.out (bstep B.out b)) HLL.out).mono ?_
            rw [HLT.out]
            rintro e w2 ⟨rfl, rfl⟩
            clear b e0 e2
            go_wp2_with fail
            go_roundw
            case rel => exact ⟨k' + 1 + 1, by omega, by go_num, fun i hi => by
                rcases Nat.lt_or_ge i (k' + 1) with h | h
                · exact HK.out i h
                · obtain rfl : i = k' + 1 := by omega
                  exact HRow.out, B1.out⟩
            case measure => simp [intOf]; omega
          | false =>
            have HN := Lib.hid (groupOk_no (g := gs) (by rintro ⟨_, h, _⟩; have := (h (k' + 1) hkl).2.2 (by omega); rw [Nat.add_sub_cancel, ← HPE.out, ← HQE.out, hlt2] at this; cases this))
            have HLT := Lib.hid hlt2
            obtain ⟨z, hz⟩ : ∃ z, cmpL q p = z := ⟨_, rfl⟩
            have hz0 : ¬ z < 0 := by rw [← hz]; exact of_decide_eq_false hlt2
            have HZ := Lib.hid hz
            clear hpo hlt2 hz
            go_wp2_with fail
            refine (specPermOk_any (RI.below HP.out B.out)).mono ?_
            rw [HPO.out]
            rintro e w1 ⟨rfl, b⟩
            have e0 := ((bstep B.out b).cell (p := ⟨b1, o1, none⟩) hb1).trans (by simpa using cc0)
            have e2 := ((bstep B.out b).cell (p := ⟨b1, o1 + k', none⟩) hb1).trans cc2
            have B1 := Lib.hid (bstep B.out b)
            clear cc0 cc2 e1
            go_wp2_with fail
            refine (l03Less_any (RI.below HQ.out (bstep B.out b)) (RI.below HP.out (bstep B.out b)) HLL.out).mono ?_
            rw [HLT.out]
            rintro e w2 ⟨rfl, rfl⟩
            clear b e0 e2
            go_wp2_with fail
            go_ret
            exact ⟨retB HN.out.symm, B1.out⟩
      · have HN := Lib.hid (groupOk_no (g := gs) (by rintro ⟨_, h, _⟩; have := (h k hkl).2.1; rw [← HPE.out, ← HL0.out] at this; exact hll this))
        have hbn : ((p.length : Int) != l0) = true := bne_iff_ne.2 (by omega)
        clear hpo hll hp hkl hc1
        go_wp2_with fail
        refine (specPermOk_any (RI.below HP.out B.out)).mono ?_
        rw [HPO.out]
        rintro e w1 ⟨rfl, b⟩
        have e0 := ((bstep B.out b).cell (p := ⟨b1, o1, none⟩) hb1).trans (by simpa using cc0)
        have B1 := Lib.hid (bstep B.out b)
        clear b cc0 e1
        go_wp2_with fail
        go_ret
        exact ⟨retB HN.out.symm, B1.out⟩
    · obtain rfl : k = n := by omega
      have hrows : ∀ i, i < gs.length → RowOk gs i := by rw [← HL.out]; exact HK.out
      have HRows := Lib.hid hrows
      have HAsc := Lib.hid (rows_asc hrows)
      clear hrows HK
      go_wp2_with fail
      go_loopw [49] (fun i wr => ∃ i' : Nat, i' ≤ k ∧ i = .int .i64 i' ∧ Hid (∀ p ∈ gs.take i', ∀ q ∈ gs, compose p q ∈ gs) ∧ Hid (Below w.heap.size w wr)) (fun i _ => k - (intOf i).toNat)
      case atStart => exact ⟨0, Nat.zero_le _, rfl, fun p h => absurd h (by simp), B.out⟩
      case round =>
        obtain ⟨i, hi, rfl, HI, B1⟩ := hrel
        by_cases hlt2 : i < k
        · obtain ⟨b1, o1, rfl, hb1, hc1⟩ := HX.out (by omega)
          obtain ⟨A1, c1, cc1, rr1⟩ := RII.at hc1 (k := i) hlt2
          have e1 := (B1.out.cell (p := ⟨b1, o1 + i, none⟩) hb1).trans cc1
          have hil : i < gs.length := by have := HL.out; omega
          obtain ⟨p, hp⟩ : ∃ p, p = gs.getD i [] := ⟨_, rfl⟩
          rw [← hp] at e1 rr1
          have HP := Lib.hid rr1
          have HPE := Lib.hid hp
          have HPM : Hid (p ∈ gs) := by rw [Hid, hp]; exact getD_memS hil
          clear rr1 cc1 hp hil
          go_wp2_with fail
          obtain ⟨wo, hwo⟩ : ∃ wo : World, wo = wr := ⟨_, rfl⟩
          subst hwo
          have hbo := Lib.hid B1.out
          clear e1
          go_loopw [55] (fun i wr => ∃ j' : Nat, j' ≤ k ∧ i = .int .i64 j' ∧ Hid (∀ q ∈ gs.take j', compose p q ∈ gs) ∧ Hid (Below w.heap.size w wr)) (fun i _ => k - (intOf i).toNat)
          case atStart => exact ⟨0, Nat.zero_le _, rfl, fun p h => absurd h (by simp), B1.out⟩
          case round =>
            obtain ⟨j, hj, rfl, HJ, B⟩ := hrel
            by_cases hlt3 : j < k
            · obtain ⟨A2, c2, cc2, rr2⟩ := RII.at hc1 (k := j) hlt3
              have e2 := (B.out.cell (p := ⟨b1, o1 + j, none⟩) hb1).trans cc2
              have hjl : j < gs.length := by have := HL.out; omega
              obtain ⟨q, hq⟩ : ∃ q, q = gs.getD j [] := ⟨_, rfl⟩
              rw [← hq] at e2 rr2
              have hqm : q ∈ gs := by rw [hq]; exact getD_memS hjl
              have hpp := rows_perm HRows.out HPM.out
              have hqq := rows_perm HRows.out hqm
              have HQ := Lib.hid rr2
              have HInto : Hid (Into p q) := fun x hx => by rw [hqq.2, ← hpp.2]; exact permOk_mem hpp.1 x hx
              have hp10 : p.length ≤ 1048576 := by have := (permOk_le hpp.1).2; omega
              have HD2 : Hid (∀ r ∈ gs, r.length = (compose p q).length) := fun r hr => by rw [(rows_perm HRows.out hr).2, compose_len, hpp.2]
              have HQM := Lib.hid (And.intro hqm hq)
              have hjt : gs.take (j + 1) = gs.take j ++ [gs.getD j []] := by rw [List.take_add_one, List.getElem?_eq_getElem hjl]; simp [hjl]
              have HJT := Lib.hid hjt
              clear rr2 cc2 hq hqm hpp hqq hjt hjl
              go_wp2_with fail
              refine (l02Compose_any (RI.below HP.out B.out) (RI.below HQ.out B.out) hp10 HInto.out).mono ?_
              rintro e w1 ⟨v1, rfl, o, b⟩
              have B2 := Lib.hid (bstep B.out b)
              have O := Lib.hid o
              obtain ⟨f, hf⟩ : ∃ f, findIdx gs (compose p q) = f := ⟨_, rfl⟩
              have HFI := Lib.hid hf
              have hfr := findIdx_range gs (compose p q)
              rw [hf] at hfr
              clear o b hf e2
              rcases hfr with ⟨hf0, hf1, hfm⟩ | ⟨hf0, hfm⟩
              · have HN : Hid (∀ r ∈ gs.take (j + 1), compose p r ∈ gs) := fun r hr => by
                  rw [HJT.out] at hr
                  rcases List.mem_append.1 hr with hr | hr
                  · exact HJ.out r hr
                  · simp only [List.mem_singleton] at hr; rw [hr, ← HQM.out.2]; exact hfm
                clear hfm hf1
                go_wp2_with fail
                refine (l03Find_any (HR0.out.below B2.out) O.out.reads HAsc.out HD2.out (by have := HL.out; omega)).mono ?_
                rw [HFI.out]
                rintro e w2 ⟨rfl, s2⟩
                have B3 := Lib.hid (bstep B2.out s2.below)
                clear s2
                go_wp2_with fail
                go_roundw
                case rel => exact ⟨j + 1, by omega, by go_num, HN.out, B3.out⟩
                case measure => simp [intOf]; omega
              · have HN := Lib.hid (groupOk_no (g := gs) (by rintro ⟨_, _, h⟩; exact hfm (h p HPM.out q HQM.out.1)))
                have hfneg : f < 0 := by omega
                clear hfm hf0
                go_wp2_with fail
                refine (l03Find_any (HR0.out.below B2.out) O.out.reads HAsc.out HD2.out (by have := HL.out; omega)).mono ?_
                rw [HFI.out]
                rintro e w2 ⟨rfl, s2⟩
                have B3 := Lib.hid (bstep B2.out s2.below)
                clear s2
                go_wp2_with fail
                go_ret
                exact ⟨retB HN.out.symm, B3.out⟩
            · have hit : gs.take (i + 1) = gs.take i ++ [gs.getD i []] := by
                have hil : i < gs.length := by have := HL.out; omega
                rw [List.take_add_one, List.getElem?_eq_getElem hil]; simp [hil]
              have HN : Hid (∀ r ∈ gs.take (i + 1), ∀ q ∈ gs, compose r q ∈ gs) := fun r hr q hq => by
                rw [hit] at hr
                rcases List.mem_append.1 hr with hr | hr
                · exact HI.out r hr q hq
                · simp only [List.mem_singleton] at hr
                  have h := HJ.out
                  rw [List.take_of_length_le (by have := HL.out; omega)] at h
                  rw [hr, ← HPE.out]; exact h q hq
              clear hit
              go_wp2_with fail
              go_roundw
              case rel => exact ⟨i + 1, by omega, by go_num, HN.out, B.out⟩
              case measure => simp [intOf]; omega
        · go_wp2_with fail
          go_ret
          refine ⟨retB (Eq.symm (groupOk_iff.2 ⟨by have := HL.out; omega, HRows.out, fun p hp q hq => HI.out p ?_ q hq⟩)), B1.out⟩
          rw [List.take_of_length_le (by have := HL.out; omega)]
          exact hp
end Go.Proofs.Ytfanohebejemmaa
