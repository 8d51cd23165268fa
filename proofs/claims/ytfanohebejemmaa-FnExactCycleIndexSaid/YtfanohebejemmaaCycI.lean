/-
  CycleIndex of the program.
-/
import Derived.Test.YtfanohebejemmaaSortT
import Derived.Test.YtfanohebejemmaaGroupOkI
import Derived.Test.YtfanohebejemmaaCycType
import Derived.Test.YtfanohebejemmaaSame
namespace Go.Proofs.Ytfanohebejemmaa
open Go.RowKit Go.Deep

set_option maxHeartbeats 800000 in
theorem closureT_any {w : World} {a u : Value} {t : List Int × Int} {q : List Int} {pb : Nat} (ha : RT w a t) (hu : RI w u q) (hc : w.cell? ⟨pb, 0, none⟩ = some u) (hpb : pb < w.heap.size) :
    Calls Try.prog 77 #[a, .pointer (some ⟨pb, 0, none⟩)] w fun e w' => e = .returned (.bool (decide (t.1 = q))) ∧ Below w.heap.size w w' := by
  obtain ⟨v, rfl, hv⟩ := ha
  have HV := Lib.hid hv
  have HU := Lib.hid hu
  obtain ⟨A, c, rfl⟩ := hv.shape
  obtain ⟨B, d, rfl⟩ := hu.shape
  obtain ⟨xs, x⟩ := t
  simp only at HV ⊢
  clear hv hu
  go_enter Try.func77, Try.ntmps77
  go_wp2_with fail
  refine (slicesEqual_any (HV.out.alloc _) (HU.out.alloc _)).mono ?_
  rintro e w1 ⟨rfl, s⟩
  have HS := Lib.hid (bstep ((Below.refl w.heap.size w).alloc (Nat.le_refl _) _) s.below)
  clear s
  go_wp2_with fail
  go_ret
  exact ⟨rfl, HS.out⟩

set_option maxHeartbeats 800000 in
theorem indexFuncT_any {w : World} {a u : Value} {ts : List (List Int × Int)} {q : List Int} {pb : Nat} (ha : RTS w a ts) (hu : RI w u q) (hc : w.cell? ⟨pb, 0, none⟩ = some u) (hpb : pb < w.heap.size) :
    Calls Try.prog 76 #[a, .func (.func 77) #[] #[.pointer (some ⟨pb, 0, none⟩)]] w fun e w' =>
      ((∃ k : Nat, e = .returned (.int .i64 (k : Int)) ∧ k < ts.length ∧ (ts.getD k T0).1 = q) ∨ (e = .returned (.int .i64 (-1)) ∧ q ∉ keysT ts)) ∧ Below w.heap.size w w' := by
  have HU := Lib.hid hu
  have hlx := ha.lenle
  obtain ⟨A, c, rfl, -, hx⟩ := ha
  obtain ⟨n, hn⟩ : ∃ n, n = ts.length := ⟨_, rfl⟩
  rw [← hn] at hx hlx ⊢
  have HL := Lib.hid hn
  have HX := Lib.hid hx
  have HC := Lib.hid hc
  have HB := Lib.hid (Below.refl w.heap.size w)
  clear hn hx hu hc
  go_enter Try.func76, Try.ntmps76
  go_wp2_with fail
  go_loopw [8] (fun i wr => ∃ k : Nat, k ≤ n ∧ i = .int .i64 k ∧ Hid (q ∉ keysT (ts.take k)) ∧ Hid (Below w.heap.size w wr)) (fun i _ => n - (intOf i).toNat)
  case atStart => exact ⟨0, Nat.zero_le _, rfl, by simp [Hid, keysT], HB.out⟩
  case round =>
    obtain ⟨k, hk, rfl, HQ, B⟩ := hrel
    by_cases hlt : k < n
    · obtain ⟨b1, o1, rfl, hb1, hc1⟩ := HX.out (by omega)
      have hc1' : ∀ i, i < n → _ := hc1
      obtain ⟨A1, c1, k1, k2, k3⟩ := RTS.at hc1' hlt
      have e1 := (B.out.cell (p := ⟨b1, o1 + k * 2, none⟩) hb1).trans k1
      have e2 := (B.out.cell (p := ⟨b1, o1 + k * 2 + 1, none⟩) hb1).trans k2
      have hcp := (B.out.cell (p := ⟨pb, 0, none⟩) hpb).trans HC.out
      have hpw : pb < wr.heap.size := Nat.lt_of_lt_of_le hpb B.out.size
      have hkl : k < ts.length := by have := HL.out; omega
      have htk := takeT_succ hkl
      obtain ⟨t, ht⟩ : ∃ t, t = ts.getD k T0 := ⟨_, rfl⟩
      rw [← ht] at e1 e2 k3 htk
      have HT := Lib.hid (And.intro ht (And.intro htk hkl))
      obtain ⟨xs, x⟩ := t
      simp only at e1 e2 k3
      have HR := Lib.hid (RI.below k3 B.out)
      have HCP := Lib.hid (And.intro hcp hpw)
      clear hc1 hc1' k1 k2 k3 hcp hpw ht htk hkl
      by_cases he : xs = q
      · have HE := Lib.hid he
        clear he
        go_wp2_with fail
        refine (closureT_any (t := (xs, x)) ⟨_, rfl, HR.out⟩ (HU.out.below B.out) HCP.out.1 HCP.out.2).mono ?_
        rw [decide_eq_true HE.out]
        rintro e w1 ⟨rfl, b⟩
        have HBB := Lib.hid (bstep B.out b)
        clear b e1 e2
        go_wp2_with fail
        go_ret
        exact ⟨.inl ⟨k, rfl, hlt, by rw [← HT.out.1]; exact HE.out⟩, HBB.out⟩
      · have HE := Lib.hid he
        clear he
        go_wp2_with fail
        refine (closureT_any (t := (xs, x)) ⟨_, rfl, HR.out⟩ (HU.out.below B.out) HCP.out.1 HCP.out.2).mono ?_
        rw [decide_eq_false HE.out]
        rintro e w1 ⟨rfl, b⟩
        have HBB := Lib.hid (bstep B.out b)
        clear b e1 e2
        have HN : Hid (q ∉ keysT (ts.take (k + 1))) := by
          rw [Hid, HT.out.2.1, keys_app, List.mem_append]
          rintro (h | h)
          · exact HQ.out h
          · exact HE.out (List.mem_singleton.1 h).symm
        go_wp2_with fail
        go_roundw
        case rel => exact ⟨k + 1, by omega, by go_num, HN.out, HBB.out⟩
        case measure => simp [intOf]; omega
    · go_wp2_with fail
      go_ret
      have h := HQ.out
      rw [List.take_of_length_le (by have := HL.out; omega)] at h
      exact ⟨.inr ⟨rfl, h⟩, B.out⟩

set_option maxHeartbeats 3200000 in
theorem implCycleIndex_any {w : World} {a : Value} {gs : List (List Int)} (ha : RII w a gs) :
    Calls Try.prog 45 #[a] w fun e w' => ∃ v, e = .returned v ∧ OTTh w' w.heap.size w'.heap.size v (cycleIndex gs) ∧ Below w.heap.size w w' := by
  have HA := Lib.hid ha
  obtain ⟨A, c, rfl, -, hx⟩ := ha
  have hb0 : Below w.heap.size w (w.alloc (.cells #[] 56)) := (Below.refl w.heap.size w).alloc (Nat.le_refl _) _
  have HB0 := Lib.hid hb0
  have HO0 := Lib.hid (OTTh.lit w)
  clear hb0
  cases hg : groupOk gs with
  | false =>
    have HC := Lib.hid (cycleIndex_no hg)
    have HG := Lib.hid hg
    clear hg hx
    go_enter Try.func45, Try.ntmps45
    go_wp2_with fail
    have hc := implGroupOk_any (HA.out.below HB0.out)
    simp only [HG.out] at hc
    refine hc.mono ?_
    clear hc
    rintro e w1 ⟨rfl, b⟩
    have HO1 : Hid (OTTh w1 w.heap.size w1.heap.size (.slice (some ⟨w.heap.size, 0, none⟩) 0 0) (cycleIndex gs)) := by rw [Hid, HC.out]; exact (HO0.out.step b).wide
    have HB1 := Lib.hid (bstep HB0.out b)
    clear b
    go_wp2_with fail
    go_ret
    exact ⟨_, rfl, HO1.out, HB1.out⟩
  | true =>
  have HG := Lib.hid hg
  have HGR := Lib.hid (grp_of hg)
  have HC := Lib.hid (cycleIndex_yes hg)
  obtain ⟨n, hn⟩ : ∃ n, n = gs.length := ⟨_, rfl⟩
  have h1 : 1 ≤ n := by have := HGR.out.one; omega
  have h2 : n ≤ 120 := by have := HGR.out.le; omega
  rw [← hn] at hx HA ⊢
  have HL := Lib.hid hn
  have HX := Lib.hid hx
  clear hg hn hx
  go_enter Try.func45, Try.ntmps45
  go_wp2_with fail
  have hc := implGroupOk_any (HA.out.below HB0.out)
  simp only [HG.out] at hc
  refine hc.mono ?_
  clear hc
  rintro e w1 ⟨rfl, b⟩
  have H1 : Hid (OTTh w1 w.heap.size w1.heap.size (.slice (some ⟨w.heap.size, 0, none⟩) 0 0) (rawTo gs 0) ∧ Below w.heap.size w w1) := ⟨(HO0.out.step b).wide, bstep HB0.out b⟩
  clear b HB0 HO0
  go_wp2_with fail
  go_loopw [3, 15] (fun v i wr => ∃ k : Nat, k ≤ n ∧ i = .int .i64 k ∧ Hid (OTTh wr w.heap.size wr.heap.size v (rawTo gs k) ∧ Below w.heap.size w wr)) (fun _ i _ => n - (intOf i).toNat)
  case atStart => exact ⟨0, Nat.zero_le _, rfl, H1.out⟩
  case round =>
    obtain ⟨k, hk, rfl, HR⟩ := hrel
    obtain ⟨ts, hts⟩ : ∃ ts, ts = rawTo gs k := ⟨_, rfl⟩
    rw [← hts] at HR
    obtain ⟨A3, c3, rfl, hA3⟩ := HR.out.1.form
    obtain ⟨m, hm⟩ : ∃ m, m = ts.length := ⟨_, rfl⟩
    have hmk : m ≤ k := by rw [hm, hts]; exact raw_len gs k
    rw [← hm] at HR hA3 ⊢
    have HM := Lib.hid (And.intro hm (And.intro hts hA3))
    clear hm hts hA3
    by_cases hlt : k < n
    · obtain ⟨b1, o1, rfl, hb1, hc1⟩ := HX.out (by omega)
      obtain ⟨A1, c1, cc1, rr1⟩ := RII.at hc1 (k := k) hlt
      have e1 := (HR.out.2.cell (p := ⟨b1, o1 + k, none⟩) hb1).trans cc1
      obtain ⟨p, hp⟩ : ∃ p, p = gs.getD k [] := ⟨_, rfl⟩
      rw [← hp] at e1 rr1
      have HP := Lib.hid (RI.below rr1 HR.out.2)
      have HPE := Lib.hid hp
      obtain ⟨t, ht⟩ : ∃ t, t = cycleType p := ⟨_, rfl⟩
      have htl : t.length = deg gs := by rw [ht, hp]; exact typeAt_len HGR.out (by have := HL.out; omega)
      have HT : Hid (t = cycleType p ∧ t = typeAt gs k) := ⟨ht, by rw [ht, hp]; rfl⟩
      have HTL := Lib.hid htl
      clear cc1 rr1 hc1 hp ht htl
      go_wp2_with fail
      have hc := implCycleType_any HP.out
      rw [← HT.out.1] at hc
      refine hc.mono ?_
      clear hc
      rintro e w2 ⟨vt, rfl, o, b⟩
      obtain ⟨At, ct, rfl, -⟩ := OI.form o
      have hba : Below w2.heap.size w2 (w2.alloc (.cells #[.slice At t.length ct] 27)) := (Below.refl _ _).alloc (Nat.le_refl _) _
      have HO := Lib.hid (And.intro o b)
      have HBA := Lib.hid hba
      clear o b hba e1
      go_wp2_with fail
      have hc := indexFuncT_any (w := w2.alloc (.cells #[.slice At t.length ct] 27)) (pb := w2.heap.size) (RTS.below (RTS.below HR.out.1.reads HO.out.2) HBA.out) (RI.alloc HO.out.1.reads _) (World.cell?_alloc_at _ _ _ _ rfl) (by simp)
      refine hc.mono ?_
      clear hc
      rintro e w4 ⟨hz, b⟩
      have hb24 : Below w2.heap.size w2 w4 := bstep HBA.out b
      have hO4 : OTTh w4 w.heap.size wr.heap.size (.slice A3 m c3) ts := ((HR.out.1.step HO.out.2).step hb24)
      have hB4 : Below w.heap.size w w4 := bstep (bstep HR.out.2 HO.out.2) hb24
      have hcp : w4.cell? ⟨w2.heap.size, 0, none⟩ = some (.slice At t.length ct) := (b.cell (p := ⟨w2.heap.size, 0, none⟩) (by simp)).trans (World.cell?_alloc_at _ _ _ _ rfl)
      have hut : OI w4 wr.heap.size (.slice At t.length ct) t := OI.step HO.out.1 hb24
      have hsz : wr.heap.size ≤ w4.heap.size := Nat.le_trans HO.out.2.size hb24.size
      have H4 := Lib.hid (And.intro hO4 (And.intro hB4 (And.intro hut hsz)))
      clear hb24 hO4 hB4 hut hsz b HBA HO
      rcases hz with ⟨k0, rfl, hk0, hk1⟩ | ⟨rfl, hnk⟩
      · have hk0m : k0 < m := by have := HM.out.1; omega
        obtain ⟨g, rfl, hg1, hg2⟩ := HM.out.2.2 (by omega)
        obtain ⟨u, e1, e2, f1, f2, -, -⟩ := OTTh.at H4.out.1 HM.out.1.symm hk0m
        have hin : ts.getD k0 T0 ∈ ts := getD_memT hk0
        have hcb := raw_count gs k (ts.getD k0 T0) (by rw [← HM.out.2.1]; exact hin)
        have hset := set_inc (out := ts) (by rw [HM.out.2.1]; exact raw_keys gs k) hk0 hk1
        have hraw : rawTo gs (k + 1) = ts.map (incT t) := by
          rw [rawTo, ← HM.out.2.1, ← HT.out.2, addT, if_pos (mem_keys.2 ⟨k0, hk0, hk1⟩)]
        obtain ⟨x, hx⟩ : ∃ x, x = (ts.getD k0 T0).2 := ⟨_, rfl⟩
        have hset' : ts.set k0 ((ts.getD k0 T0).1, x + 1) = rawTo gs (k + 1) := by rw [hraw, ← hset, hx]
        rw [← hx] at e2 hcb
        have hcnt := OTTh.count H4.out.1 HM.out.1.symm hk0m (x + 1)
        rw [hset'] at hcnt
        have hbs : Below w.heap.size w (w4.setCell ⟨g, k0 * 2 + 1, none⟩ (.int .i64 (x + 1))) := H4.out.2.1.setCell (p := ⟨g, k0 * 2 + 1, none⟩) hg1 _
        have HN := Lib.hid (And.intro (OTTh.wide hcnt.1) hbs)
        have hx1 : 1 ≤ x := hcb.1
        have hx2 : x ≤ 120 := by omega
        have hk00 : decide ((k0 : Int) < 0) = false := decide_eq_false (by omega)
        clear hin hcb hset hraw hx hset' hcnt hbs hk1 hk0 hcp e1 f1
        go_wp2_with fail
        go_roundw
        case rel => exact ⟨k + 1, by omega, by go_num, HN.out⟩
        case measure => simp [intOf]; omega
      · have hraw : rawTo gs (k + 1) = ts ++ [(t, 1)] := by
          rw [rawTo, ← HM.out.2.1, ← HT.out.2, addT, if_neg hnk]
        have HRW := Lib.hid hraw
        have hub : ∀ b, (Value.slice At t.length ct).ownBlock = some b → b < w4.heap.size := fun b hb => (H4.out.2.2.1.lt b hb).2
        have hl1 : ts.length ≤ 1099511627776 := by have := HM.out.1; omega
        have hl2 : w.heap.size ≤ wr.heap.size := HR.out.2.size
        have hl3 : w.heap.size ≤ w4.heap.size := H4.out.2.1.size
        have HUB := Lib.hid (And.intro hub (And.intro hl1 (And.intro hl2 hl3)))
        clear hraw hub hl1 hl2 hl3 hnk
        go_wp2_with (at_builtin; refine wpList_appTerm _ rfl (.tmp 26) (.tmp 29) rfl w.heap.size wr.heap.size wr.heap.size w4.heap.size _ (.slice At t.length ct) ts t 1 rfl rfl rfl H4.out.1 H4.out.2.2.1 (Nat.le_refl _) HUB.out.2.2.1 HUB.out.1 H4.out.2.2.2 HUB.out.2.1 HUB.out.2.2.2 ?_; intro v5 w5 o5 b5 _)
        have HN : Hid (OTTh w5 w.heap.size w5.heap.size v5 (rawTo gs (k + 1)) ∧ Below w.heap.size w w5) := ⟨by rw [HRW.out]; exact o5.wide, H4.out.2.1.trans b5⟩
        clear o5 b5 hcp
        go_wp2_with fail
        go_roundw
        case rel => exact ⟨k + 1, by omega, by go_num, HN.out⟩
        case measure => simp [intOf]; omega
    · have hkn : k = n := by omega
      subst hkn
      have hmp : 0 < m := by have := raw_pos gs h1; rw [← HM.out.2.1, ← HM.out.1] at this; omega
      obtain ⟨g, rfl, hg1, hg2⟩ := HM.out.2.2 hmp
      go_wp2_with fail
      refine (sortTerms_any HR.out.1 HM.out.1.symm hmp (by omega)).mono ?_
      rintro e w5 ⟨rfl, ⟨rs, o5, hp, hs⟩, hg5⟩
      have hrs : rs = cycleIndex gs := by
        rw [HC.out, ← HL.out]
        exact idx_unique (by rw [← HM.out.2.1]; exact hp) hs
      have hB5 : Below w.heap.size w w5 := HR.out.2.grown hg5 HR.out.2.size fun b hb => by cases hb; exact hg1
      have HN : Hid (OTTh w5 w.heap.size w5.heap.size (.slice (some ⟨g, 0, none⟩) m c3) (cycleIndex gs) ∧ Below w.heap.size w w5) := ⟨by rw [← hrs]; exact o5.wide, hB5⟩
      clear o5 hp hs hg5 hrs hB5
      go_wp2_with fail
      go_ret
      exact ⟨_, rfl, HN.out⟩
end Go.Proofs.Ytfanohebejemmaa
