/-
  SubsetAction and PairAction of the reference.
-/
import Derived.Test.YtogenfooeplkmaaSubA
namespace Go.Proofs.Ytogenfooeplkmaa
open Go.RowKit Go.Deep

/-- What the second loop of l04Image knows. -/
structure ImgIn (w wi : World) (p l : List Int) (gi j : Nat) (u : Value) : Prop where
  below : Below w.heap.size w wi
  ins : wi.rowIs gi 4 p.length (fun x => .bool (inB p l x))
  out : OI wi w.heap.size u (imgTo p l j)

set_option maxHeartbeats 1600000 in
theorem l04Image_any {w : World} {a b : Value} {p l : List Int} (ha : RI w a p) (hb : RI w b l) (hp : permOk p = true) (hr : l.length ≤ 10 ∧ ∀ x ∈ l, 0 ≤ x ∧ x < (p.length : Int)) :
    Calls Try.prog 81 #[a, b] w fun e w' => ∃ v, e = .returned v ∧ OI w' w.heap.size v (imgTo p l p.length) ∧ Below w.heap.size w w' := by
  obtain ⟨A, c, rfl, -, hx⟩ := ha
  obtain ⟨B, d, rfl, -, hy⟩ := hb
  obtain ⟨n, hn⟩ : ∃ n, n = p.length := ⟨_, rfl⟩
  obtain ⟨m, hm⟩ : ∃ m, m = l.length := ⟨_, rfl⟩
  have hn10 : 1 ≤ n ∧ n ≤ 10 := by have := permOk_le hp; omega
  have hm10 : m ≤ 10 := by have := hr.1; omega
  rw [← hn] at hx ⊢
  rw [← hm] at hy ⊢
  have HN := Lib.hid hn
  have HM := Lib.hid hm
  have HX := Lib.hid hx
  have HY := Lib.hid hy
  have HP := Lib.hid hp
  have HR0 := Lib.hid hr
  have hmk := run_make_row' (P := Try.prog) 67 4 (.bool false) 1 Try.underlying67 bool_info rfl .i64 .i64 n (by omega) (by omega)
  clear hn hm hx hy hp hr
  go_enter Try.func81, Try.ntmps81
  go_wp2_with fail
  obtain ⟨gi, hgi⟩ : ∃ gi, gi = w.heap.size := ⟨_, rfl⟩
  have HGI : Hid (w.heap.size ≤ gi) := by rw [Hid, hgi]; exact Nat.le_refl _
  have H0 : Hid (Below w.heap.size w (w.alloc (.cells (madeCells #[.bool false] n) 4)) ∧ (w.alloc (.cells (madeCells #[.bool false] n) 4)).rowIs gi 4 p.length (fun x => .bool (inB p (l.take 0) x))) := by
    refine ⟨(Below.refl _ _).alloc (Nat.le_refl _) _, ?_⟩
    rw [← HN.out, hgi]
    exact (World.rowIs_made w (.bool false) n 4).congr fun x _ => by rw [List.take_zero, inB_nil]
  rw [← hgi]
  clear hgi hmk
  go_loopw [16] (fun i wr => ∃ k : Nat, k ≤ m ∧ i = .int .i64 k ∧ Hid (Below w.heap.size w wr ∧ wr.rowIs gi 4 p.length (fun x => .bool (inB p (l.take k) x)))) (fun i _ => m - (intOf i).toNat)
  case atStart => exact ⟨0, Nat.zero_le _, rfl, H0.out⟩
  case round =>
    obtain ⟨k, hk, rfl, HR⟩ := hrel
    by_cases hlt : k < m
    · obtain ⟨b2, o2, rfl, hb2, hc2⟩ := HY.out (by omega)
      have hkl : k < l.length := by have := HM.out; omega
      have e2 := (HR.out.1.cell (p := ⟨b2, o2 + k, none⟩) hb2).trans (hc2 k hlt)
      have hr := HR0.out.2 (l.getD k 0) (getD_mem hkl)
      have htk : l.take (k + 1) = l.take k ++ [l.getD k 0] := take_succ_getD hkl
      obtain ⟨x, hx⟩ : ∃ x, x = l.getD k 0 := ⟨_, rfl⟩
      rw [← hx] at e2 hr htk
      obtain ⟨q, rfl⟩ := Int.eq_ofNat_of_zero_le hr.1
      have hqn : q < n := by have := HN.out; omega
      obtain ⟨b3, o3, rfl, hb3, hc3⟩ := HX.out (by omega)
      have e3 := (HR.out.1.cell (p := ⟨b3, o3 + q, none⟩) hb3).trans (hc3 q hqn)
      have hpn := perm_next HP.out (x := q) (by have := HN.out; omega)
      obtain ⟨y, hy⟩ : ∃ y, y = p.getD q 0 := ⟨_, rfl⟩
      rw [← hy] at e3 hpn
      obtain ⟨z, rfl⟩ := Int.eq_ofNat_of_zero_le hpn.1
      have hzn : z < n := by have := HN.out; omega
      have c2 := HR.out.2.cell (i := z) (by have := HN.out; omega)
      have f2 := HR.out.2.frozen z
      have HNX : Hid (Below w.heap.size w (wr.setCell ⟨gi, z, none⟩ (.bool true)) ∧ (wr.setCell ⟨gi, z, none⟩ (.bool true)).rowIs gi 4 p.length (fun x => .bool (inB p (l.take (k + 1)) x))) := by
        refine ⟨HR.out.1.setCell (p := ⟨gi, z, none⟩) HGI.out _, (HR.out.2.set z (.bool true)).congr fun x _ => ?_⟩
        rw [htk, inB_snoc (m := z) x (by rw [Int.toNat_natCast, ← hy])]
        split <;> rfl
      clear hx hc2 hc3 hr htk hkl hy hpn
      go_wp2_with fail
      go_roundw
      case rel => exact ⟨k + 1, by omega, by go_num, HNX.out⟩
      case measure => simp [intOf]; omega
    · have HI0 : Hid (ImgIn w (wr.alloc (.cells #[] 3)) p l gi 0 (.slice (some ⟨wr.heap.size, 0, none⟩) 0 0)) := by
        have h := HR.out.2
        rw [List.take_of_length_le (by have := HM.out; omega)] at h
        exact ⟨HR.out.1.alloc HR.out.1.size _, h.of_block (Below.heap_alloc wr _ gi h.lt), OI.mono (OI.lit wr) HR.out.1.size⟩
      go_wp2_with fail
      go_loopw [8, 30] (fun u i wi => ∃ j : Nat, j ≤ n ∧ i = .int .i64 j ∧ Hid (ImgIn w wi p l gi j u)) (fun _ i _ => n - (intOf i).toNat)
      case atStart => exact ⟨0, Nat.zero_le _, rfl, HI0.out⟩
      case round =>
        obtain ⟨j, hj, rfl, HJ⟩ := hrel
        have hjl := imgTo_len p l j
        obtain ⟨ys, hys⟩ : ∃ ys, ys = imgTo p l j := ⟨_, rfl⟩
        have HO : Hid (OI wr w.heap.size u8 ys) := by rw [hys]; exact HJ.out.out
        rw [← hys] at hjl
        obtain ⟨A3, c3, rfl, -⟩ := OI.form HO.out
        have HYS := Lib.hid hys
        clear hys
        by_cases hjn : j < n
        · have c2 := HJ.out.ins.cell (i := j) (by have := HN.out; omega)
          cases hh : inB p l j with
          | false =>
            rw [hh] at c2
            have HN1 : Hid (ImgIn w wr p l gi (j + 1) (.slice A3 ys.length c3)) := ⟨HJ.out.below, HJ.out.ins, by rw [imgTo_no hh, ← HYS.out]; exact HO.out⟩
            clear hh
            go_wp2_with fail
            go_roundw
            case rel => exact ⟨j + 1, by omega, by go_num, HN1.out⟩
            case measure => simp [intOf]; omega
          | true =>
            rw [hh] at c2
            have HT : Hid (imgTo p l (j + 1) = ys ++ [(j : Int)]) := by rw [Hid, imgTo_yes hh, ← HYS.out]
            clear hh
            go_wp2_with (at_builtin; refine wpList_appInt _ rfl (.tmp 36) (.tmp 38) rfl w.heap.size _ ys (j : Int) rfl rfl (by simp) HO.out (by omega) (by simpa using HJ.out.below.size) ?_; intro v1 w2 ho hb hgr)
            have HN1 : Hid (ImgIn w w2 p l gi (j + 1) v1) := by
              refine ⟨HJ.out.below.trans hb, HJ.out.ins.of_block (hgr.block gi HJ.out.ins.lt fun e => ?_), by rw [HT.out]; exact ho⟩
              obtain ⟨cur, hcur⟩ := own_type HO.out e.symm
              obtain ⟨cc, hcc, _⟩ := HJ.out.ins
              rw [hcur] at hcc
              simp at hcc
            clear ho hb hgr
            go_wp2
            go_roundw
            case rel => exact ⟨j + 1, by omega, by go_num, HN1.out⟩
            case measure => simp [intOf]; omega
        · have HF : Hid (OI wr w.heap.size (.slice A3 ys.length c3) (imgTo p l p.length) ∧ Below w.heap.size w wr) := by
            have e : ys = imgTo p l p.length := by
              rw [HYS.out]
              have : j = p.length := by have := HN.out; omega
              rw [this]
            rw [← e]; exact ⟨HO.out, HJ.out.below⟩
          go_wp2_with fail
          go_ret
          exact ⟨_, rfl, by rw [HN.out]; exact HF.out⟩

set_option maxHeartbeats 3200000 in
theorem specSubsetAction_any {w : World} {a : Value} {p : List Int} (ha : RI w a p) (k : Int) :
    Calls Try.prog 43 #[a, .int .i64 k] w fun e w' => ∃ v, e = .returned (.tuple #[v, .bool (subsetAction p k).2]) ∧ OI w' w.heap.size v (subsetAction p k).1 ∧ Below w.heap.size w w' := by
  have HA := Lib.hid ha
  obtain ⟨A, c, rfl, -, hx⟩ := ha
  have hlx := HA.out.lenle
  clear hx
  cases hp : permOk p with
  | false =>
    have HC := Lib.hid (subsetAction_no (p := p) (k := k) (.inl hp))
    have HP := Lib.hid hp
    clear hp
    go_enter Try.func43, Try.ntmps43
    go_wp2_with fail
    refine (specPermOk_any HA.out).mono ?_
    rw [HP.out]
    rintro e w1 ⟨rfl, b1⟩
    go_wp2
    go_ret2
    exact ⟨_, ret2 (by rw [HC.out]), by rw [HC.out]; exact World.ownsRow_nil _ _ _ _, b1⟩
  | true =>
  have HP := Lib.hid hp
  obtain ⟨n, hn⟩ : ∃ n, n = p.length := ⟨_, rfl⟩
  have h10 : 1 ≤ n ∧ n ≤ 10 := by have := permOk_le hp; omega
  have HL := Lib.hid hn
  rw [← hn] at HA hlx ⊢
  clear hp hn
  by_cases q0 : 5 < n
  · have HC := Lib.hid (subsetAction_no (p := p) (k := k) (.inr (.inl (by have := HL.out; omega))))
    have z0 : decide ((5 : Int) < (n : Int)) = true := decide_eq_true (by omega)
    go_enter Try.func43, Try.ntmps43
    go_wp2_with fail
    refine (specPermOk_any HA.out).mono ?_
    rw [HP.out]
    rintro e w1 ⟨rfl, b⟩
    have BB := Lib.hid b
    clear b
    go_wp2_with fail
    go_ret2
    exact ⟨_, ret2 (by rw [HC.out]), by rw [HC.out]; exact World.ownsRow_nil _ _ _ _, BB.out⟩
  have y0 : decide ((5 : Int) < (n : Int)) = false := decide_eq_false (by omega)
  by_cases q1 : k < 0 ∨ (n : Int) < k
  · have HC := Lib.hid (subsetAction_no (p := p) (k := k) (.inr (.inr (by have := HL.out; omega))))
    go_enter Try.func43, Try.ntmps43
    go_wp2_with fail
    refine (specPermOk_any HA.out).mono ?_
    rw [HP.out]
    rintro e w1 ⟨rfl, b⟩
    have BB := Lib.hid b
    clear b
    go_wp2_with fail
    refine (l01In_no k 0 (n : Int) _ q1).mono ?_
    rintro e w2 ⟨rfl, rfl⟩
    go_wp2_with fail
    go_ret2
    exact ⟨_, ret2 (by rw [HC.out]), by rw [HC.out]; exact World.ownsRow_nil _ _ _ _, BB.out⟩
  obtain ⟨K, rfl⟩ := Int.eq_ofNat_of_zero_le (show 0 ≤ k by omega)
  have hKn : K ≤ n := by omega
  have HC := Lib.hid (subsetAction_yes (p := p) (k := K) HP.out (by have := HL.out; omega) (by have := HL.out; omega))
  have hLS := lists_subs (p := p) (k := K) HP.out (by have := HL.out; omega) (by have := HL.out; omega)
  have hIM : ∀ l ∈ subs K 0 p.length, imgL p l ∈ subs K 0 p.length ∧ imgTo p l p.length = imgL p l := fun l hl => by
    obtain ⟨h1, h2, h3⟩ := (mem_subs _ _ _ _).1 hl
    exact ⟨imgL_mem HP.out hl, imgTo_end HP.out h2 fun x hx => by have := h3 x hx; omega⟩
  obtain ⟨ls, hls⟩ : ∃ ls, ls = subs K 0 p.length := ⟨_, rfl⟩
  rw [← hls] at HC hLS hIM
  have HLS := Lib.hid hLS
  have HIM := Lib.hid hIM
  have HLE : Hid (subs K 0 n = ls) := by rw [Hid, hls, HL.out]
  obtain ⟨m, hm⟩ : ∃ m, m = ls.length := ⟨_, rfl⟩
  have hm10 : m ≤ 10 := by have := hLS.le; omega
  have HM := Lib.hid hm
  clear q1 hls hLS hIM hm
  go_enter Try.func43, Try.ntmps43
  go_wp2_with fail
  refine (specPermOk_any HA.out).mono ?_
  rw [HP.out]
  rintro e w1 ⟨rfl, b⟩
  have BB := Lib.hid b
  clear b
  go_wp2_with fail
  refine (l01In_yes (K : Int) 0 (n : Int) _ (by omega) (by omega)).mono ?_
  rintro e w2 ⟨rfl, rfl⟩
  go_wp2_with fail
  refine (l04Subsets_any K w1 0 n _ _ rfl rfl (by omega) (by omega) (by omega)).mono ?_
  rw [HLE.out]
  rintro e w3 ⟨vl, rfl, o, b⟩
  have HO := Lib.hid (And.intro o.reads (bstep BB.out b))
  obtain ⟨Al, cl, rfl⟩ := o.reads.shape
  rw [← HM.out] at HO ⊢
  clear o b
  go_wp2_with fail
  have H0 : Hid (OI (w3.alloc (.cells #[] 3)) w3.heap.size (.slice (some ⟨w3.heap.size, 0, none⟩) 0 0) ((movedL ls p).take 0) ∧ Below w3.heap.size w3 (w3.alloc (.cells #[] 3))) := ⟨OI.lit w3, (Below.refl _ _).alloc (Nat.le_refl _) _⟩
  go_loopw [7, 35] (fun v i wr => ∃ j : Nat, j ≤ m ∧ i = .int .i64 j ∧ Hid (OI wr w3.heap.size v ((movedL ls p).take j) ∧ Below w3.heap.size w3 wr)) (fun _ i _ => m - (intOf i).toNat)
  case atStart => exact ⟨0, Nat.zero_le _, rfl, H0.out⟩
  case round =>
    obtain ⟨j, hj, rfl, HR⟩ := hrel
    obtain ⟨done, hdone⟩ : ∃ done, done = (movedL ls p).take j := ⟨_, rfl⟩
    have hdl : done.length = j := by rw [hdone, List.length_take, movedL_len]; have := HM.out; omega
    rw [← hdone] at HR
    obtain ⟨A5, c5, rfl, -⟩ := OI.form HR.out.1
    rw [hdl] at HR ⊢
    have HDL := Lib.hid hdl
    obtain ⟨AL, cL, hvL, -, hxL⟩ := HO.out.1
    simp only [Value.slice.injEq] at hvL
    obtain ⟨rfl, -, rfl⟩ := hvL
    by_cases hlt : j < m
    · obtain ⟨b1, o1, rfl, hb1, hc1⟩ := hxL (by have := HM.out; omega)
      have hjl : j < ls.length := by have := HM.out; omega
      obtain ⟨A1, c1, cc1, rr1⟩ := RII.at hc1 (k := j) hjl
      obtain ⟨l, hl⟩ : ∃ l, l = ls.getD j [] := ⟨_, rfl⟩
      have hmem : l ∈ ls := by rw [hl]; exact getD_memS hjl
      have HROW := Lib.hid (HLS.out.row l hmem)
      obtain ⟨him1, him2⟩ := HIM.out l hmem
      obtain ⟨y, hy⟩ : ∃ y, y = imgL p l := ⟨_, rfl⟩
      have HT : Hid ((movedL ls p).take (j + 1) = done ++ [findIdx ls y]) := by rw [Hid, movedL_take hjl, ← hdone, ← hl, ← hy]
      rw [← hy] at him1 him2
      have e1 := (HR.out.2.cell (p := ⟨b1, o1 + j, none⟩) hb1).trans cc1
      rw [← hl] at e1 rr1
      have HQ := Lib.hid rr1
      have HY := Lib.hid (And.intro him1 him2)
      have HC1 := Lib.hid hc1
      clear cc1 hl hmem hdone hdl hc1 rr1 hjl him1 him2 hy hxL
      go_wp2_with fail
      obtain ⟨wq, hwq⟩ : ∃ wq : World, wq = wr := ⟨_, rfl⟩
      subst hwq
      refine (l04Image_any (HA.out.below ((HO.out.2).trans (HR.out.2.mono HO.out.2.size))) (HQ.out.below HR.out.2) HP.out HROW.out).mono ?_
      rw [HY.out.2]
      rintro e w4 ⟨vy, rfl, o, b⟩
      have HV := Lib.hid o
      have HS0 : Hid (OI w4 w3.heap.size (.slice A5 j c5) (done ++ matchTo ls y 0) ∧ Below w3.heap.size w3 w4) := by
        rw [matchTo_zero, List.append_nil]
        exact ⟨OI.step HR.out.1 b, bstep HR.out.2 b⟩
      obtain ⟨Ay, cy, rfl⟩ := o.reads.shape
      clear o b e1
      go_wp2_with fail
      go_loopw [7, 44] (fun v i wi => ∃ i' : Nat, i' ≤ m ∧ i = .int .i64 i' ∧ Hid (OI wi w3.heap.size v (done ++ matchTo ls y i') ∧ Below w3.heap.size w3 wi ∧ OI wi wq.heap.size (.slice Ay y.length cy) y) ∧ Hid (y ∉ ls.take i' → v = .slice A5 j c5)) (fun _ i _ => m - (intOf i).toNat)
      case atStart => exact ⟨0, Nat.zero_le _, rfl, ⟨HS0.out.1, HS0.out.2, HV.out⟩, fun _ => rfl⟩
      case round =>
        obtain ⟨i, hi, rfl, HI, HV5⟩ := hrel
        by_cases hil : i < m
        · have hils : i < ls.length := by have := HM.out; omega
          obtain ⟨A2, c2, cc2, rr2⟩ := RII.at HC1.out (k := i) hils
          obtain ⟨z, hz⟩ : ∃ z, z = ls.getD i [] := ⟨_, rfl⟩
          have e2 := (HI.out.2.1.cell (p := ⟨b1, o1 + i, none⟩) hb1).trans cc2
          rw [← hz] at e2 rr2
          have HZ := Lib.hid (rr2.below HI.out.2.1)
          by_cases he : y = z
          · obtain ⟨m0, m1⟩ := matchTo_yes HLS.out.asc hils (he.trans hz)
            have hnm : y ∉ ls.take i := fun h => by
              unfold matchTo at m0; rw [if_pos h] at m0; cases m0
            have HM1 := Lib.hid m1
            have HO6 : Hid (OI wr w3.heap.size u7 done) := by
              have h := HI.out.1
              rw [m0, List.append_nil] at h
              exact h
            have hu7 := HV5.out hnm
            subst hu7
            have HE := Lib.hid he
            have HYT : Hid (y ∈ ls.take (i + 1)) := by rw [Hid, takeG_succ hils, ← hz, ← he]; simp
            clear cc2 rr2 hz he m0 m1 hnm hils
            go_wp2_with fail
            refine (l03Same_any HI.out.2.2.reads HZ.out).mono ?_
            rw [decide_eq_true HE.out]
            rintro e w5 ⟨rfl, s5⟩
            have HO7 := Lib.hid (And.intro (OI.step HO6.out s5.below) (bstep HI.out.2.1 s5.below))
            have HY7 := Lib.hid (OI.step HI.out.2.2 s5.below)
            clear s5 e2
            go_wp2_with (at_builtin; refine wpList_appInt _ rfl (.tmp 52) (.tmp 54) rfl w3.heap.size _ done (i : Int) rfl rfl (by simp) HO7.out.1 (by have := HDL.out; omega) HO7.out.2.size ?_; intro v6 w6 ho6 hb6 hg6)
            have HN6 : Hid (OI w6 w3.heap.size v6 (done ++ matchTo ls y (i + 1)) ∧ Below w3.heap.size w3 w6 ∧ OI w6 wq.heap.size (.slice Ay y.length cy) y) := by
              rw [HM1.out]
              refine ⟨ho6, HO7.out.2.trans hb6, own_reblock HY7.out fun gg hgg => hg6.block gg (HY7.out.lt gg hgg).2 fun e => ?_⟩
              have h1 := (HY7.out.lt gg hgg).1
              have h2 := (HR.out.1.lt gg e.symm).2
              omega
            clear ho6 hb6 hg6
            go_wp2_with fail
            go_roundw
            case rel => exact ⟨i + 1, by omega, by go_num, HN6.out, fun h => absurd HYT.out h⟩
            case measure => simp [intOf]; omega
          · have HM1 := Lib.hid (matchTo_no hils (show y ≠ ls.getD i [] from fun h => he (h.trans hz.symm)))
            have HE := Lib.hid he
            obtain ⟨A6, c6, hA6, -⟩ := OI.form HI.out.1
            obtain ⟨q, hq⟩ : ∃ q, q = (done ++ matchTo ls y i).length := ⟨_, rfl⟩
            rw [← hq] at hA6
            have HV6 : Hid (y ∉ ls.take (i + 1) → u7 = .slice A5 j c5) := fun h => HV5.out fun h' => h (by rw [takeG_succ hils]; simp [h'])
            have HO6 : Hid (OI wr w3.heap.size u7 (done ++ matchTo ls y (i + 1))) := by rw [Hid, HM1.out]; exact HI.out.1
            subst hA6
            clear cc2 rr2 hz he hq hils HV5
            go_wp2_with fail
            refine (l03Same_any HI.out.2.2.reads HZ.out).mono ?_
            rw [decide_eq_false HE.out]
            rintro e w5 ⟨rfl, s5⟩
            have HN6 : Hid (OI w5 w3.heap.size (.slice A6 q c6) (done ++ matchTo ls y (i + 1)) ∧ Below w3.heap.size w3 w5 ∧ OI w5 wq.heap.size (.slice Ay y.length cy) y) := ⟨OI.step HO6.out s5.below, bstep HI.out.2.1 s5.below, OI.step HI.out.2.2 s5.below⟩
            clear s5 e2
            go_wp2_with fail
            go_roundw
            case rel => exact ⟨i + 1, by omega, by go_num, HN6.out, HV6.out⟩
            case measure => simp [intOf]; omega
        · have HN7 : Hid (OI wr w3.heap.size u7 ((movedL ls p).take (j + 1)) ∧ Below w3.heap.size w3 wr) := by
            have h := HI.out.1
            rw [matchTo_end HY.out.1 (by have := HM.out; omega)] at h
            rw [HT.out]; exact ⟨h, HI.out.2.1⟩
          obtain ⟨A6, c6, rfl, -⟩ := OI.form HI.out.1
          go_wp2_with fail
          go_roundw
          case rel => exact ⟨j + 1, by omega, by go_num, HN7.out⟩
          case measure => simp [intOf]; omega
    · have HF : Hid (OI wr w3.heap.size (.slice A5 j c5) (movedL ls p) ∧ Below w.heap.size w wr) := by
        rw [List.take_of_length_le (by rw [movedL_len]; have := HM.out; omega)] at hdone
        rw [← hdone]; exact ⟨HR.out.1, HO.out.2.trans (HR.out.2.mono HO.out.2.size)⟩
      clear hdone hdl hxL
      go_wp2_with fail
      go_ret2
      exact ⟨_, ret2 (by rw [HC.out]), by rw [HC.out]; exact OI.mono HF.out.1 HO.out.2.size, HF.out.2⟩

set_option maxHeartbeats 800000 in
theorem specPairAction_any {w : World} {a : Value} {p : List Int} (ha : RI w a p) :
    Calls Try.prog 49 #[a] w fun e w' => ∃ v, e = .returned (.tuple #[v, .bool (pairAction p).2]) ∧ OI w' w.heap.size v (pairAction p).1 ∧ Below w.heap.size w w' := by
  have HA := Lib.hid ha
  have hlx := ha.lenle
  obtain ⟨A, c, rfl⟩ := ha.shape
  clear ha
  obtain ⟨n, hn⟩ : ∃ n, n = p.length := ⟨_, rfl⟩
  have HL := Lib.hid hn
  rw [← hn] at HA hlx ⊢
  clear hn
  by_cases h2 : n < 2
  · have HC := Lib.hid (pairAction_no (p := p) (.inr (.inl (by have := HL.out; omega))))
    have z0 : decide ((n : Int) < 2) = true := decide_eq_true (by omega)
    go_enter Try.func49, Try.ntmps49
    go_wp2_with fail
    go_ret2
    exact ⟨_, ret2 (by rw [HC.out]), by rw [HC.out]; exact World.ownsRow_nil _ _ _ _, Below.refl _ _⟩
  · have HC : Hid (pairAction p = subsetAction p 2) := by unfold Hid pairAction; rw [if_pos (by have := HL.out; omega)]
    have z0 : decide ((n : Int) < 2) = false := decide_eq_false (by omega)
    go_enter Try.func49, Try.ntmps49
    go_wp2_with fail
    refine (specSubsetAction_any HA.out 2).mono ?_
    rw [← HC.out]
    rintro e w1 ⟨v, rfl, o, b⟩
    have HO := Lib.hid (And.intro o b)
    obtain ⟨A1, c1, rfl, -⟩ := OI.form o
    clear o b
    go_wp2_with fail
    go_ret2
    exact ⟨_, rfl, HO.out.1, HO.out.2⟩
end Go.Proofs.Ytogenfooeplkmaa
