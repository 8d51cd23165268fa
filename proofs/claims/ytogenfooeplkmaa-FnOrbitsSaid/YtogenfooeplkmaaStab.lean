/-
  StabilizerOf, of the program and of the reference.
-/
import Derived.Test.YtogenfooeplkmaaGroupOkS
import Derived.Test.YtogenfooeplkmaaGroupOkI
import Derived.Test.YtogenfooeplkmaaGrpFn
import Derived.Test.YtogenfooeplkmaaClone
namespace Go.Proofs.Ytogenfooeplkmaa
open Go.RowKit Go.Deep

set_option maxHeartbeats 1600000 in
theorem implStabilizerOf_any {w : World} {a : Value} {gs : List (List Int)} (ha : RII w a gs) (x : Int) :
    Calls Try.prog 30 #[a, .int .i64 x] w fun e w' => ∃ v, e = .returned v ∧ OII w' w.heap.size v (stabilizerOf gs x) ∧ Below w.heap.size w w' := by
  have HA := Lib.hid ha
  obtain ⟨A, c, rfl, -, hx⟩ := ha
  cases hg : groupOk gs with
  | false =>
    have HC := Lib.hid (stabilizerOf_bad (x := x) (.inl hg))
    have HG := Lib.hid hg
    clear hg hx
    go_enter Try.func30, Try.ntmps30
    go_wp2_with fail
    refine (implGroupOk_any HA.out).mono ?_
    rw [HG.out]
    rintro e w1 ⟨rfl, b1⟩
    go_wp2
    go_ret
    exact ⟨_, rfl, by rw [HC.out]; exact OII.nil _ _, b1⟩
  | true =>
  have HG := Lib.hid hg
  have HGR := Lib.hid (grp_of hg)
  obtain ⟨n, hn⟩ : ∃ n, n = gs.length := ⟨_, rfl⟩
  have h1 : 1 ≤ n := by have := HGR.out.one; omega
  have h2 : n ≤ 120 := by have := HGR.out.le; omega
  rw [← hn] at hx HA ⊢
  have HL := Lib.hid hn
  have HX := Lib.hid hx
  clear hn hx
  obtain ⟨b1, o1, rfl, hb1, hc1⟩ := HX.out (by omega)
  obtain ⟨A0, c0, cc0, rr0⟩ := RII.at hc1 (k := 0) (by omega)
  obtain ⟨d, hd⟩ : ∃ d, d = (gs.getD 0 []).length := ⟨_, rfl⟩
  have hd' : d = deg gs := hd
  have hdr := HGR.out.deg_le
  rw [← hd'] at hdr
  rw [← hd] at cc0
  simp only [Nat.add_zero] at cc0
  have HD := Lib.hid hd'
  clear rr0 hd hd'
  by_cases hxr : x < 0 ∨ (d : Int) ≤ x
  · have HC := Lib.hid (stabilizerOf_bad (g := gs) (x := x) (.inr (by rw [← HD.out]; exact hxr)))
    clear hg hc1
    rcases hxr with hxr | hxr
    all_goals
      go_enter Try.func30, Try.ntmps30
      go_wp2_with fail
      refine (implGroupOk_any HA.out).mono ?_
      rw [HG.out]
      rintro e w1 ⟨rfl, b⟩
      have e0 := (b.cell (p := ⟨b1, o1, none⟩) hb1).trans cc0
      have B0 := Lib.hid b
      clear b cc0
      go_wp2
      go_ret
      exact ⟨_, rfl, by rw [HC.out]; exact OII.nil _ _, B0.out⟩
  obtain ⟨m, rfl⟩ := Int.eq_ofNat_of_zero_le (show 0 ≤ x by omega)
  have hmd : m < d := by omega
  have hz1 : decide ((m : Int) < 0) = false := decide_eq_false (by omega)
  have hz2 : decide ((d : Int) ≤ (m : Int)) = false := decide_eq_false (by omega)
  have hz3 : decide (d ≤ m) = false := decide_eq_false (by omega)
  have HC := Lib.hid (stabilizerOf_ok hg (x := (m : Int)) (by omega) (by rw [← HD.out]; omega))
  clear hg hxr
  go_enter Try.func30, Try.ntmps30
  go_wp2_with fail
  refine (implGroupOk_any HA.out).mono ?_
  rw [HG.out]
  rintro e w1 ⟨rfl, b⟩
  have e0 := (b.cell (p := ⟨b1, o1, none⟩) hb1).trans cc0
  have B0 := Lib.hid b
  clear b cc0
  go_wp2_with fail
  have h0 : OII (w1.alloc (.cells #[] 33)) w.heap.size (.slice (some ⟨w1.heap.size, 0, none⟩) 0 0) (stab (gs.take 0) (m : Int)) := OIIh.mono (OIIh.lit w1) B0.out.size (by simp)
  have hb0 : Below w.heap.size w (w1.alloc (.cells #[] 33)) := B0.out.alloc B0.out.size _
  have H0 := Lib.hid (And.intro h0 hb0)
  clear h0 hb0 e0
  go_loopw [5, 26] (fun v i wr => ∃ k : Nat, k ≤ n ∧ i = .int .i64 k ∧ Hid (OII wr w.heap.size v (stab (gs.take k) (m : Int))) ∧ Hid (Below w.heap.size w wr)) (fun _ i _ => n - (intOf i).toNat)
  case atStart => exact ⟨0, Nat.zero_le _, rfl, H0.out.1, H0.out.2⟩
  case round =>
    obtain ⟨k, hk, rfl, O, B⟩ := hrel
    by_cases hlt : k < n
    · have hkl : k < gs.length := by have := HL.out; omega
      obtain ⟨A1, c1, cc1, rr1⟩ := RII.at hc1 (k := k) hlt
      have e1 := (B.out.cell (p := ⟨b1, o1 + k, none⟩) hb1).trans cc1
      obtain ⟨p, hp⟩ : ∃ p, p = gs.getD k [] := ⟨_, rfl⟩
      rw [← hp] at e1 rr1
      have hpl : d = p.length := by rw [HD.out, hp]; exact (HGR.out.at hkl).2.symm
      have hp10 : p.length ≤ 10 := by omega
      have HP := Lib.hid rr1
      have HS := Lib.hid (stab_snoc (gs.take k) p (m : Int))
      have HT : Hid (gs.take (k + 1) = gs.take k ++ [p]) := by rw [hp]; exact takeG_succ hkl
      have hsl : (stab (gs.take k) (m : Int)).length ≤ 1099511627776 := by have h1 := stab_len (gs.take k) (m : Int); have h2 : (gs.take k).length ≤ n := by rw [List.length_take, HL.out]; omega
                                                                           omega
      have HSL := Lib.hid hsl
      obtain ⟨AA, cc, hv, -, hq⟩ := rr1.below B.out
      simp only [Value.slice.injEq, true_and] at hv
      obtain ⟨rfl, rfl⟩ := hv
      obtain ⟨b2, o2, rfl, hb2, hc2⟩ := hq (by omega)
      have e2 := hc2 m (by omega)
      have HCC := Lib.hid hc2
      have HB2 := Lib.hid hb2
      rw [Int.toNat_natCast] at *
      obtain ⟨y, hy⟩ : ∃ y, y = p.getD m 0 := ⟨_, rfl⟩
      rw [← hy] at e2 HS
      rw [← hpl] at e1 HP
      have HPL := Lib.hid hpl
      clear hc2 cc1 rr1 hp hkl hq hy hsl hpl
      obtain ⟨A3, c3, rfl, -⟩ := OIIh.form O.out
      by_cases he : y = (m : Int)
      · rw [if_pos he, ← HT.out] at HS
        subst he
        go_wp2_with fail
        refine (clone_any (HP.out.below B.out) (by have := HPL.out; omega) (by have := HPL.out; omega)).mono ?_
        rintro e w2 ⟨v2, rfl, o2, b2⟩
        clear e1 e2
        obtain ⟨A4, c4, rfl, -⟩ := OI.form o2
        have HO := Lib.hid (And.intro o2 (And.intro (OIIh.step O.out b2) (bstep B.out b2)))
        have HZ : Hid (wr.heap.size ≤ w2.heap.size) := b2.size
        clear o2 b2
        go_wp2_with (at_builtin; refine wpList_appRow _ rfl (.tmp 36) (.tmp 39) rfl w.heap.size wr.heap.size wr.heap.size w2.heap.size _ _ (stab (gs.take k) ((m : Nat) : Int)) p rfl rfl rfl HO.out.2.1 HO.out.1 (Nat.le_refl _) B.out.size (OI.bound HO.out.1) HZ.out HSL.out HO.out.2.2.size ?_; intro v4 w4 ho hb hgr)
        have HN := Lib.hid (And.intro (OIIh.toOII ho) (HO.out.2.2.trans hb))
        clear ho hb hgr
        go_wp2_with fail
        go_roundw
        case rel => exact ⟨k + 1, by omega, by go_num, by rw [Hid, HS.out]; exact HN.out.1, HN.out.2⟩
        case measure => simp [intOf]; omega
      · rw [if_neg he, ← HT.out] at HS
        have hb : (y == (m : Int)) = false := beq_eq_false_iff_ne.2 he
        clear he
        go_wp2_with fail
        go_roundw
        case rel => exact ⟨k + 1, by omega, by go_num, by rw [Hid, HS.out]; exact O.out, B.out⟩
        case measure => simp [intOf]; omega
    · go_wp2_with fail
      go_ret
      have h3 := O.out
      rw [List.take_of_length_le (by have := HL.out; omega)] at h3
      exact ⟨_, rfl, by rw [HC.out]; exact h3, B.out⟩

end Go.Proofs.Ytogenfooeplkmaa
