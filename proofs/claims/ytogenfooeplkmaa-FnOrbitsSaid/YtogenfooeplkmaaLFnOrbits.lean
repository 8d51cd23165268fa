/-
  The law FnOrbits returns true for every input.
-/
import Derived.Test.YtogenfooeplkmaaRowB
import Derived.Test.YtogenfooeplkmaaDrawG
import Derived.Test.YtogenfooeplkmaaLagrFn
import Derived.Test.YtogenfooeplkmaaOrb
import Derived.Test.YtogenfooeplkmaaStab
import Derived.Test.YtogenfooeplkmaaGrp1
import Derived.Test.YtogenfooeplkmaaHas
namespace Go.Proofs.Ytogenfooeplkmaa.lFnOrbits
open Go.ChangeShapes Go.WideShapes Go.ChangeAt Go.RowKit
open Go.ChangeMaps (open_string shut_string)

/-- What the law asks of the orbits. -/
structure Orbs (g l : List (List Int)) : Prop where
  len : l.length ≤ 10
  ne : ∀ o ∈ l, 1 ≤ o.length
  rng : ∀ o ∈ l, ∀ x ∈ o, 0 ≤ x ∧ x < (deg g : Int)
  stb : ∀ o ∈ l, ∀ x ∈ o, o.length * (stab g x).length = g.length
  grp : ∀ o ∈ l, ∀ x ∈ o, groupOk (stab g x) = true
  img : ∀ o ∈ l, ∀ x ∈ o, ∀ p ∈ g, p.getD x.toNat 0 ∈ o
  sum : l.flatten.length = deg g
  fix : fixSum g = l.length * g.length
theorem orbs {g : List (List Int)} (hg : Grp g) : Orbs g (orbitsTo g (deg g)) := by
  have h : ∀ o ∈ orbitsTo g (deg g), ∃ i, i < deg g ∧ o = orbit g i := fun o ho => mem_orbitsTo ho
  refine ⟨by have := orbitsTo_len g (deg g); have := hg.deg_le; omega, fun o ho => ?_, fun o ho x hx => ?_, fun o ho x hx => ?_, fun o ho x hx => ?_, fun o ho x hx p hp => ?_, hg.orbits_sum, hg.burnside⟩
  · obtain ⟨i, hi, rfl⟩ := h o ho
    exact List.length_pos_of_mem (hg.self_orbit hi)
  · obtain ⟨i, hi, rfl⟩ := h o ho
    obtain ⟨h0, h1, -⟩ := mem_orbTo.1 hx
    exact ⟨h0, h1⟩
  · obtain ⟨i, hi, rfl⟩ := h o ho
    exact hg.orbit_stab hi hx
  · obtain ⟨i, hi, rfl⟩ := h o ho
    obtain ⟨h0, h1, -⟩ := mem_orbTo.1 hx
    exact hg.stab_ok h0 h1
  · obtain ⟨i, hi, rfl⟩ := h o ho
    exact (hg.orbit_mem hi hx _).2 ⟨p, hp, rfl⟩
theorem flat_take (cs : List (List Int)) {j : Nat} (hj : j < cs.length) : (cs.take (j + 1)).flatten.length = (cs.take j).flatten.length + (cs.getD j []).length := by
  rw [takeG_succ hj, List.flatten_append, List.length_append]
  simp
theorem flat_take_le (cs : List (List Int)) (j : Nat) : (cs.take j).flatten.length ≤ cs.flatten.length := by
  conv => rhs; rw [← List.take_append_drop j cs, List.flatten_append, List.length_append]
  omega

set_option maxHeartbeats 8000000 in
set_option maxRecDepth 100000 in
theorem walk (w : World) {a0 : Value} {n0 : Nat} (ha0 : RBy w w.heap.size a0 n0) : Calls Try.prog 7 #[a0] w fun e w' => e = .returned (.bool true) ∧ Below w.heap.size w w' := by
  have HA := Lib.hid ha0
  obtain ⟨A0, c0, rfl, hn0, -⟩ := ha0
  have hm0 : n0 ≤ 9223372036854775807 := by unfold maxLen at hn0; omega
  have B := Lib.hid (Below.refl w.heap.size w)
  by_cases g0 : (1048576 : Int) < n0
  · go_enter Try.func7, Try.ntmps7
    go_wp2
    go_ret
    exact ⟨rfl, B.out⟩
  go_enter Try.func7, Try.ntmps7
  go_wp2_with fail
  refine (MakeGroup_any (HA.out.step B.out) 0 (by omega)).mono ?_
  rintro e w1 ⟨vg, g, rfl, o, hd, b⟩
  replace B := Lib.hid (bstep B.out b)
  have OG := Lib.hid o
  have HK := Lib.hid hd.1
  have HG := Lib.hid (grp_of hd.1)
  have HR : Hid (orbitsOf g = orbitsTo g (deg g)) := orbitsOf_yes hd.1
  have HO : Hid (Orbs g (orbitsTo g (deg g))) := orbs HG.out
  obtain ⟨A1, c1, rfl⟩ := o.reads.shape
  clear o hd b
  generalize orbitsTo g (deg g) = l at HR HO
  go_wp2_with fail
  have hc := implOrbitsOf_any (w := w1) OG.out.reads
  simp only [HR.out] at hc
  refine hc.mono ?_
  clear hc
  rintro e w2 ⟨vl, rfl, o, b⟩
  replace B := Lib.hid (bstep B.out b)
  have RG := Lib.hid (OG.out.step b).reads
  have RL := Lib.hid o.reads
  clear o b OG HR
  obtain ⟨n, hn⟩ : ∃ n, n = g.length := ⟨_, rfl⟩
  obtain ⟨m, hm⟩ : ∃ m, m = l.length := ⟨_, rfl⟩
  obtain ⟨d, hdd⟩ : ∃ d, d = deg g := ⟨_, rfl⟩
  have hn1 : 1 ≤ n := by have := HG.out.one; omega
  have hn2 : n ≤ 120 := by have := HG.out.le; omega
  have hm10 : m ≤ 10 := by rw [hm]; exact HO.out.len
  have hd10 : d ≤ 10 := by have := HG.out.deg_le; omega
  have RK0 : Hid (g.length = n ∧ l.length = m) := ⟨hn.symm, hm.symm⟩
  have rl := RL.out
  obtain ⟨A2, c2, rfl⟩ := rl.shape
  rw [← hn] at RG ⊢
  rw [← hm] at RL ⊢
  obtain ⟨b1, o1, rfl, hb1, hcg⟩ := RII.rows RG.out (by omega)
  have HCG := Lib.hid (And.intro hb1 hcg)
  have HN := Lib.hid hn
  have HM := Lib.hid hm
  have HDD := Lib.hid hdd
  clear rl hb1 hcg hn hm hdd
  go_wp2_with fail
  go_loopw [5, 22] (fun v i wr => ∃ j s : Nat, j ≤ m ∧ i = .int .i64 j ∧ v = .int .i64 s ∧ s ≤ 10 ∧ Hid (s = (l.take j).flatten.length ∧ Below w2.heap.size w2 wr)) (fun _ i _ => m - (intOf i).toNat)
  case atStart => exact ⟨0, 0, Nat.zero_le _, rfl, rfl, by omega, by simp, Below.refl _ _⟩
  case round =>
    obtain ⟨j, s, hj, rfl, rfl, hs10, HR⟩ := hrel
    by_cases hlt : j < m
    · obtain ⟨b2, o2, rfl, hb2, hc2⟩ := RII.rows RL.out (by rw [← HM.out]; omega)
      obtain ⟨A3, c3, cc, rr⟩ := RII.at hc2 (k := j) (by rw [← HM.out]; omega)
      have e1 := (HR.out.2.cell (p := ⟨b2, o2 + j, none⟩) hb2).trans cc
      have hjl : j < l.length := by rw [← HM.out]; exact hlt
      obtain ⟨oo, ho⟩ : ∃ oo, oo = l.getD j [] := ⟨_, rfl⟩
      have hft := flat_take l hjl
      have hfl := flat_take_le l (j + 1)
      have hin : oo ∈ l := by rw [ho]; exact getD_memS hjl
      rw [← ho] at e1 rr hft
      rw [← HR.out.1] at hft
      rw [hft, HO.out.sum, ← HDD.out] at hfl
      obtain ⟨q, hq⟩ : ∃ q, q = oo.length := ⟨_, rfl⟩
      rw [← hq] at e1 hft hfl rr
      have hq1 : 1 ≤ q := by rw [hq]; exact HO.out.ne oo hin
      have hsq : s + q ≤ 10 := by omega
      have HRO := Lib.hid rr
      have HQ := Lib.hid (And.intro hq (And.intro hin hft))
      have HB := Lib.hid HR.out.2
      have hq0 : ((q : Int) == 0) = false := beq_eq_false_iff_ne.2 (by omega)
      clear rr cc hc2 hjl hft hfl hin ho hq HR
      go_wp2_with fail
      clear e1
      go_loopw [31] (fun i wr => ∃ t : Nat, t ≤ q ∧ i = .int .i64 t ∧ Hid (Below w2.heap.size w2 wr)) (fun i _ => q - (intOf i).toNat)
      case atStart => exact ⟨0, Nat.zero_le _, rfl, HB.out⟩
      case round =>
        obtain ⟨t, ht, rfl, HS⟩ := hrel
        by_cases hlt2 : t < q
        · obtain ⟨b3, o3, rfl, hb3, hc3⟩ := RI.cells HRO.out (by rw [← HQ.out.1]; omega)
          have e2 := (HS.out.cell (p := ⟨b3, o3 + t, none⟩) hb3).trans (hc3 t (by rw [← HQ.out.1]; omega))
          have hxm : oo.getD t 0 ∈ oo := getD_mem (by rw [← HQ.out.1]; omega)
          generalize oo.getD t 0 = x at e2 hxm
          have hxr := HO.out.rng oo HQ.out.2.1 x hxm
          obtain ⟨y, rfl⟩ := Int.eq_ofNat_of_zero_le hxr.1
          have hyd : y < d := by rw [HDD.out]; omega
          have RS : Hid (stabilizerOf g (y : Int) = stab g (y : Int)) := stabilizerOf_ok HK.out hxr.1 hxr.2
          have RK : Hid (groupOk (stab g (y : Int)) = true) := HO.out.grp oo HQ.out.2.1 _ hxm
          have hmul0 := HO.out.stb oo HQ.out.2.1 _ hxm
          obtain ⟨z, hz⟩ : ∃ z, z = (stab g (y : Int)).length := ⟨_, rfl⟩
          rw [← hz, ← HQ.out.1, ← HN.out] at hmul0
          have hmul : (q : Int) * (z : Int) = (n : Int) := by rw [← hmul0]; simp
          have hm2 : 0 ≤ (q : Int) * (z : Int) := by omega
          have hm3 : (q : Int) * (z : Int) ≤ 1048576 := by omega
          have hnn : ((n : Int) != (n : Int)) = false := by simp
          have HX := Lib.hid hxm
          have HZ := Lib.hid hz
          clear hc3 hxr hxm hmul0 hz
          go_wp2_with fail
          have hc := implStabilizerOf_any (RII.below RG.out HS.out) (y : Int)
          simp only [RS.out] at hc
          refine hc.mono ?_
          clear hc
          rintro e w3 ⟨vs, rfl, o, b⟩
          have HS2 := Lib.hid (bstep HS.out b)
          have OS := Lib.hid o.reads
          obtain ⟨A4, c4, rfl⟩ := o.reads.shape
          rw [← HZ.out] at OS ⊢
          clear o b e2 RS
          go_wp2_with fail
          have hc := implGroupOk_any OS.out
          simp only [RK.out] at hc
          refine hc.mono ?_
          clear hc
          rintro e w4 ⟨rfl, b⟩
          have HS3 := Lib.hid (bstep HS2.out b)
          clear b hmul hm2 hm3 hnn OS RK HZ
          go_wp2_with fail
          go_loopw [53] (fun i wr => ∃ k : Nat, k ≤ n ∧ i = .int .i64 k ∧ Hid (Below w2.heap.size w2 wr)) (fun i _ => n - (intOf i).toNat)
          case atStart => exact ⟨0, Nat.zero_le _, rfl, HS3.out⟩
          case round =>
            obtain ⟨k, hk, rfl, HV⟩ := hrel
            by_cases hlt3 : k < n
            · have hkl : k < g.length := by rw [← HN.out]; exact hlt3
              obtain ⟨A5, c5, cc5, rr5⟩ := RII.at HCG.out.2 (k := k) (by first | exact hlt3 | exact hkl)
              have e3 := (HV.out.cell (p := ⟨b1, o1 + k, none⟩) HCG.out.1).trans cc5
              obtain ⟨p, hp⟩ : ∃ p, p = g.getD k [] := ⟨_, rfl⟩
              have hpm : p ∈ g := by rw [hp]; exact getD_memS hkl
              rw [← hp] at e3 rr5
              have hpl : p.length = d := by rw [HG.out.len p hpm, HDD.out]
              rw [hpl] at e3 rr5
              obtain ⟨b5, o5, rfl, hb5, hc5⟩ := RI.cells rr5 (by omega)
              have e4 := (HV.out.cell (p := ⟨b5, o5 + y, none⟩) hb5).trans (hc5 y (by omega))
              have him := HO.out.img oo HQ.out.2.1 _ HX.out p hpm
              rw [Int.toNat_natCast] at him
              generalize p.getD y 0 = v at e4 him
              have hy0 : decide ((y : Int) < 0) = false := decide_eq_false (by omega)
              have hy1 : decide ((d : Int) ≤ (y : Int)) = false := decide_eq_false (by omega)
              have hy2 : decide (d ≤ y) = false := decide_eq_false (by omega)
              have hy3 : decide ((y : Int) ≥ (d : Int)) = false := decide_eq_false (by omega)
              have E1 : Hid (decide (v ∈ oo) = true) := decide_eq_true him
              clear hkl cc5 rr5 hp hpm hpl hc5 him
              go_wp2_with fail
              have hc := lawsHas_any v (RI.below HRO.out HV.out)
              simp only [E1.out] at hc
              refine hc.mono ?_
              clear hc
              rintro e w5 ⟨rfl, st⟩
              have HV2 := Lib.hid (bstep HV.out st.below)
              clear st e3 e4
              go_wp2_with fail
              go_roundw
              case rel => exact ⟨k + 1, by omega, by go_num, HV2.out⟩
              case measure => simp [intOf]; omega
            · go_wp2_with fail
              go_roundw
              case rel => exact ⟨t + 1, by omega, by go_num, HV.out⟩
              case measure => simp [intOf]; omega
        · go_wp2_with fail
          go_roundw
          case rel => exact ⟨j + 1, s + q, by omega, by go_num, by go_num, hsq, HQ.out.2.2.symm, HS.out⟩
          case measure => simp [intOf]; omega
    · have hsd : s = d := by
        have h := HR.out.1
        rw [List.take_of_length_le (by have := HM.out; omega), HO.out.sum] at h
        rw [h, HDD.out]
      subst hsd
      have hd0 : ((s : Int) == (s : Int)) = true := by simp
      obtain ⟨A5, c5, cc5, rr5⟩ := RII.at HCG.out.2 (k := 0) (by first | omega | (rw [← HN.out]; omega))
      have e3 := (HR.out.2.cell (p := ⟨b1, o1 + 0, none⟩) HCG.out.1).trans cc5
      have hpl : (g.getD 0 []).length = s := by rw [HDD.out]; rfl
      rw [hpl] at e3
      have e4 : _ := e3
      rw [Nat.add_zero] at e4
      have HB := Lib.hid HR.out.2
      obtain ⟨F, hF⟩ : ∃ F, F = fixSum g := ⟨_, rfl⟩
      have RF : Hid (fixedPairs g = (F : Int)) := by rw [Hid, fixedPairs_ok HK.out, hF]
      have hmul : (m : Int) * (n : Int) = (F : Int) := by rw [hF, HO.out.fix, ← HM.out, ← HN.out]; simp
      have hF2 : F ≤ 1048576 := by
        have := fixSum_le (g := g) HG.out.short
        rw [← hF, ← HN.out] at this
        omega
      have hm2 : 0 ≤ (m : Int) * (n : Int) := by omega
      have hm3 : (m : Int) * (n : Int) ≤ 1048576 := by omega
      have hff : ((F : Int) == (F : Int)) = true := by simp
      clear cc5 rr5 hpl hF HR
      go_wp2_with fail
      have hc := implFixedPairs_any (RII.below RG.out HB.out)
      simp only [RF.out] at hc
      refine hc.mono ?_
      clear hc
      rintro e w6 ⟨rfl, b⟩
      have HB2 := Lib.hid (bstep (bstep B.out HB.out) b)
      clear b e3 e4
      go_wp2_with fail
      go_ret
      exact ⟨rfl, HB2.out⟩

/-! The row's step. -/
set_option maxRecDepth 100000 in
theorem lifted (os : Os) (started : os.Started) (H : Type) (enc : TypeId × Value → H) :
    ReturnsInHanded {} Try.checked os 7 .any (Rows.fnOrbitsSpec.pre6 enc Try.prog Try.f7 Rows.fnOrbitsRow.domain false) (Rows.fnOrbitsSpec.post enc Try.prog Try.f7 false true false false) := by
  refine returnsInHanded_of_change (C := Try.checked) own started (by kernel_rfl) Try.func7
    (ChangeSpec.witness6 (enc := enc) (C := Try.checked) false ⟨#[], #[.slice none 0 0], []⟩ 8 (by kernel_rfl) (by kernel_rfl) (by kernel_rfl) (by kernel_rfl)) ?_
  intro W base args ds gs before hval0 hW hcnd _
  have hval : ∀ (j : Nat) t v, Try.f7.params[j]? = some t → args[j]? = some v → Value.okWide Try.prog W .any base t v := hval0
  have hW' := hW
  obtain ⟨p, q, hA0, hV, rfl, hfz, hnd⟩ := hW
  have hA : DataW.TrodAll enc Try.prog W 0 (fun _ => true) true Try.f7.params.toList args.toList ds p := hA0
  rw [Try.params7] at hA hval
  obtain ⟨v0, vs0, d0, ds0, p0, q0, hargs, rfl, rfl, h0, r0⟩ := trodAll_cons hA
  obtain ⟨rfl, rfl, rfl⟩ := trodAll_nil r0
  obtain rfl : args = #[v0] := by cases args; simp_all
  obtain ⟨rfl, rfl⟩ := trodVars_none hV
  obtain ⟨a0, len0, cap0, rfl⟩ := okWide_slice Try.underlying31 (hval 0 31 v0 rfl rfl)
  have k0 := h0
  have lt0 : ∀ x ∈ p0, x.block < W.heap.size := by obtain ⟨m, hm⟩ := k0; exact DataW.trod_lt m _ _ _ hm
  have w0 := open_RBy h0
  clear hA0 hval0
  refine (walk W w0).mono fun e W' ⟨he, bel⟩ => ?_
  subst he
  exact ⟨_, rfl, _, _, _, [], _, [], hW', trodAll_mk1 (shut_bool Try.underlying4 _), (trodAll_cons_mk (Below.trod laidOut (by kernel_rfl) (of_decide_eq_true (by kernel_rfl)) k0 bel lt0) trodAll_mk0), rfl, bel.frame _, fun h => by cases h⟩

/-- The statement. -/
theorem proved : Rows.FnOrbitsSaid :=
  OpenClaim.holds_of_wide 7 Try.f7 rfl rfl rfl rfl rfl rfl rfl ⟨rfl, rfl, rfl, rfl, rfl⟩ rfl rfl rfl rfl rfl (by kernel_rfl) Try.func7 (by kernel_rfl)
    (of_decide_eq_true (by kernel_rfl)) (by unfold Func.isWrapper; first | (rw [if_pos (by decide +kernel)]; kernel_rfl) | (rw [if_neg (by decide +kernel)]; exact ⟨rfl, rfl⟩))
    (fun os started H enc _ => lifted os started H enc)
#print axioms proved
end Go.Proofs.Ytogenfooeplkmaa.lFnOrbits
