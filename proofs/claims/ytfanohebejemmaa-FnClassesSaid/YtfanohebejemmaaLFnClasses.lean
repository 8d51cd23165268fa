/-
  The law FnClasses returns true for every input.
-/
import Derived.Test.YtfanohebejemmaaRowB
import Derived.Test.YtfanohebejemmaaDrawG
import Derived.Test.YtfanohebejemmaaClassFn
import Derived.Test.YtfanohebejemmaaCls
import Derived.Test.YtfanohebejemmaaCycType
import Derived.Test.YtfanohebejemmaaGrp1
import Derived.Test.YtfanohebejemmaaSame
namespace Go.Proofs.Ytfanohebejemmaa.lFnClasses
open Go.ChangeShapes Go.WideShapes Go.ChangeAt Go.RowKit
open Go.ChangeMaps (open_string shut_string)

/-- What the law asks of the classes' numbers. -/
structure Clss (g : List (List Int)) (c : List Int) : Prop where
  len : c.length = g.length
  rng : ∀ j, j < g.length → 0 ≤ c.getD j 0 ∧ c.getD j 0 < (g.length : Int)
  typ : ∀ i j, i < g.length → j < g.length → c.getD i 0 = c.getD j 0 → cycleType (g.getD i []) = cycleType (g.getD j [])
  siz : ∀ i, i < g.length → sizeTo c (c.getD i 0) g.length ∣ g.length
  stp : ∀ i, i < g.length → c.getD i 0 ≤ mostTo c i
  abl : isAbelian g = decide (mostTo c g.length = (g.length : Int))
theorem clss {g : List (List Int)} (hk : groupOk g = true) : Clss g (classesOf g) := by
  have hg := grp_of hk
  rw [classesOf_yes hk]
  have hI := hg.cls_final
  have hnx := (clsTo_next g g.length).2
  exact ⟨clsTo_len g _, fun j hj => by have h1 := hI.rng j hj; have h2 := hI.fst j hj hj; omega, fun i j hi hj h => hg.cls_type hi hj h, fun i hi => hg.cls_size hi, fun i hi => hg.cls_step hi, by rw [hg.cls_most]; exact hg.cls_abelian hk⟩
theorem undrew {w w3 : World} (b : Below w.drew.heap.size w.drew w3) : Below w.heap.size w w3 := ⟨b.os, b.tape, b.output, b.size, b.block⟩
theorem mostTo_up {c : List Int} {n : Nat} (h : ∀ j, j < n → c.getD j 0 < (n : Int)) {k : Nat} (hk : k ≤ n) : mostTo c k ≤ (n : Int) := mostTo_le (by omega) k fun j hj => by have := h j (by omega); omega

set_option maxHeartbeats 8000000 in
set_option maxRecDepth 100000 in
theorem walk (w : World) {a0 : Value} {n0 : Nat} (ha0 : RBy w w.heap.size a0 n0) : Calls Try.prog 14 #[a0] w fun e w' => e = .returned (.bool true) ∧ Below w.heap.size w w' := by
  have HA := Lib.hid ha0
  obtain ⟨A0, c0, rfl, hn0, -⟩ := ha0
  have hm0 : n0 ≤ 9223372036854775807 := by unfold maxLen at hn0; omega
  have B := Lib.hid (Below.refl w.heap.size w)
  by_cases g0 : (1048576 : Int) < n0
  · go_enter Try.func14, Try.ntmps14
    go_wp2
    go_ret
    exact ⟨rfl, B.out⟩
  go_enter Try.func14, Try.ntmps14
  go_wp2_with fail
  refine (MakeGroup_any (HA.out.step B.out) 0 (by omega)).mono ?_
  rintro e w1 ⟨vg, g, rfl, o, hd, b⟩
  replace B := Lib.hid (bstep B.out b)
  have OG := Lib.hid o
  have HK := Lib.hid hd.1
  have HG := Lib.hid (grp_of hd.1)
  have HO := Lib.hid (clss hd.1)
  obtain ⟨A1, c1, rfl⟩ := o.reads.shape
  clear o hd b
  go_wp2_with fail
  refine (implClassesOf_any (w := w1) OG.out.reads).mono ?_
  rintro e w2 ⟨vl, rfl, o, b⟩
  replace B := Lib.hid (bstep B.out b)
  have RG := Lib.hid (OG.out.step b).reads
  have RL := Lib.hid o.reads
  clear o b OG
  generalize classesOf g = l at HO RL ⊢
  obtain ⟨n, hn⟩ : ∃ n, n = g.length := ⟨_, rfl⟩
  have hn1 : 1 ≤ n := by have := HG.out.one; omega
  have hn2 : n ≤ 120 := by have := HG.out.le; omega
  have hml : l.length = n := by rw [HO.out.len]; exact hn.symm
  have rl := RL.out
  obtain ⟨A2, c2, rfl⟩ := rl.shape
  rw [hml] at RL ⊢
  rw [← hn] at RG ⊢
  obtain ⟨b1, o1, rfl, hb1, hcg⟩ := RII.rows RG.out (by omega)
  obtain ⟨b2, o2, rfl, hb2, hcl⟩ := RI.cells RL.out (by omega)
  rw [← hn] at hcg
  rw [hml] at hcl
  have HCG := Lib.hid (And.intro hb1 hcg)
  have HCL := Lib.hid (And.intro hb2 hcl)
  have HN := Lib.hid hn
  have hnn : ((n : Int) != (n : Int)) = false := by simp
  clear rl hb1 hcg hb2 hcl hn hml
  go_wp2_with fail
  go_loopw [5, 25] (fun v i wr => ∃ j s : Nat, j ≤ n ∧ i = .int .i64 j ∧ v = .int .i64 s ∧ s ≤ 120 ∧ Hid ((s : Int) = mostTo l j ∧ Below w2.heap.size w2 wr)) (fun _ i _ => n - (intOf i).toNat)
  case atStart => exact ⟨0, 0, Nat.zero_le _, rfl, rfl, by omega, rfl, Below.refl _ _⟩
  case round =>
    obtain ⟨i, mm, hi, rfl, rfl, hm120, HR⟩ := hrel
    by_cases hlt : i < n
    · have e1 := (HR.out.2.cell (p := ⟨b2, o2 + i, none⟩) HCL.out.1).trans (HCL.out.2 i hlt)
      have hxr := HO.out.rng i (by rw [← HN.out]; exact hlt)
      have hst := HO.out.stp i (by rw [← HN.out]; exact hlt)
      have hsz := HO.out.siz i (by rw [← HN.out]; exact hlt)
      have hup := mostTo_up (c := l) (n := n) (fun j hj => by have := HO.out.rng j (by rw [← HN.out]; exact hj); rw [← HN.out] at this; exact this.2) (k := i + 1) (by omega)
      have hsp := sizeTo_pos (c := l) hlt
      rw [← HN.out] at hxr hsz
      rw [← HR.out.1] at hst
      unfold mostTo at hup
      rw [← HR.out.1] at hup
      obtain ⟨x, hx⟩ : ∃ x, x = l.getD i 0 := ⟨_, rfl⟩
      rw [← hx] at e1 hxr hst hsz hup hsp
      have HXE := Lib.hid hx
      obtain ⟨y, rfl⟩ := Int.eq_ofNat_of_zero_le hxr.1
      obtain ⟨mx, hmx⟩ : ∃ mx, mx = max mm (y + 1) := ⟨_, rfl⟩
      have hmx2 : max (mm : Int) ((y : Int) + 1) = (mx : Int) := by omega
      have hmx3 : mx ≤ 120 := by omega
      have HMX : Hid ((mx : Int) = mostTo l (i + 1)) := by rw [Hid, mostTo, ← HR.out.1, ← HXE.out, hmx2]
      have HSZ := Lib.hid (And.intro hsz hsp)
      have hy : y < n := by omega
      have hym : y ≤ mm := by omega
      have HB := Lib.hid HR.out.2
      have HE1 := Lib.hid e1
      clear hxr hst hsz hup hsp hx HR hmx
      go_wp2_with fail
      clear e1
      go_loopw [8, 32] (fun v i wr => ∃ j s : Nat, j ≤ n ∧ i = .int .i64 j ∧ v = .int .i64 s ∧ s ≤ j ∧ Hid (s = sizeTo l (y : Int) j ∧ Below w2.heap.size w2 wr)) (fun _ i _ => n - (intOf i).toNat)
      case atStart => exact ⟨0, 0, Nat.zero_le _, rfl, rfl, by omega, by simp [sizeTo], HB.out⟩
      case round =>
        obtain ⟨j, s, hj, rfl, rfl, hsj, HS⟩ := hrel
        by_cases hlt2 : j < n
        · have e2 := (HS.out.2.cell (p := ⟨b2, o2 + j, none⟩) HCL.out.1).trans (HCL.out.2 j hlt2)
          have hzr := HO.out.rng j (by rw [← HN.out]; exact hlt2)
          have hss := sizeTo_succ l (y : Int) j
          rw [← HS.out.1] at hss
          obtain ⟨z, hz⟩ : ∃ z, z = l.getD j 0 := ⟨_, rfl⟩
          rw [← hz] at e2 hzr hss
          have HZE := Lib.hid hz
          obtain ⟨u, rfl⟩ := Int.eq_ofNat_of_zero_le hzr.1
          by_cases hyz : y = u
          · subst hyz
            rw [if_pos rfl] at hss
            have HSS := Lib.hid hss
            have hyy : ((y : Int) == (y : Int)) = true := by simp
            have hig : i < g.length := by rw [← HN.out]; exact hlt
            have hjg : j < g.length := by rw [← HN.out]; exact hlt2
            have HT : Hid (cycleType (g.getD i []) = cycleType (g.getD j [])) := HO.out.typ i j hig hjg (by rw [← HXE.out, ← HZE.out])
            obtain ⟨A5, c5, cc5, rr5⟩ := RII.at HCG.out.2 (k := i) hlt
            obtain ⟨A6, c6, cc6, rr6⟩ := RII.at HCG.out.2 (k := j) hlt2
            have e3 := (HS.out.2.cell (p := ⟨b1, o1 + i, none⟩) HCG.out.1).trans cc5
            have e4 := (HS.out.2.cell (p := ⟨b1, o1 + j, none⟩) HCG.out.1).trans cc6
            have HRP := Lib.hid (RI.below rr5 HS.out.2)
            have HRQ := Lib.hid (RI.below rr6 HS.out.2)
            have hbw : b1 < wr.heap.size := Nat.lt_of_lt_of_le HCG.out.1 HS.out.2.size
            generalize g.getD i [] = p at e3 HRP HT
            generalize g.getD j [] = q at e4 HRQ HT
            have E1 : Hid (decide (cycleType p = cycleType q) = true) := decide_eq_true HT.out
            have HBW := Lib.hid hbw
            have HBR := Lib.hid HS.out.2
            clear cc5 rr5 cc6 rr6 hzr hss hz hig hjg hbw HS
            go_wp2_with fail
            go_region_with (first
              | (go_at_call 51; have h2 := O3.out; refine (implCycleType_any (RI.below HRQ.out h2.2)).mono ?_; clear h2; rintro e w4 ⟨v4, rfl, o4, b4⟩; have O4 := Lib.hid (And.intro o4.reads b4); obtain ⟨A8, c8, rfl⟩ := o4.reads.shape; clear o4 b4; skip)
              | (go_at_call 51; refine (implCycleType_any (RI.drew HRP.out)).mono ?_; rintro e w3 ⟨v3, rfl, o3, b3⟩; have O3 := Lib.hid (And.intro o3.reads (undrew b3)); have e5 := (b3.cell (p := ⟨b1, o1 + j, none⟩) HBW.out).trans e4; obtain ⟨A7, c7, rfl⟩ := o3.reads.shape; clear o3 b3; skip)
              | (go_at_call 50; have hc := lawsSame_any (O3.out.1.below O4.out.2) O4.out.1; simp only [E1.out] at hc; refine hc.mono ?_; clear hc; rintro e w5 ⟨rfl, s5⟩; have O5 := Lib.hid s5; clear s5; skip))
            all_goals
              have HB5 : Hid (Below w2.heap.size w2 w5) := bstep (bstep (bstep HBR.out O3.out.2) O4.out.2) O5.out.below
              have hs1 : s + 1 ≤ j + 1 := by omega
              clear O3 O4 O5 e2 e3 e4
              go_wp2_with fail
              go_roundw
              case rel => exact ⟨j + 1, s + 1, by omega, by go_num, by go_num, hs1, HSS.out.symm, HB5.out⟩
              case measure => simp [intOf]; omega
          · have hne : ((y : Int) == (u : Int)) = false := beq_eq_false_iff_ne.2 (by omega)
            rw [if_neg (by omega), Nat.add_zero] at hss
            have HSS := Lib.hid hss
            clear hzr hss hz
            go_wp2_with fail
            go_roundw
            case rel => exact ⟨j + 1, s, by omega, by go_num, rfl, by omega, HSS.out.symm, HS.out.2⟩
            case measure => simp [intOf]; omega
        · have hjn : j = n := by omega
          have hs := HS.out.1
          rw [hjn] at hs
          have hsp := HSZ.out
          rw [← hs] at hsp
          have hs0 : ((s : Int) == 0) = false := beq_eq_false_iff_ne.2 (by have := hsp.2; omega)
          have hs1 : ¬ (s : Int) = 0 := by have := hsp.2; omega
          have hs2 : ¬ s = 0 := by have := hsp.2; omega
          have hmod : (n : Int).tmod (s : Int) = 0 := by
            rw [show (n : Int).tmod (s : Int) = ((n % s : Nat) : Int) from rfl, Nat.mod_eq_zero_of_dvd hsp.1]; rfl
          have hy0 : decide ((y : Int) < 0) = false := decide_eq_false (by omega)
          have hy1 : decide ((mm : Int) < (y : Int)) = false := decide_eq_false (by omega)
          have hy2 : decide (mm < y) = false := decide_eq_false (by omega)
          have hy3 : decide ((y : Int) > (mm : Int)) = false := decide_eq_false (by omega)
          have HB2 := Lib.hid HS.out.2
          clear hs hsp hjn HS
          go_wp2_with fail
          all_goals
            go_roundw
            case rel => exact ⟨i + 1, mx, by omega, by go_num, by first | rfl | go_num | (congr 1; omega), hmx3, HMX.out, HB2.out⟩
            case measure => simp [intOf]; omega
    · have hin : i = n := by omega
      have HB := Lib.hid HR.out.2
      have RA : Hid (isAbelian g = decide ((mm : Int) = (n : Int))) := by
        have h := HR.out.1
        rw [hin] at h
        rw [Hid, HO.out.abl, ← HN.out, ← h]
      clear HR hin
      by_cases hmn : mm = n
      · have h1 : ((mm : Int) == (n : Int)) = true := beq_iff_eq.2 (by omega)
        have RB : Hid (isAbelian g = true) := by rw [Hid, RA.out]; exact decide_eq_true (by omega)
        go_wp2_with fail
        have hc := implIsAbelian_any (RII.below RG.out HB.out)
        simp only [RB.out] at hc
        refine hc.mono ?_
        clear hc
        rintro e w6 ⟨rfl, b⟩
        have HB2 := Lib.hid (bstep (bstep B.out HB.out) b)
        clear b
        go_wp2_with fail
        go_ret
        exact ⟨rfl, HB2.out⟩
      · have h1 : ((mm : Int) == (n : Int)) = false := beq_eq_false_iff_ne.2 (by omega)
        have RB : Hid (isAbelian g = false) := by rw [Hid, RA.out]; exact decide_eq_false (by omega)
        go_wp2_with fail
        have hc := implIsAbelian_any (RII.below RG.out HB.out)
        simp only [RB.out] at hc
        refine hc.mono ?_
        clear hc
        rintro e w6 ⟨rfl, b⟩
        have HB2 := Lib.hid (bstep (bstep B.out HB.out) b)
        clear b
        go_wp2_with fail
        go_ret
        exact ⟨rfl, HB2.out⟩

/-! The row's step. -/
set_option maxRecDepth 100000 in
theorem lifted (os : Os) (started : os.Started) (H : Type) (enc : TypeId × Value → H) :
    ReturnsInHanded {} Try.checked os 14 .any (Rows.fnClassesSpec.pre6 enc Try.prog Try.f14 Rows.fnClassesRow.domain false) (Rows.fnClassesSpec.post enc Try.prog Try.f14 false true false false) := by
  refine returnsInHanded_of_change (C := Try.checked) own started (by kernel_rfl) Try.func14
    (ChangeSpec.witness6 (enc := enc) (C := Try.checked) false ⟨#[], #[.slice none 0 0], []⟩ 8 (by kernel_rfl) (by kernel_rfl) (by kernel_rfl) (by kernel_rfl)) ?_
  intro W base args ds gs before hval0 hW hcnd _
  have hval : ∀ (j : Nat) t v, Try.f14.params[j]? = some t → args[j]? = some v → Value.okWide Try.prog W .any base t v := hval0
  have hW' := hW
  obtain ⟨p, q, hA0, hV, rfl, hfz, hnd⟩ := hW
  have hA : DataW.TrodAll enc Try.prog W 0 (fun _ => true) true Try.f14.params.toList args.toList ds p := hA0
  rw [Try.params14] at hA hval
  obtain ⟨v0, vs0, d0, ds0, p0, q0, hargs, rfl, rfl, h0, r0⟩ := trodAll_cons hA
  obtain ⟨rfl, rfl, rfl⟩ := trodAll_nil r0
  obtain rfl : args = #[v0] := by cases args; simp_all
  obtain ⟨rfl, rfl⟩ := trodVars_none hV
  obtain ⟨a0, len0, cap0, rfl⟩ := okWide_slice Try.underlying41 (hval 0 41 v0 rfl rfl)
  have k0 := h0
  have lt0 : ∀ x ∈ p0, x.block < W.heap.size := by obtain ⟨m, hm⟩ := k0; exact DataW.trod_lt m _ _ _ hm
  have w0 := open_RBy h0
  clear hA0 hval0
  refine (walk W w0).mono fun e W' ⟨he, bel⟩ => ?_
  subst he
  exact ⟨_, rfl, _, _, _, [], _, [], hW', trodAll_mk1 (shut_bool Try.underlying4 _), (trodAll_cons_mk (Below.trod laidOut (by kernel_rfl) (of_decide_eq_true (by kernel_rfl)) k0 bel lt0) trodAll_mk0), rfl, bel.frame _, fun h => by cases h⟩

/-- The statement. -/
theorem proved : Rows.FnClassesSaid :=
  OpenClaim.holds_of_wide 14 Try.f14 rfl rfl rfl rfl rfl rfl rfl ⟨rfl, rfl, rfl, rfl, rfl⟩ rfl rfl rfl rfl rfl (by kernel_rfl) Try.func14 (by kernel_rfl)
    (of_decide_eq_true (by kernel_rfl)) (by unfold Func.isWrapper; first | (rw [if_pos (by decide +kernel)]; kernel_rfl) | (rw [if_neg (by decide +kernel)]; exact ⟨rfl, rfl⟩))
    (fun os started H enc _ => lifted os started H enc)
#print axioms proved
end Go.Proofs.Ytfanohebejemmaa.lFnClasses
