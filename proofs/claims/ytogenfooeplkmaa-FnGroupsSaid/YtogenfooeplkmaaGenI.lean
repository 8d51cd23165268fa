/-
  GroupOf of the program.
-/
import Derived.Test.YtogenfooeplkmaaSortF
import Derived.Test.YtogenfooeplkmaaPerm1
import Derived.Test.YtogenfooeplkmaaPermOk
import Derived.Test.YtogenfooeplkmaaSame
namespace Go.Proofs.Ytogenfooeplkmaa
open Go.RowKit Go.Deep

set_option maxHeartbeats 800000 in
theorem closure_any {w : World} {a u : Value} {x q : List Int} {pb : Nat} (ha : RI w a x) (hu : RI w u q) (hc : w.cell? ⟨pb, 0, none⟩ = some u) :
    Calls Try.prog 68 #[a, .pointer (some ⟨pb, 0, none⟩)] w fun e w' => e = .returned (.bool (decide (x = q))) ∧ Below w.heap.size w w' := by
  have HA := Lib.hid ha
  have HU := Lib.hid hu
  obtain ⟨A, c, rfl⟩ := ha.shape
  obtain ⟨B, d, rfl⟩ := hu.shape
  clear ha hu
  go_enter Try.func68, Try.ntmps68
  go_wp2_with fail
  refine (slicesEqual_any HA.out HU.out).mono ?_
  rintro e w1 ⟨rfl, s⟩
  have HS := Lib.hid s.below
  clear s
  go_wp2_with fail
  go_ret
  exact ⟨rfl, HS.out⟩

set_option maxHeartbeats 800000 in
theorem indexFunc_any {w : World} {a u : Value} {gs : List (List Int)} {q : List Int} {pb : Nat} (ha : RII w a gs) (hu : RI w u q) (hc : w.cell? ⟨pb, 0, none⟩ = some u) (hpb : pb < w.heap.size) :
    Calls Try.prog 87 #[a, .func (.func 68) #[] #[.pointer (some ⟨pb, 0, none⟩)]] w fun e w' => ∃ z : Int, e = .returned (.int .i64 z) ∧ decide (0 ≤ z) = decide (q ∈ gs) ∧ Below w.heap.size w w' := by
  have HA := Lib.hid ha
  have HU := Lib.hid hu
  have hlx := ha.lenle
  obtain ⟨A, c, rfl, -, hx⟩ := ha
  obtain ⟨n, hn⟩ : ∃ n, n = gs.length := ⟨_, rfl⟩
  rw [← hn] at hx hlx HA ⊢
  have HL := Lib.hid hn
  have HX := Lib.hid hx
  have HC := Lib.hid hc
  have HB := Lib.hid (Below.refl w.heap.size w)
  clear hn hx hu hc
  go_enter Try.func87, Try.ntmps87
  go_wp2_with fail
  go_loopw [8] (fun i wr => ∃ k : Nat, k ≤ n ∧ i = .int .i64 k ∧ Hid (q ∉ gs.take k) ∧ Hid (Below w.heap.size w wr)) (fun i _ => n - (intOf i).toNat)
  case atStart => exact ⟨0, Nat.zero_le _, rfl, by simp [Hid], HB.out⟩
  case round =>
    obtain ⟨k, hk, rfl, HQ, B⟩ := hrel
    by_cases hlt : k < n
    · obtain ⟨b1, o1, rfl, hb1, hc1⟩ := HX.out (by omega)
      obtain ⟨A1, c1, cc, rr⟩ := RII.at hc1 (k := k) hlt
      have e1 := (B.out.cell (p := ⟨b1, o1 + k, none⟩) hb1).trans cc
      have hcp := (B.out.cell (p := ⟨pb, 0, none⟩) hpb).trans HC.out
      obtain ⟨p, hp⟩ : ∃ p, p = gs.getD k [] := ⟨_, rfl⟩
      rw [← hp] at e1 rr
      have HR := Lib.hid (rr.below B.out)
      have HCP := Lib.hid hcp
      have hkl : k < gs.length := by have := HL.out; omega
      have HT : Hid (gs.take (k + 1) = gs.take k ++ [p]) := by rw [hp]; exact takeG_succ hkl
      have HM : Hid (p ∈ gs) := by rw [Hid, hp]; exact getD_memS hkl
      clear cc rr hp hcp hc1
      by_cases he : p = q
      · have HE := Lib.hid he
        clear he
        go_wp2_with fail
        refine (closure_any HR.out (HU.out.below B.out) HCP.out).mono ?_
        rw [decide_eq_true HE.out]
        rintro e w1 ⟨rfl, b⟩
        have HBB := Lib.hid (bstep B.out b)
        clear b e1
        go_wp2_with fail
        go_ret
        exact ⟨k, rfl, by rw [decide_eq_true (show (0 : Int) ≤ k by omega), decide_eq_true (by rw [← HE.out]; exact HM.out)], HBB.out⟩
      · have HE := Lib.hid he
        clear he
        go_wp2_with fail
        refine (closure_any HR.out (HU.out.below B.out) HCP.out).mono ?_
        rw [decide_eq_false HE.out]
        rintro e w1 ⟨rfl, b⟩
        have HBB := Lib.hid (bstep B.out b)
        clear b e1
        have HN : Hid (q ∉ gs.take (k + 1)) := by
          rw [Hid, HT.out, List.mem_append]
          rintro (h | h)
          · exact HQ.out h
          · exact HE.out (List.mem_singleton.1 h).symm
        go_wp2_with fail
        go_roundw
        case rel => exact ⟨k + 1, by omega, by go_num, HN.out, HBB.out⟩
        case measure => simp [intOf]; omega
    · go_wp2_with fail
      go_ret
      have h := HQ.out
      rw [List.take_of_length_le (by have := HL.out; omega)] at h
      exact ⟨-1, rfl, by rw [decide_eq_false h]; rfl, B.out⟩

theorem containsFunc_any {w : World} {a u : Value} {gs : List (List Int)} {q : List Int} {pb : Nat} (ha : RII w a gs) (hu : RI w u q) (hc : w.cell? ⟨pb, 0, none⟩ = some u) (hpb : pb < w.heap.size) :
    Calls Try.prog 67 #[a, .func (.func 68) #[] #[.pointer (some ⟨pb, 0, none⟩)]] w fun e w' => e = .returned (.bool (decide (q ∈ gs))) ∧ Below w.heap.size w w' := by
  have HA := Lib.hid ha
  have HU := Lib.hid hu
  have HC := Lib.hid hc
  obtain ⟨A, c, rfl⟩ := ha.shape
  clear ha hu hc
  go_enter Try.func67, Try.ntmps67
  go_wp2_with fail
  refine (indexFunc_any HA.out HU.out HC.out hpb).mono ?_
  rintro e w1 ⟨z, rfl, hz, b⟩
  have HZ := Lib.hid hz
  have HB := Lib.hid b
  clear hz b
  go_wp2_with fail
  go_ret
  exact ⟨retB HZ.out, HB.out⟩

/-- What the loops of GroupOf know. -/
structure GenSt (w wr : World) (N : Nat) (q : List (List Int)) (v : Value) : Prop where
  below : Below w.heap.size w wr
  out : OII wr w.heap.size v q
  gen : Gen N q
theorem GenSt.step {w wr w1 : World} {N : Nat} {q : List (List Int)} {v : Value} (h : GenSt w wr N q v) (b : Below wr.heap.size wr w1) : GenSt w w1 N q v := ⟨bstep h.below b, OIIh.toOII (OIIh.step h.out b), h.gen⟩
theorem OIIh.one {w : World} {lo : Nat} {v : Value} {xs : List Int} (h : OI w lo v xs) (hlo : lo ≤ w.heap.size) : OIIh (w.alloc (.cells #[v] 33)) lo w.heap.size (.slice (some ⟨w.heap.size, 0, none⟩) 1 1) [xs] := by
  have hu1 : v.oneCell' = true := by
    rcases h.2 with ⟨rfl, _⟩ | ⟨g, cap, cur, rfl, _⟩ <;> rfl
  refine ⟨[v], ?_, rfl, fun k hk => ?_, fun i j hij hj => ?_⟩
  · have := World.ownsRow_lit (base := lo) (e := 33) (size := 1) w #[v] 1 hlo (by decide) rfl
    exact this
  · obtain rfl : k = 0 := by simp at hk; omega
    exact ⟨OI.step h ((Below.refl _ _).alloc (Nat.le_refl _) _), fun g hg => (h.lt g hg).2⟩
  · simp at hj; omega

theorem OIIh.form2 {w : World} {lo hi g n c : Nat} {xss : List (List Int)} (h : OIIh w lo hi (.slice (some ⟨g, 0, none⟩) n c) xss) : lo ≤ g ∧ g < w.heap.size := by
  obtain ⟨vs, h1, _⟩ := h
  exact h1.lt g rfl

set_option maxHeartbeats 3200000 in
theorem implGroupOf_any {w : World} {a : Value} {gs : List (List Int)} (n : Int) (ha : RII w a gs) :
    Calls Try.prog 23 #[.int .i64 n, a] w fun e w' => ∃ v, e = .returned (.tuple #[v, .bool (groupOf n gs).2]) ∧ OII w' w.heap.size v (groupOf n gs).1 ∧ Below w.heap.size w w' := by
  have HA := Lib.hid ha
  have hlx := ha.lenle
  obtain ⟨A, c, rfl, -, hx⟩ := ha
  by_cases hr : n < 1 ∨ 10 < n
  · have HC := Lib.hid (groupOf_bad (gens := gs) (n := n) (by omega))
    clear hx
    rcases hr with hr | hr
    all_goals
      go_enter Try.func23, Try.ntmps23
      go_wp2_with fail
      go_ret2
      exact ⟨_, ret2 (by rw [HC.out]), by rw [HC.out]; exact OII.nil _ _, Below.refl _ _⟩
  obtain ⟨N, rfl⟩ := Int.eq_ofNat_of_zero_le (show 0 ≤ n by omega)
  have h1 : 1 ≤ N := by omega
  have h2 : N ≤ 10 := by omega
  have d1 : decide ((N : Int) < 1) = false := decide_eq_false (by omega)
  have d2 : decide ((10 : Int) < (N : Int)) = false := decide_eq_false (by omega)
  clear hr
  obtain ⟨m, hm⟩ : ∃ m, m = gs.length := ⟨_, rfl⟩
  rw [← hm] at hx HA hlx ⊢
  have HL := Lib.hid hm
  have HX := Lib.hid hx
  have HB0 := Lib.hid (Below.refl w.heap.size w)
  clear hm hx
  go_enter Try.func23, Try.ntmps23
  go_wp2_with fail
  go_loopw [21] (fun i wr => ∃ k : Nat, k ≤ m ∧ i = .int .i64 k ∧ Hid (∀ p ∈ gs.take k, permOk p = true ∧ p.length = N) ∧ Hid (Below w.heap.size w wr)) (fun i _ => m - (intOf i).toNat)
  case atStart => exact ⟨0, Nat.zero_le _, rfl, fun p h => absurd h (by simp), HB0.out⟩
  case round =>
    obtain ⟨k, hk, rfl, HK, B⟩ := hrel
    by_cases hlt : k < m
    · obtain ⟨b1, o1, rfl, hb1, hc1⟩ := HX.out (by omega)
      obtain ⟨A1, c1, cc1, rr1⟩ := RII.at hc1 (k := k) hlt
      have e1 := (B.out.cell (p := ⟨b1, o1 + k, none⟩) hb1).trans cc1
      obtain ⟨p, hp⟩ : ∃ p, p = gs.getD k [] := ⟨_, rfl⟩
      rw [← hp] at e1 rr1
      obtain ⟨l, hl⟩ : ∃ l, l = p.length := ⟨_, rfl⟩
      rw [← hl] at e1 rr1
      have HP := Lib.hid (rr1.below B.out)
      have hkl : k < gs.length := by have := HL.out; omega
      have HT : Hid (gs.take (k + 1) = gs.take k ++ [p]) := by rw [hp]; exact takeG_succ hkl
      cases hok : permOk p with
      | false =>
        have HC := Lib.hid (groupOf_bad (n := (N : Int)) (gens := gs) (.inr (.inr (by rw [Int.toNat_natCast]; exact gensOk_no hkl (.inl (by rw [← hp]; exact hok))))))
        have HOK := Lib.hid hok
        clear cc1 rr1 hp hl hc1 hok
        go_wp2_with fail
        refine (implPermOk_any HP.out).mono ?_
        rw [HOK.out]
        rintro e w1 ⟨rfl, b⟩
        have BB := Lib.hid (bstep B.out b)
        clear b e1
        go_wp2_with fail
        go_ret2
        exact ⟨_, ret2 (by rw [HC.out]), by rw [HC.out]; exact OII.nil _ _, BB.out⟩
      | true =>
        have HOK := Lib.hid hok
        by_cases hlN : l = N
        · have HN : Hid (∀ p ∈ gs.take (k + 1), permOk p = true ∧ p.length = N) := fun r hr => by
            rw [HT.out] at hr
            rcases List.mem_append.1 hr with hr | hr
            · exact HK.out r hr
            · rw [List.mem_singleton.1 hr]; exact ⟨hok, by omega⟩
          have hbq : ((l : Int) != (N : Int)) = false := by rw [hlN]; simp
          clear cc1 rr1 hp hl hc1 hok hlN
          go_wp2_with fail
          refine (implPermOk_any HP.out).mono ?_
          rw [HOK.out]
          rintro e w1 ⟨rfl, b⟩
          have BB := Lib.hid (bstep B.out b)
          clear b e1
          go_wp2_with fail
          go_roundw
          case rel => exact ⟨k + 1, by omega, by go_num, HN.out, BB.out⟩
          case measure => simp [intOf]; omega
        · have HC := Lib.hid (groupOf_bad (n := (N : Int)) (gens := gs) (.inr (.inr (by rw [Int.toNat_natCast]; exact gensOk_no hkl (.inr (by rw [← hp, ← hl]; exact hlN))))))
          have hbq : ((l : Int) != (N : Int)) = true := bne_iff_ne.2 (by omega)
          clear cc1 rr1 hp hl hc1 hok hlN
          go_wp2_with fail
          refine (implPermOk_any HP.out).mono ?_
          rw [HOK.out]
          rintro e w1 ⟨rfl, b⟩
          have BB := Lib.hid (bstep B.out b)
          clear b e1
          go_wp2_with fail
          go_ret2
          exact ⟨_, ret2 (by rw [HC.out]), by rw [HC.out]; exact OII.nil _ _, BB.out⟩
    · have HGO : Hid (∀ p ∈ gs, permOk p = true ∧ p.length = N) := by
        have h := HK.out
        rwa [List.take_of_length_le (by have := HL.out; omega)] at h
      have HGK := Lib.hid (gensOk_iff.2 HGO.out)
      go_wp2_with fail
      refine (implIdentityPerm_any (w := wr) (N : Int)).mono ?_
      rintro e w1 ⟨v1, rfl, o, b⟩
      have hid : identityPerm (N : Int) = identity N := by unfold identityPerm; rw [if_pos ⟨by omega, by omega⟩, Int.toNat_natCast]
      rw [hid] at o
      obtain ⟨Ai, ci, rfl, -⟩ := OI.form o
      have hs0 : GenSt w (w1.alloc (.cells #[.slice Ai (identity N).length ci] 33)) N [identity N] (.slice (some ⟨w1.heap.size, 0, none⟩) 1 1) := by
        have hB := bstep B.out b
        exact ⟨hB.alloc hB.size _, OIIh.toOII (OIIh.one (OI.mono o B.out.size) hB.size), Gen.start h1 h2⟩
      have HS0 := Lib.hid hs0
      obtain ⟨R0, hR0⟩ : ∃ R0, R0 = genAll N gs := ⟨_, rfl⟩
      have HR0 := Lib.hid hR0
      have HST : Hid (genGo gs 121 0 [identity N] = R0) := by rw [hR0]; rfl
      clear hs0 o b hid hR0
      go_wp2_with fail
      go_loopw [8, 9] (fun v i wr => ∃ (q : List (List Int)) (a : Nat), i = .int .i64 a ∧ a ≤ q.length ∧ Hid (GenSt w wr N q v) ∧ Hid (genGo gs (121 - a) a q = R0)) (fun _ i _ => 121 - (intOf i).toNat)
      case atStart => exact ⟨[identity N], 0, rfl, Nat.zero_le _, HS0.out, HST.out⟩
      case round =>
        obtain ⟨q, a, rfl, haq, HS, HR⟩ := hrel
        obtain ⟨A8, c8, rfl, h8⟩ := OIIh.form HS.out.out
        obtain ⟨lq, hlq⟩ : ∃ lq, lq = q.length := ⟨_, rfl⟩
        rw [← hlq] at HS haq h8 ⊢
        have hl1 : 1 ≤ lq := by have := HS.out.gen.one; omega
        have hl2 : lq ≤ 120 := by have := HS.out.gen.le; omega
        have HLQ := Lib.hid hlq
        obtain ⟨g8, rfl, -⟩ := h8 (by omega)
        clear hlq h8
        by_cases hlt2 : a < lq
        · obtain ⟨R1, hR1⟩ : ∃ R1, R1 = genRow gs a q := ⟨_, rfl⟩
          have HR1 := Lib.hid hR1
          have HRR : Hid (genRest gs 0 a q = R1) := by rw [Hid, genRest_zero, hR1]
          clear hR1
          go_wp2_with fail
          go_loopw [8, 46] (fun v i wr => ∃ (q : List (List Int)) (j : Nat), i = .int .i64 j ∧ j ≤ m ∧ a < q.length ∧ Hid (GenSt w wr N q v) ∧ Hid (genRest gs j a q = R1)) (fun _ i _ => m - (intOf i).toNat)
          case atStart => exact ⟨q, 0, rfl, Nat.zero_le _, by have := HLQ.out; omega, HS.out, HRR.out⟩
          case round =>
            obtain ⟨q2, j, rfl, hj, haq2, HS2, HR2⟩ := hrel
            obtain ⟨A9, c9, rfl, h9⟩ := OIIh.form HS2.out.out
            obtain ⟨l2, hl2'⟩ : ∃ l2, l2 = q2.length := ⟨_, rfl⟩
            rw [← hl2'] at HS2 haq2 h9 ⊢
            have hl3 : l2 ≤ 120 := by have := HS2.out.gen.le; omega
            have HL2 := Lib.hid hl2'
            obtain ⟨g9, rfl, -⟩ := h9 (by omega)
            clear hl2' h9
            by_cases hjm : j < m
            · obtain ⟨b1, o1, rfl, hb1, hc1⟩ := HX.out (by omega)
              obtain ⟨A1, c1, cc1, rr1⟩ := RII.at hc1 (k := j) hjm
              have e1 := (HS2.out.below.cell (p := ⟨b1, o1 + j, none⟩) hb1).trans cc1
              obtain ⟨s, hs⟩ : ∃ s, s = gs.getD j [] := ⟨_, rfl⟩
              rw [← hs] at e1 rr1
              have hjl : j < gs.length := by have := HL.out; omega
              have HGJ : Hid (permOk s = true ∧ s.length = N) := by rw [hs]; exact HGO.out _ (getD_memS hjl)
              obtain ⟨u, cu, ou, -, -⟩ := OIIh.at HS2.out.out HL2.out.symm haq2
              obtain ⟨p, hp⟩ : ∃ p, p = q2.getD a [] := ⟨_, rfl⟩
              rw [← hp] at ou
              have HGP : Hid (permOk p = true ∧ p.length = N) := by rw [hp]; exact HS2.out.gen.perm _ (getD_memS (by have := HL2.out; omega))
              have HP := Lib.hid ou.reads
              have HQ := Lib.hid (rr1.below HS2.out.below)
              have HSE := Lib.hid hs
              have HPE := Lib.hid hp
              obtain ⟨A2, c2, rfl, -⟩ := OI.form ou
              have HI : Hid (Into p s) := fun x hx => by rw [HGJ.out.2, ← HGP.out.2]; exact permOk_mem HGP.out.1 x hx
              have hp20 : p.length ≤ 1048576 := by rw [HGP.out.2]; omega
              clear cc1 rr1 hs hp hc1 ou
              go_wp2_with fail
              refine (compose_any HP.out HQ.out hp20 HI.out).mono ?_
              rintro e w2 ⟨v2, rfl, o, b⟩
              have HS3 := Lib.hid (HS2.out.step b)
              have HO := Lib.hid o
              have HSZ2 : Hid (wr.heap.size ≤ w2.heap.size) := b.size
              have HSZ0 : Hid (wr.heap.size ≤ wr.heap.size) := Nat.le_refl _
              have HSB := Lib.hid b
              clear o b e1 cu
              obtain ⟨A3, c3, rfl, -⟩ := OI.form HO.out
              go_wp2_with fail
              obtain ⟨w3, hw3⟩ : ∃ w3 : World, w3 = w2.alloc (.cells #[.slice A3 (compose p s).length c3] 33) := ⟨_, rfl⟩
              have hb3 : Below w2.heap.size w2 w3 := by rw [hw3]; exact (Below.refl _ _).alloc (Nat.le_refl _) _
              have hc3 : w3.cell? ⟨w2.heap.size, 0, none⟩ = some (.slice A3 (compose p s).length c3) := by rw [hw3, World.cell?_alloc_mark]; rfl
              have hp3 : w2.heap.size < w3.heap.size := by rw [hw3]; simp
              rw [← hw3]
              have HS4 := Lib.hid (HS3.out.step hb3)
              replace HO := Lib.hid (HO.out.step hb3)
              have HSZ3 : Hid (wr.heap.size ≤ w3.heap.size) := Nat.le_trans HSZ2.out hb3.size
              have HB3 := Lib.hid hb3
              have HC3 := Lib.hid hc3
              clear hb3 hw3 hc3
              obtain ⟨pb, hpb⟩ : ∃ pb, pb = w2.heap.size := ⟨_, rfl⟩
              rw [← hpb] at hp3 HC3 ⊢
              clear hpb
              by_cases hmem : compose p s ∈ q2
              · have HN := Lib.hid (genRest_old (gens := gs) (j := j) (a := a) (q := q2) hjl (by rw [← HPE.out, ← HSE.out]; exact hmem))
                have HM := Lib.hid hmem
                clear hmem
                refine (containsFunc_any HS4.out.out.reads HO.out.reads HC3.out hp3).mono ?_
                rw [decide_eq_true HM.out]
                rintro e w4 ⟨rfl, b⟩
                have HS5 := Lib.hid (HS4.out.step b)
                clear b
                go_wp2_with fail
                go_roundw
                case rel => exact ⟨q2, j + 1, by go_num, by omega, by have := HL2.out; omega, HS5.out, by rw [← HN.out]; exact HR2.out⟩
                case measure => simp [intOf]; omega
              · have HNO : Hid (compose (q2.getD a []) (gs.getD j []) ∉ q2) := by rw [← HPE.out, ← HSE.out]; exact hmem
                have HM := Lib.hid hmem
                clear hmem
                refine (containsFunc_any HS4.out.out.reads HO.out.reads HC3.out hp3).mono ?_
                rw [decide_eq_false HM.out]
                rintro e w4 ⟨rfl, b⟩
                have HS5 := Lib.hid (HS4.out.step b)
                have e5 := (b.cell (p := ⟨pb, 0, none⟩) hp3).trans HC3.out
                have HO5 := Lib.hid (HO.out.step b)
                have HSZ4 : Hid (wr.heap.size ≤ w4.heap.size) := Nat.le_trans HSZ3.out b.size
                have hown : OIIh w4 w.heap.size wr.heap.size (.slice (some ⟨g9, 0, none⟩) l2 c9) q2 := by
                  have hh : OIIh wr w.heap.size wr.heap.size (.slice (some ⟨g9, 0, none⟩) l2 c9) q2 := HS2.out.out
                  have hbb : Below wr.heap.size wr w4 := by
                    have := HSB.out.trans ((HB3.out.trans (b.mono HB3.out.size)).mono HSZ2.out)
                    exact this
                  exact OIIh.step hh hbb
                have HOW := Lib.hid hown
                clear b hown
                by_cases h120 : l2 = 120
                · have HN := Lib.hid (genRest_full (gens := gs) (j := j) (a := a) (q := q2) hjl HNO.out (by have := HL2.out; omega))
                  have HNN : Hid (R0 = none) := by
                    rw [Hid, ← HR.out]
                    exact genGo_none (by omega) (by have := HLQ.out; omega) (by rw [← HR1.out, ← HR2.out]; exact HN.out)
                  have HC := Lib.hid (groupOf_none h1 h2 HGK.out (by rw [← HR0.out]; exact HNN.out))
                  have hq1 : ((l2 : Int) == 120) = true := by rw [h120]; rfl
                  clear h120 e5
                  go_wp2_with fail
                  go_ret2
                  exact ⟨_, ret2 (by rw [HC.out]), by rw [HC.out]; exact OII.nil _ _, HS5.out.below⟩
                · have hne : q2.length ≠ 120 := by have := HL2.out; omega
                  have HN := Lib.hid (genRest_new (gens := gs) (j := j) (a := a) (q := q2) hjl HNO.out hne)
                  have HGN := Lib.hid (HS2.out.gen.new (a := a) (s := s) (by have := HL2.out; omega) HGJ.out (by rw [HSE.out]; exact HNO.out) hne)
                  rw [← HPE.out] at HGN
                  rw [← HPE.out, ← HSE.out] at HN
                  have hq1 : ((l2 : Int) == 120) = false := beq_eq_false_iff_ne.2 (by omega)
                  clear h120 hne
                  go_wp2_with (at_builtin; refine wpList_appRow _ rfl (.tmp 62) (.tmp 64) rfl w.heap.size wr.heap.size wr.heap.size w4.heap.size _ _ q2 (compose p s) rfl rfl rfl HOW.out (OI.mono HO5.out HSZ0.out) (Nat.le_refl _) HS2.out.below.size (OI.bound HO5.out) HSZ4.out (by have := HL2.out; omega) HS5.out.below.size ?_; intro v5 w5 ho hb hgr)
                  have HS6 : Hid (GenSt w w5 N (q2 ++ [compose p s]) v5) := ⟨HS5.out.below.trans hb, OIIh.toOII ho, HGN.out⟩
                  clear ho hb hgr e5
                  go_wp2_with fail
                  go_roundw
                  case rel => exact ⟨q2 ++ [compose p s], j + 1, by go_num, by omega, by rw [List.length_append]; have := HL2.out; omega, HS6.out, by rw [← HN.out]; exact HR2.out⟩
                  case measure => simp [intOf]; omega
            · have HE : Hid (R1 = some q2) := by rw [Hid, ← HR2.out]; exact genRest_end (by have := HL.out; omega)
              have HNX : Hid (genGo gs (121 - (a + 1)) (a + 1) q2 = R0) := by
                have hh := genGo_some (gens := gs) (f := 121 - a) (a := a) (q := q) (q' := q2) (by omega) (by have := HLQ.out; omega) (by rw [← HR1.out]; exact HE.out)
                rw [Nat.sub_sub] at hh
                exact hh.symm.trans HR.out
              go_wp2_with fail
              go_roundw
              case rel => exact ⟨q2, a + 1, by go_num, by have := HL2.out; omega, HS2.out, HNX.out⟩
              case measure => simp [intOf]; omega
        · have HE : Hid (R0 = some q) := by rw [Hid, ← HR.out]; exact genGo_stop (by have := HLQ.out; omega)
          have HC := Lib.hid (groupOf_some h1 h2 HGK.out (by rw [← HR0.out]; exact HE.out))
          go_wp2_with fail
          refine (sortRows_any HS.out.out HLQ.out.symm (by omega) (by have := HLQ.out; omega)).mono ?_
          rintro e w2 ⟨rfl, o, g⟩
          have HO := Lib.hid (OIIh.toOII o)
          have HBB : Hid (Below w.heap.size w w2) := HS.out.below.grown g HS.out.below.size (fun gg hg => by cases hg; exact ((HS.out.out).form2).1)
          clear o g
          go_wp2_with fail
          go_ret2
          exact ⟨_, ret2 (by rw [HC.out]), by rw [HC.out]; exact HO.out, HBB.out⟩
end Go.Proofs.Ytogenfooeplkmaa
