/-
  GroupOf of the reference.
-/
import Derived.Test.YtfanohebejemmaaPut
import Derived.Test.YtfanohebejemmaaPerm1
import Derived.Test.YtfanohebejemmaaPermOk
namespace Go.Proofs.Ytfanohebejemmaa
open Go.RowKit Go.Deep

theorem own_mono {w : World} {lo lo' size n : Nat} {e : TypeId} {v : Value} {xs : List Value} (h : w.ownsRow lo e size v n xs) (hl : lo' ≤ lo) : w.ownsRow lo' e size v n xs := by
  obtain ⟨h1, h2⟩ := h
  refine ⟨h1, ?_⟩
  rcases h2 with h2 | ⟨g, cap, cur, hv, hg, r⟩
  · exact .inl h2
  · exact .inr ⟨g, cap, cur, hv, by omega, r⟩
theorem own_step {w w' : World} {lo size n : Nat} {e : TypeId} {v : Value} {xs : List Value} (h : w.ownsRow lo e size v n xs) (b : Below w.heap.size w w') : w'.ownsRow lo e size v n xs :=
  own_reblock h fun g hg => b.block g (h.lt g hg).2
/-- What the loops of the reference's GroupOf know. -/
structure GenQ (w wr : World) (N : Nat) (q : List (List Int)) (vg vq : Value) (sr rs : List (Value × List Int)) : Prop where
  below : Below w.heap.size w wr
  rows : RV wr w.heap.size sr
  g : wr.ownsRow w.heap.size 27 1 vg sr.length (sr.map Prod.fst)
  sorted : sr.map Prod.snd = sortL q
  qrows : ∀ r ∈ rs, OI wr w.heap.size r.1 r.2
  queue : wr.ownsRow w.heap.size 27 1 vq rs.length (rs.map Prod.fst)
  lists : rs.map Prod.snd = q
  gen : Gen N q
theorem GenQ.step {w wr w1 : World} {N : Nat} {q : List (List Int)} {vg vq : Value} {sr rs : List (Value × List Int)} (h : GenQ w wr N q vg vq sr rs) (b : Below wr.heap.size wr w1) : GenQ w w1 N q vg vq sr rs :=
  ⟨bstep h.below b, h.rows.step b, own_step h.g b, h.sorted, fun r hr => OI.step (h.qrows r hr) b, own_step h.queue b, h.lists, h.gen⟩
theorem GenQ.rlen {w wr : World} {N : Nat} {q : List (List Int)} {vg vq : Value} {sr rs : List (Value × List Int)} (h : GenQ w wr N q vg vq sr rs) : rs.length = q.length ∧ sr.length = q.length := by
  constructor
  · rw [← h.lists, List.length_map]
  · have := congrArg List.length h.sorted
    rwa [List.length_map, sortL_len] at this
theorem GenQ.start {w w2 : World} {N : Nat} {v1 v2 : Value} (h1 : 1 ≤ N) (h2 : N ≤ 10) {g1 g2 : Value} (hb : Below w.heap.size w w2) (o1 : OI w2 w.heap.size v1 (identity N)) (o2 : OI w2 w.heap.size v2 (identity N))
    (hg : w2.ownsRow w.heap.size 27 1 g1 1 [v1]) (hq : w2.ownsRow w.heap.size 27 1 g2 1 [v2]) : GenQ w w2 N [identity N] g1 g2 [(v1, identity N)] [(v2, identity N)] :=
  ⟨hb, ⟨fun r hr => by rw [List.mem_singleton.1 hr]; exact o1, by simp⟩, hg, by
    have : sortL [identity N] = [identity N] := sortL_of_asc fun i j hij hj => by simp at hj; omega
    rw [this]; rfl, fun r hr => by rw [List.mem_singleton.1 hr]; exact o2, hq, rfl, Gen.start h1 h2⟩
/-- A new element. -/
theorem GenQ.new {w wr w2 w4 w5 : World} {N : Nat} {q : List (List Int)} {vg vq vg2 vq2 u : Value} {sr rs : List (Value × List Int)} {p : List Int} (h : GenQ w wr N q vg vq sr rs) (b2 : Below wr.heap.size wr w2) (ou : OI w2 wr.heap.size u p) (b4 : Below w2.heap.size w2 w4)
    (hg : w4.ownsRow w2.heap.size 27 1 vg2 (putR sr (u, p)).length ((putR sr (u, p)).map Prod.fst)) (hgr : w4.grownBy w5 vq.ownBlock) (b5 : Below w.heap.size w4 w5) (hq : w5.ownsRow w.heap.size 27 1 vq2 (rs.length + 1) (rs.map Prod.fst ++ [u])) (hgen : Gen N (q ++ [p])) :
    GenQ w w5 N (q ++ [p]) vg2 vq2 (putR sr (u, p)) (rs ++ [(u, p)]) := by
  have h4 := (h.step b2).step b4
  have hlo : w.heap.size ≤ wr.heap.size := h.below.size
  have hq4 := h4.queue
  have stay : ∀ {lo2 : Nat} {x : Value} {zs : List Int}, OI w4 lo2 x zs → OI w5 lo2 x zs := fun {lo2 x zs} hx =>
    own_reblock hx fun g hgx => hgr.block g (hx.lt g hgx).2 fun e => own_ne hq4 hx (by decide) e.symm hgx
  have hq2 := (h.step b2).queue
  have hrv : RV w4 w.heap.size (sr ++ [(u, p)]) := RV.snoc (mid := wr.heap.size) h4.rows (fun r hr g hg => ((h.rows.own r hr).lt g hg).2) (OI.step ou b4) hlo
  have hrv2 := hrv.perm (putR_perm sr (u, p))
  refine ⟨h4.below.trans b5, ⟨fun r hr => stay (hrv2.own r hr), hrv2.apart⟩, ?_, ?_, fun r hr => ?_, ?_, ?_, hgen⟩
  · refine own_reblock (own_mono hg (by have := b2.size; omega)) fun g hgx => hgr.block g (hg.lt g hgx).2 fun e => ?_
    have a := (hq2.lt g e.symm).2
    have b := (hg.lt g hgx).1
    omega
  · rw [putR_snd, h.sorted, putL_sortL]
  · rcases List.mem_append.1 hr with hr | hr
    · exact stay (h4.qrows r hr)
    · rw [List.mem_singleton.1 hr]; exact stay (OI.mono (OI.step ou b4) hlo)
  · rw [List.length_append, List.map_append]; exact hq
  · rw [List.map_append, h.lists]; rfl
theorem findIdx_mem {q : List (List Int)} {p : List Int} : decide (0 ≤ findIdx (sortL q) p) = decide (p ∈ q) := by
  rw [decide_eq_decide]
  rcases findIdx_range (sortL q) p with ⟨h0, _, h1⟩ | ⟨h0, h1⟩
  · exact ⟨fun _ => mem_sortL.1 h1, fun _ => h0⟩
  · exact ⟨fun h => by omega, fun h => absurd (mem_sortL.2 h) h1⟩

set_option maxHeartbeats 3200000 in
set_option maxRecDepth 100000 in
theorem specGroupOf_any {w : World} {a : Value} {gs : List (List Int)} (n : Int) (ha : RII w a gs) :
    Calls Try.prog 99 #[.int .i64 n, a] w fun e w' => ∃ v, e = .returned (.tuple #[v, .bool (groupOf n gs).2]) ∧ OII w' w.heap.size v (groupOf n gs).1 ∧ Below w.heap.size w w' := by
  have HA := Lib.hid ha
  have hlx := ha.lenle
  obtain ⟨A, c, rfl, -, hx⟩ := ha
  by_cases hr : n < 1 ∨ 10 < n
  · have HC := Lib.hid (groupOf_bad (gens := gs) (n := n) (by omega))
    clear hx
    go_enter Try.func99, Try.ntmps99
    go_wp2_with (go_at_call 53; refine (l01In_no _ _ _ _ (by omega)).mono ?_; rintro e w' ⟨rfl, rfl⟩)
    go_ret2
    exact ⟨_, ret2 (by rw [HC.out]), by rw [HC.out]; exact OII.nil _ _, Below.refl _ _⟩
  obtain ⟨N, rfl⟩ := Int.eq_ofNat_of_zero_le (show 0 ≤ n by omega)
  have h1 : 1 ≤ N := by omega
  have h2 : N ≤ 10 := by omega
  clear hr
  obtain ⟨m, hm⟩ : ∃ m, m = gs.length := ⟨_, rfl⟩
  rw [← hm] at hx HA hlx ⊢
  have HL := Lib.hid hm
  have HX := Lib.hid hx
  have HB0 := Lib.hid (Below.refl w.heap.size w)
  clear hm hx
  go_enter Try.func99, Try.ntmps99
  go_wp2_with (go_at_call 53; refine (l01In_yes _ _ _ _ (by omega) (by omega)).mono ?_; rintro e w' ⟨rfl, rfl⟩)
  go_loopw [19] (fun i wr => ∃ k : Nat, k ≤ m ∧ i = .int .i64 k ∧ Hid (∀ p ∈ gs.take k, permOk p = true ∧ p.length = N) ∧ Hid (Below w.heap.size w wr)) (fun i _ => m - (intOf i).toNat)
  case atStart => exact ⟨0, Nat.zero_le _, rfl, fun p h => absurd h (by simp), HB0.out⟩
  case round =>
    obtain ⟨k, hk, rfl, HK, B⟩ := hrel
    by_cases hlt : k < m
    · obtain ⟨b1, o1, rfl, hb1, hc1⟩ := HX.out (by omega)
      obtain ⟨A1, c1, cc1, rr1⟩ := RII.at hc1 (k := k) hlt
      have e1 := (B.out.cell (p := ⟨b1, o1 + k, none⟩) hb1).trans cc1
      obtain ⟨p, hp⟩ : ∃ p, p = gs.getD k [] := ⟨_, rfl⟩
      rw [← hp] at e1 rr1
      obtain ⟨l, hl⟩ : ∃ l, l = p.length := ⟨_, rfl⟩
      rw [← hl] at e1 rr1
      have HP := Lib.hid (rr1.below B.out)
      have hkl : k < gs.length := by have := HL.out; omega
      have HT : Hid (gs.take (k + 1) = gs.take k ++ [p]) := by rw [hp]; exact takeG_succ hkl
      cases hok : permOk p with
      | false =>
        have HC := Lib.hid (groupOf_bad (n := (N : Int)) (gens := gs) (.inr (.inr (by rw [Int.toNat_natCast]; exact gensOk_no hkl (.inl (by rw [← hp]; exact hok))))))
        have HOK := Lib.hid hok
        clear cc1 rr1 hp hl hc1 hok
        go_wp2_with fail
        refine (specPermOk_any HP.out).mono ?_
        rw [HOK.out]
        rintro e w1 ⟨rfl, b⟩
        have BB := Lib.hid (bstep B.out b)
        clear b e1
        go_wp2_with fail
        go_ret2
        exact ⟨_, ret2 (by rw [HC.out]), by rw [HC.out]; exact OII.nil _ _, BB.out⟩
      | true =>
        have HOK := Lib.hid hok
        by_cases hlN : l = N
        · have HN : Hid (∀ p ∈ gs.take (k + 1), permOk p = true ∧ p.length = N) := fun r hr => by
            rw [HT.out] at hr
            rcases List.mem_append.1 hr with hr | hr
            · exact HK.out r hr
            · rw [List.mem_singleton.1 hr]; exact ⟨hok, by omega⟩
          have hbq : ((l : Int) != (N : Int)) = false := by rw [hlN]; simp
          clear cc1 rr1 hp hl hc1 hok hlN
          go_wp2_with fail
          refine (specPermOk_any HP.out).mono ?_
          rw [HOK.out]
          rintro e w1 ⟨rfl, b⟩
          have BB := Lib.hid (bstep B.out b)
          clear b e1
          go_wp2_with fail
          go_roundw
          case rel => exact ⟨k + 1, by omega, by go_num, HN.out, BB.out⟩
          case measure => simp [intOf]; omega
        · have HC := Lib.hid (groupOf_bad (n := (N : Int)) (gens := gs) (.inr (.inr (by rw [Int.toNat_natCast]; exact gensOk_no hkl (.inr (by rw [← hp, ← hl]; exact hlN))))))
          have hbq : ((l : Int) != (N : Int)) = true := bne_iff_ne.2 (by omega)
          clear cc1 rr1 hp hl hc1 hok hlN
          go_wp2_with fail
          refine (specPermOk_any HP.out).mono ?_
          rw [HOK.out]
          rintro e w1 ⟨rfl, b⟩
          have BB := Lib.hid (bstep B.out b)
          clear b e1
          go_wp2_with fail
          go_ret2
          exact ⟨_, ret2 (by rw [HC.out]), by rw [HC.out]; exact OII.nil _ _, BB.out⟩
    · have HGO : Hid (∀ p ∈ gs, permOk p = true ∧ p.length = N) := by
        have h := HK.out
        rwa [List.take_of_length_le (by have := HL.out; omega)] at h
      have HGK := Lib.hid (gensOk_iff.2 HGO.out)
      have hid : identityPerm (N : Int) = identity N := by unfold identityPerm; rw [if_pos ⟨by omega, by omega⟩, Int.toNat_natCast]
      have HID := Lib.hid hid
      clear hid
      go_wp2_with fail
      refine (specIdentityPerm_any (w := wr) (N : Int)).mono ?_
      rw [HID.out]
      rintro e w1 ⟨v1, rfl, o, b⟩
      obtain ⟨Ai, ci, rfl, -⟩ := OI.form o
      have HW1 := Lib.hid (And.intro (bstep B.out b) (OI.mono o B.out.size))
      clear o b
      go_wp2_with fail
      refine (specIdentityPerm_any (w := w1.alloc (.cells #[.slice Ai (identity N).length ci] 27)) (N : Int)).mono ?_
      rw [HID.out]
      rintro e w2 ⟨v2, rfl, o, b⟩
      obtain ⟨Aj, cj, rfl, -⟩ := OI.form o
      have hs0 : GenQ w (w2.alloc (.cells #[.slice Aj (identity N).length cj] 27)) N [identity N] (.slice (some ⟨w1.heap.size, 0, none⟩) 1 1) (.slice (some ⟨w2.heap.size, 0, none⟩) 1 1) [(.slice Ai (identity N).length ci, identity N)] [(.slice Aj (identity N).length cj, identity N)] := by
        have ba : Below w1.heap.size w1 (w1.alloc (.cells #[.slice Ai (identity N).length ci] 27)) := (Below.refl _ _).alloc (Nat.le_refl _) _
        have bb := b.trans ((Below.refl w2.heap.size w2).alloc (Nat.le_refl _) (.cells #[.slice Aj (identity N).length cj] 27) |>.mono b.size)
        have hz : w.heap.size ≤ w2.heap.size := (bstep (bstep HW1.out.1 ba) b).size
        have hg1 : (w1.alloc (.cells #[.slice Ai (identity N).length ci] 27)).ownsRow w.heap.size 27 1 (.slice (some ⟨w1.heap.size, 0, none⟩) 1 1) 1 [.slice Ai (identity N).length ci] :=
          World.ownsRow_lit w1 #[.slice Ai (identity N).length ci] 1 HW1.out.1.size (by decide) rfl
        refine GenQ.start h1 h2 (bstep (bstep HW1.out.1 ba) bb) (OI.step (OI.step HW1.out.2 ba) bb) (OI.mono (OI.step o ((Below.refl _ _).alloc (Nat.le_refl _) _)) (bstep HW1.out.1 ba).size) (own_step hg1 bb) ?_
        exact World.ownsRow_lit w2 #[.slice Aj (identity N).length cj] 1 hz (by decide) rfl
      have HS0 := Lib.hid hs0
      obtain ⟨R0, hR0⟩ : ∃ R0, R0 = genAll N gs := ⟨_, rfl⟩
      have HR0 := Lib.hid hR0
      have HST : Hid (genGo gs 121 0 [identity N] = R0) := by rw [hR0]; rfl
      clear hs0 o b hR0
      go_wp2_with fail
      go_loopw [8, 9, 10] (fun vg vq i wr => ∃ (q : List (List Int)) (a : Nat) (sr rs : List (Value × List Int)), i = .int .i64 a ∧ a ≤ q.length ∧ Hid (GenQ w wr N q vg vq sr rs) ∧ Hid (genGo gs (121 - a) a q = R0)) (fun _ _ i _ => 121 - (intOf i).toNat)
      case atStart => exact ⟨[identity N], 0, _, _, rfl, Nat.zero_le _, HS0.out, HST.out⟩
      case round =>
        obtain ⟨q, a, sr, rs, rfl, haq, HS, HR⟩ := hrel
        obtain ⟨lq, hlq⟩ : ∃ lq, lq = q.length := ⟨_, rfl⟩
        obtain ⟨hrl, hsl⟩ := HS.out.rlen
        obtain ⟨A8, c8, rfl⟩ := own_shape HS.out.g
        obtain ⟨A9, c9, rfl⟩ := own_shape HS.out.queue
        rw [hrl, hsl, ← hlq] at HS ⊢
        rw [← hlq] at haq
        have hl1 : 1 ≤ lq := by have := HS.out.gen.one; omega
        have hl2 : lq ≤ 120 := by have := HS.out.gen.le; omega
        have HLQ := Lib.hid hlq
        clear hlq hrl hsl
        by_cases hlt2 : a < lq
        · obtain ⟨R1, hR1⟩ : ∃ R1, R1 = genRow gs a q := ⟨_, rfl⟩
          have HR1 := Lib.hid hR1
          have HRR : Hid (genRest gs 0 a q = R1) := by rw [Hid, genRest_zero, hR1]
          clear hR1
          go_wp2_with fail
          go_loopw [8, 9, 47] (fun vg vq i wr => ∃ (q : List (List Int)) (j : Nat) (sr rs : List (Value × List Int)), i = .int .i64 j ∧ j ≤ m ∧ a < q.length ∧ Hid (GenQ w wr N q vg vq sr rs) ∧ Hid (genRest gs j a q = R1)) (fun _ _ i _ => m - (intOf i).toNat)
          case atStart => exact ⟨q, 0, sr, rs, rfl, Nat.zero_le _, by have := HLQ.out; omega, HS.out, HRR.out⟩
          case round =>
            clear HS
            obtain ⟨q2, j, sr, rs, rfl, hj, haq2, HS2, HR2⟩ := hrel
            obtain ⟨l2, hl2'⟩ : ∃ l2, l2 = q2.length := ⟨_, rfl⟩
            obtain ⟨hrl, hsl⟩ := HS2.out.rlen
            obtain ⟨A8, c8, hA8, hx8⟩ : ∃ g8 c8, u8 = .slice (some ⟨g8, 0, none⟩) l2 c8 ∧ True := by
              obtain ⟨g8, c8, hv, _⟩ := own_cell HS2.out.g (by omega)
              exact ⟨g8, c8, by rw [hv, hsl, hl2'], trivial⟩
            subst hA8
            obtain ⟨A9, c9, hA9⟩ : ∃ g9 c9, u9 = .slice (some ⟨g9, 0, none⟩) l2 c9 := by
              obtain ⟨g8, c8, hv, _⟩ := own_cell HS2.out.queue (by omega)
              exact ⟨g8, c8, by rw [hv, hrl, hl2']⟩
            subst hA9
            rw [← hl2'] at haq2
            have hl3 : l2 ≤ 120 := by have := HS2.out.gen.le; omega
            have HL2 := Lib.hid hl2'
            have HRL : Hid (rs.length = l2 ∧ sr.length = l2) := ⟨by omega, by omega⟩
            clear hl2' hx8 hrl hsl
            by_cases hjm : j < m
            · obtain ⟨b1, o1, rfl, hb1, hc1⟩ := HX.out (by omega)
              obtain ⟨A1, c1, cc1, rr1⟩ := RII.at hc1 (k := j) hjm
              have e1 := (HS2.out.below.cell (p := ⟨b1, o1 + j, none⟩) hb1).trans cc1
              obtain ⟨s, hs⟩ : ∃ s, s = gs.getD j [] := ⟨_, rfl⟩
              rw [← hs] at e1 rr1
              have hjl : j < gs.length := by have := HL.out; omega
              have HGJ : Hid (permOk s = true ∧ s.length = N) := by rw [hs]; exact HGO.out _ (getD_memS hjl)
              have haR : a < rs.length := by have := HRL.out.1; omega
              obtain ⟨gq, cq, hvq, _, _, hcq⟩ := own_cell HS2.out.queue (by omega)
              have cu := hcq a haR
              simp only [Value.slice.injEq, Option.some.injEq, Addr.mk.injEq, and_true] at hvq
              obtain ⟨rfl, -, rfl⟩ := hvq
              rw [getD_map (d' := (undef, [])) haR] at cu
              have ou := HS2.out.qrows (rs.getD a (undef, [])) (by simp [List.getElem?_eq_getElem haR])
              have hpa : (rs.getD a (undef, [])).2 = q2.getD a [] := by rw [← HS2.out.lists, getD_map (d' := (undef, [])) haR]
              rw [hpa] at ou
              obtain ⟨ua, hua⟩ : ∃ ua, ua = (rs.getD a (undef, [])).1 := ⟨_, rfl⟩
              obtain ⟨p, hp⟩ : ∃ p, p = q2.getD a [] := ⟨_, rfl⟩
              rw [← hp, ← hua] at ou
              rw [← hua] at cu
              have HGP : Hid (permOk p = true ∧ p.length = N) := by rw [hp]; exact HS2.out.gen.perm _ (getD_memS (by have := HL2.out; omega))
              have HP := Lib.hid ou.reads
              have HQ := Lib.hid (rr1.below HS2.out.below)
              have HSE := Lib.hid hs
              have HPE := Lib.hid hp
              obtain ⟨A2, c2, rfl, -⟩ := OI.form ou
              have HI : Hid (Into p s) := fun x hx => by rw [HGJ.out.2, ← HGP.out.2]; exact permOk_mem HGP.out.1 x hx
              have hp20 : p.length ≤ 1048576 := by rw [HGP.out.2]; omega
              clear cc1 rr1 hs hp hc1 ou hpa hcq haR hua
              go_wp2_with fail
              refine (l02Compose_any HP.out HQ.out hp20 HI.out).mono ?_
              rintro e w2 ⟨v2, rfl, o, b⟩
              have HS3 := Lib.hid (HS2.out.step b)
              have HO := Lib.hid o
              have HSB := Lib.hid b
              clear o b e1 cu
              obtain ⟨A3, c3, rfl, -⟩ := OI.form HO.out
              have hcl : (compose p s).length = N := by rw [compose_len]; exact HGP.out.2
              have HFI : Hid (∀ x ∈ sortL q2, x.length = (compose p s).length) := fun x hx => by rw [hcl]; exact (HS2.out.gen.perm x (mem_sortL.1 hx)).2
              have HRG : Hid (RII w2 (.slice (some ⟨A8, 0, none⟩) l2 c8) (sortL q2)) := by
                have := HS3.out.rows.reads HS3.out.g
                rw [HS3.out.sorted] at this; exact this
              obtain ⟨z, hz⟩ : ∃ z, z = findIdx (sortL q2) (compose p s) := ⟨_, rfl⟩
              have hzd := findIdx_mem (q := q2) (p := compose p s)
              rw [← hz] at hzd
              have HZ := Lib.hid hz
              clear hcl hz
              by_cases hmem : compose p s ∈ q2
              · have HN := Lib.hid (genRest_old (gens := gs) (j := j) (a := a) (q := q2) hjl (by rw [← HPE.out, ← HSE.out]; exact hmem))
                rw [decide_eq_true hmem] at hzd
                clear hmem
                go_wp2_with fail
                refine (l03Find_any HRG.out HO.out.reads (sortL_asc HS2.out.gen.nodup) HFI.out (by rw [sortL_len]; have := HL2.out; omega)).mono ?_
                rw [← HZ.out]
                rintro e w4 ⟨rfl, s4⟩
                have HS5 := Lib.hid (HS3.out.step s4.below)
                clear s4
                go_wp2_with fail
                go_roundw
                case rel => exact ⟨q2, j + 1, sr, rs, by go_num, by omega, by have := HL2.out; omega, HS5.out, by rw [← HN.out]; exact HR2.out⟩
                case measure => simp [intOf]; omega
              · have HNO : Hid (compose (q2.getD a []) (gs.getD j []) ∉ q2) := by rw [← HPE.out, ← HSE.out]; exact hmem
                rw [decide_eq_false hmem] at hzd
                clear hmem
                by_cases h120 : l2 = 120
                · have HN := Lib.hid (genRest_full (gens := gs) (j := j) (a := a) (q := q2) hjl HNO.out (by have := HL2.out; omega))
                  have HNN : Hid (R0 = none) := by
                    rw [Hid, ← HR.out]
                    exact genGo_none (by omega) (by have := HLQ.out; omega) (by rw [← HR1.out, ← HR2.out]; exact HN.out)
                  have HC := Lib.hid (groupOf_none h1 h2 HGK.out (by rw [← HR0.out]; exact HNN.out))
                  have hq1 : ((l2 : Int) == 120) = true := by rw [h120]; rfl
                  clear h120
                  go_wp2_with fail
                  refine (l03Find_any HRG.out HO.out.reads (sortL_asc HS2.out.gen.nodup) HFI.out (by rw [sortL_len]; have := HL2.out; omega)).mono ?_
                  rw [← HZ.out]
                  rintro e w4 ⟨rfl, s4⟩
                  have HS5 := Lib.hid (HS3.out.step s4.below)
                  clear s4
                  go_wp2_with fail
                  go_ret2
                  exact ⟨_, ret2 (by rw [HC.out]), by rw [HC.out]; exact OII.nil _ _, HS5.out.below⟩
                · have hne : q2.length ≠ 120 := by have := HL2.out; omega
                  have HN := Lib.hid (genRest_new (gens := gs) (j := j) (a := a) (q := q2) hjl HNO.out hne)
                  have HGN := Lib.hid (HS2.out.gen.new (a := a) (s := s) (by have := HL2.out; omega) HGJ.out (by rw [HSE.out]; exact HNO.out) hne)
                  rw [← HPE.out] at HGN
                  rw [← HPE.out, ← HSE.out] at HN
                  have hq1 : ((l2 : Int) == 120) = false := beq_eq_false_iff_ne.2 (by omega)
                  clear h120 hne
                  go_wp2_with fail
                  refine (l03Find_any HRG.out HO.out.reads (sortL_asc HS2.out.gen.nodup) HFI.out (by rw [sortL_len]; have := HL2.out; omega)).mono ?_
                  rw [← HZ.out]
                  rintro e w4 ⟨rfl, s4⟩
                  have HS5 := Lib.hid (HS3.out.step s4.below)
                  have HB4 := Lib.hid s4.below
                  have HO5 := Lib.hid (HO.out.step s4.below)
                  clear s4
                  go_wp2_with fail
                  refine (l03Put_any HS5.out.g HRL.out.2 HS5.out.rows HO5.out.reads (fun r hr => HFI.out r.2 (by rw [← HS2.out.sorted]; exact List.mem_map.2 ⟨r, hr, rfl⟩)) (by omega)).mono ?_
                  rintro e w5 ⟨vg2, rfl, hg5, b5⟩
                  obtain ⟨A5, c5, rfl⟩ := own_shape hg5
                  have HG5 := Lib.hid hg5
                  have HB5 := Lib.hid b5
                  have HS6 := Lib.hid (HS5.out.step b5)
                  clear hg5 b5
                  have HQ6 : Hid (w5.ownsRow w.heap.size 27 1 (.slice (some ⟨A9, 0, none⟩) l2 c9) rs.length (rs.map Prod.fst)) := HS6.out.queue
                  go_wp2_with (at_builtin; refine wpList_app1 _ rfl (.tmp 67) (.tmp 69) 22 27 (.slice none 0 0) 24 rfl Try.underlying22 intS_info rfl w.heap.size _ rs.length (rs.map Prod.fst) (.slice A3 (compose p s).length c3) rfl rfl (by simp) rfl HQ6.out (by have := HRL.out.1; omega) (by omega) HS6.out.below.size ?_; intro v6 w6 ho6 hb6 hg6)
                  have HSN : Hid (GenQ w w6 N (q2 ++ [compose p s]) (.slice A5 (putR sr (.slice A3 (compose p s).length c3, compose p s)).length c5) v6 (putR sr (.slice A3 (compose p s).length c3, compose p s)) (rs ++ [(.slice A3 (compose p s).length c3, compose p s)])) :=
                    GenQ.new HS2.out (HSB.out.trans (HB4.out.mono HSB.out.size)) HO5.out HB5.out HG5.out hg6 hb6 ho6 HGN.out
                  clear ho6 hb6 hg6
                  go_wp2_with fail
                  go_roundw
                  case rel => exact ⟨q2 ++ [compose p s], j + 1, _, _, by go_num, by omega, by rw [List.length_append]; have := HL2.out; omega, HSN.out, by rw [← HN.out]; exact HR2.out⟩
                  case measure => simp [intOf]; omega
            · have HE : Hid (R1 = some q2) := by rw [Hid, ← HR2.out]; exact genRest_end (by have := HL.out; omega)
              have HNX : Hid (genGo gs (121 - (a + 1)) (a + 1) q2 = R0) := by
                have hh := genGo_some (gens := gs) (f := 121 - a) (a := a) (q := q) (q' := q2) (by omega) (by have := HLQ.out; omega) (by rw [← HR1.out]; exact HE.out)
                rw [Nat.sub_sub] at hh
                exact hh.symm.trans HR.out
              go_wp2_with fail
              go_roundw
              case rel => exact ⟨q2, a + 1, sr, rs, by go_num, by have := HL2.out; omega, HS2.out, HNX.out⟩
              case measure => simp [intOf]; omega
        · have HE : Hid (R0 = some q) := by rw [Hid, ← HR.out]; exact genGo_stop (by have := HLQ.out; omega)
          have HC := Lib.hid (groupOf_some h1 h2 HGK.out (by rw [← HR0.out]; exact HE.out))
          have HO : Hid (OII wr w.heap.size (.slice A8 lq c8) (sortL q)) := by
            have := HS.out.rows.toOII HS.out.g
            rw [HS.out.sorted] at this; exact this
          go_wp2_with fail
          go_ret2
          exact ⟨_, ret2 (by rw [HC.out]), by rw [HC.out]; exact HO.out, HS.out.below⟩
end Go.Proofs.Ytfanohebejemmaa
