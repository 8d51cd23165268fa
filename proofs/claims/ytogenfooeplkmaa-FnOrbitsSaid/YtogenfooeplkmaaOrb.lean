/-
  OrbitsOf, of the program and of the reference.
-/
import Derived.Test.YtogenfooeplkmaaOrbFn
import Derived.Test.YtogenfooeplkmaaCyc
import Derived.Test.YtogenfooeplkmaaGroupOkS
import Derived.Test.YtogenfooeplkmaaGroupOkI
import Derived.Test.YtogenfooeplkmaaClone
namespace Go.Proofs.Ytogenfooeplkmaa
open Go.RowKit Go.Deep

/-- What the outer loop of OrbitsOf knows. -/
structure OrbOut (w wr : World) (g : List (List Int)) (gm k : Nat) (v : Value) : Prop where
  below : Below w.heap.size w wr
  out : OII wr w.heap.size v (orbitsTo g k)
  met : wr.rowIs gm 4 (deg g) (fun j => .bool (memB (orbitsTo g k).flatten j))
/-- What the program's inner loop knows: wo is the world at the outer loop's head, j permutations are done. -/
structure OrbIn (wo wi : World) (g : List (List Int)) (gm k j : Nat) (u : Value) : Prop where
  grown : wo.grownBy wi (some gm)
  orb : OI wi wo.heap.size u (imgs (orbitsTo g k).flatten k (g.take j))
  met : wi.rowIs gm 4 (deg g) (fun x => .bool (memB ((orbitsTo g k).flatten ++ imgs (orbitsTo g k).flatten k (g.take j)) x))
theorem OrbIn.start {w wo w1 : World} {g : List (List Int)} {gm k : Nat} {v u : Value} (h : OrbOut w wo g gm k v) (ho : OI w1 wo.heap.size u []) (hb : Below wo.heap.size wo w1) : OrbIn wo w1 g gm k 0 u :=
  ⟨⟨hb.os, hb.tape, hb.output, hb.size, fun i hi _ => hb.block i hi⟩, ho, by rw [List.take_zero, imgs_nil, List.append_nil]; exact h.met.of_block (hb.block gm h.met.lt)⟩
theorem OrbIn.old {wo wi : World} {g : List (List Int)} {gm k j m : Nat} {u : Value} {p : List Int} (h : OrbIn wo wi g gm k j u) (ht : g.take (j + 1) = g.take j ++ [p]) (hm : p.getD k 0 = (m : Int)) (hx : memB ((orbitsTo g k).flatten ++ imgs (orbitsTo g k).flatten k (g.take j)) m = true) : OrbIn wo wi g gm k (j + 1) u := by
  refine ⟨h.grown, ?_, ?_⟩ <;> rw [ht, imgs_old hm hx]
  · exact h.orb
  · exact h.met
theorem OrbIn.new {wo wi w1 : World} {g : List (List Int)} {gm k j m : Nat} {u v1 : Value} {p : List Int} (h : OrbIn wo wi g gm k j u) (ht : g.take (j + 1) = g.take j ++ [p]) (hm : p.getD k 0 = (m : Int)) (hx : memB ((orbitsTo g k).flatten ++ imgs (orbitsTo g k).flatten k (g.take j)) m = false) (hgm : gm < wo.heap.size)
    (ho : OI w1 wo.heap.size v1 (imgs (orbitsTo g k).flatten k (g.take j) ++ [(m : Int)])) (hb : Below wo.heap.size (wi.setCell ⟨gm, m, none⟩ (.bool true)) w1) : OrbIn wo w1 g gm k (j + 1) v1 := by
  refine ⟨grownBy_below (grownBy_set h.grown m _) hb, ?_, ?_⟩ <;> rw [ht, imgs_new hm hx]
  · exact ho
  · rw [← List.append_assoc]
    exact (rowIs_mem h.met).of_block (hb.block gm hgm)
/-- Rows that lie beside an integer row stay when that row is written. -/
theorem OIIh.beside {w w' : World} {lo hi lo2 n gu : Nat} {v u : Value} {us : List Value} {xss : List (List Int)} (h : OIIh w lo hi v xss) (hu : w.ownsRow lo2 3 1 u n us) (hgu : u.ownBlock = some gu) (hle : hi ≤ gu) (hg : w.grownBy w' (some gu)) : OIIh w' lo hi v xss := by
  obtain ⟨vs, h1, h2, h3, h4⟩ := h
  refine ⟨vs, own_reblock h1 fun g hg' => hg.block g (h1.lt g hg').2 fun e => ?_, h2, fun k hk => ⟨own_reblock (h3 k hk).1 fun g hg' => hg.block g ((h3 k hk).1.lt g hg').2 fun e => ?_, (h3 k hk).2⟩, h4⟩
  · exact own_ne h1 hu (by decide) hg' (by rw [hgu, e])
  · cases e; have := (h3 k hk).2 gu hg'; omega
/-- After the sort. -/
theorem OrbIn.sorted {w wo wi w2 : World} {g : List (List Int)} {gm gu k c n : Nat} {v : Value} (h : OrbIn wo wi g gm k g.length (.slice (some ⟨gu, 0, none⟩) n c)) (ho : OrbOut w wo g gm k v) (hG : Grp g) (hgm : w.heap.size ≤ gm) (hk : k < deg g) (hm : memB (orbitsTo g k).flatten k = false)
    (hs : OI w2 wo.heap.size (.slice (some ⟨gu, 0, none⟩) n c) (sortI (imgs (orbitsTo g k).flatten k (g.take g.length)))) (hg : wi.grownBy w2 (some gu)) :
    Below w.heap.size w w2 ∧ OIIh w2 w.heap.size wo.heap.size v (orbitsTo g k) ∧ OI w2 wo.heap.size (.slice (some ⟨gu, 0, none⟩) n c) (orbit g k) ∧ w2.rowIs gm 4 (deg g) (fun x => .bool (memB (orbitsTo g (k + 1)).flatten x)) := by
  have hb1 : Below w.heap.size w wi := ho.below.grown h.grown ho.below.size (fun g hg => by cases hg; exact hgm)
  have hlt := h.orb.lt gu rfl
  have h2 : OIIh wi w.heap.size wo.heap.size v (orbitsTo g k) := OIIh.other ho.out ho.met (by decide) h.grown
  have hgl := ho.met.lt
  refine ⟨hb1.grown hg hb1.size (fun g hg => by cases hg; have := ho.below.size; omega), OIIh.beside h2 h.orb rfl hlt.1 hg, ?_, ?_⟩
  · rw [List.take_length, hG.imgs_sorted hk hm] at hs; exact hs
  · have h3 := h.met
    rw [List.take_length] at h3
    exact (h3.congr fun x _ => by rw [hG.imgs_flat hk hm]).of_block (hg.block gm h3.lt (by intro e; cases e; omega))

/-- What the reference's first inner loop knows: the row of points that are hit. -/
structure OrbS1 (wo wi : World) (g : List (List Int)) (gi k j : Nat) : Prop where
  below : Below wo.heap.size wo wi
  ins : wi.rowIs gi 4 (deg g) (fun x => .bool (hitB (g.take j) k x))
theorem OrbS1.next {wo wi : World} {g : List (List Int)} {gi k j m : Nat} {p : List Int} (h : OrbS1 wo wi g gi k j) (hgi : wo.heap.size ≤ gi) (ht : g.take (j + 1) = g.take j ++ [p]) (hm : p.getD k 0 = (m : Int)) : OrbS1 wo (wi.setCell ⟨gi, m, none⟩ (.bool true)) g gi k (j + 1) := by
  refine ⟨h.below.setCell (p := ⟨gi, m, none⟩) hgi _, (h.ins.set m (.bool true)).congr fun x _ => ?_⟩
  rw [ht, hitB_snoc _ _ _ _ _ hm]
  split <;> rfl
/-- What its second inner loop knows. -/
structure OrbS2 (wo wi : World) (g : List (List Int)) (gm gi k j : Nat) (u : Value) : Prop where
  grown : wo.grownBy wi (some gm)
  ins : wi.rowIs gi 4 (deg g) (fun x => .bool (hitB g k x))
  orb : OI wi wo.heap.size u (orbTo g k j)
  met : wi.rowIs gm 4 (deg g) (fun x => .bool (memB ((orbitsTo g k).flatten ++ orbTo g k j) x))
theorem OrbS2.start {w wo wi : World} {g : List (List Int)} {gm gi k : Nat} {v : Value} (h : OrbOut w wo g gm k v) (h1 : OrbS1 wo wi g gi k g.length) : OrbS2 wo (wi.alloc (.cells #[] 3)) g gm gi k 0 (.slice (some ⟨wi.heap.size, 0, none⟩) 0 0) := by
  have hb : Below wo.heap.size wo (wi.alloc (.cells #[] 3)) := h1.below.alloc h1.below.size _
  have hi := h1.ins
  rw [List.take_length] at hi
  refine ⟨⟨hb.os, hb.tape, hb.output, hb.size, fun i hi _ => hb.block i hi⟩, hi.of_block (Below.heap_alloc wi _ gi hi.lt), OI.mono (OI.lit wi) h1.below.size, ?_⟩
  rw [orbTo_zero, List.append_nil]; exact h.met.of_block (hb.block gm h.met.lt)
theorem OrbS2.no {wo wi : World} {g : List (List Int)} {gm gi k j : Nat} {u : Value} (h : OrbS2 wo wi g gm gi k j u) (hx : hitB g k j = false) : OrbS2 wo wi g gm gi k (j + 1) u := by
  refine ⟨h.grown, h.ins, ?_, ?_⟩ <;> rw [orbTo_no hx]
  · exact h.orb
  · exact h.met
theorem OrbS2.yes {wo wi w1 : World} {g : List (List Int)} {gm gi k j : Nat} {u v1 : Value} (h : OrbS2 wo wi g gm gi k j u) (hx : hitB g k j = true) (hgm : gm < wo.heap.size) (hgi : wo.heap.size ≤ gi)
    (ho : OI w1 wo.heap.size v1 (orbTo g k j ++ [(j : Int)])) (hb : Below wo.heap.size (wi.setCell ⟨gm, j, none⟩ (.bool true)) w1) (hgr : (wi.setCell ⟨gm, j, none⟩ (.bool true)).grownBy w1 u.ownBlock) : OrbS2 wo w1 g gm gi k (j + 1) v1 := by
  refine ⟨grownBy_below (grownBy_set h.grown j _) hb, ?_, ?_, ?_⟩
  · refine h.ins.of_block ((hgr.block gi (by simpa using h.ins.lt) fun e => ?_).trans (Below.heap_setCell _ _ _ _ (by simp; omega)))
    obtain ⟨cur, hcur⟩ := own_type h.orb e.symm
    obtain ⟨cc, hcc, _⟩ := h.ins
    rw [hcur] at hcc
    simp at hcc
  · rw [orbTo_yes hx]; exact ho
  · rw [orbTo_yes hx, ← List.append_assoc]
    exact (rowIs_mem h.met).of_block (hb.block gm hgm)
theorem OrbS2.done {w wo wi : World} {g : List (List Int)} {gm gi k : Nat} {v u : Value} (h : OrbS2 wo wi g gm gi k (deg g) u) (ho : OrbOut w wo g gm k v) (hgm : w.heap.size ≤ gm) (hm : memB (orbitsTo g k).flatten k = false) :
    Below w.heap.size w wi ∧ OIIh wi w.heap.size wo.heap.size v (orbitsTo g k) ∧ OI wi wo.heap.size u (orbit g k) ∧ wi.rowIs gm 4 (deg g) (fun x => .bool (memB (orbitsTo g (k + 1)).flatten x)) :=
  ⟨ho.below.grown h.grown ho.below.size (fun g hg => by cases hg; exact hgm), OIIh.other ho.out ho.met (by decide) h.grown, h.orb, by rw [Grp.orbits_flat hm]; exact h.met⟩

set_option maxHeartbeats 2000000 in
theorem implOrbitsOf_any {w : World} {a : Value} {gs : List (List Int)} (ha : RII w a gs) :
    Calls Try.prog 29 #[a] w fun e w' => ∃ v, e = .returned v ∧ OII w' w.heap.size v (orbitsOf gs) ∧ Below w.heap.size w w' := by
  have HA := Lib.hid ha
  obtain ⟨A, c, rfl, -, hx⟩ := ha
  cases hg : groupOk gs with
  | false =>
    have HC := Lib.hid (orbitsOf_no hg)
    have HG := Lib.hid hg
    clear hg hx
    go_enter Try.func29, Try.ntmps29
    go_wp2_with fail
    refine (implGroupOk_any HA.out).mono ?_
    rw [HG.out]
    rintro e w1 ⟨rfl, b1⟩
    go_wp2
    go_ret
    exact ⟨_, rfl, by rw [HC.out]; exact OII.nil _ _, b1⟩
  | true =>
  have HC := Lib.hid (orbitsOf_yes hg)
  have HG := Lib.hid hg
  have HGR := Lib.hid (grp_of hg)
  obtain ⟨n, hn⟩ : ∃ n, n = gs.length := ⟨_, rfl⟩
  have h1 : 1 ≤ n := by have := HGR.out.one; omega
  have h2 : n ≤ 120 := by have := HGR.out.le; omega
  rw [← hn] at hx HA ⊢
  have HL := Lib.hid hn
  have HX := Lib.hid hx
  clear hn hx hg
  obtain ⟨b1, o1, rfl, hb1, hc1⟩ := HX.out (by omega)
  obtain ⟨A0, c0, cc0, rr0⟩ := RII.at hc1 (k := 0) (by omega)
  obtain ⟨d, hd⟩ : ∃ d, d = (gs.getD 0 []).length := ⟨_, rfl⟩
  have hd' : d = deg gs := hd
  have hdr := HGR.out.deg_le
  rw [← hd'] at hdr
  rw [← hd] at cc0
  simp only [Nat.add_zero] at cc0
  have HD := Lib.hid hd'
  clear rr0 hd hd'
  have hmk := run_make_row' (P := Try.prog) 67 4 (.bool false) 1 Try.underlying67 bool_info rfl .i64 .i64 d (by omega) (by omega)
  have HC1 := Lib.hid hc1
  clear hc1
  go_enter Try.func29, Try.ntmps29
  go_wp2_with fail
  refine (implGroupOk_any HA.out).mono ?_
  rw [HG.out]
  rintro e w1 ⟨rfl, b⟩
  have e0 := ((b.cell (p := ⟨b1, o1, none⟩) hb1).trans cc0)
  have e0' := ((b.alloc b.size (.cells #[] 33)).cell (p := ⟨b1, o1, none⟩) hb1).trans cc0
  have B0 := Lib.hid b
  clear b cc0
  go_wp2_with fail
  have h0 : OrbOut w ((w1.alloc (.cells #[] 33)).alloc (.cells (madeCells #[.bool false] d) 4)) gs (w1.heap.size + 1) 0 (.slice (some ⟨w1.heap.size, 0, none⟩) 0 0) := by
    have hz : w.heap.size ≤ w1.heap.size := B0.out.size
    have s1 : (w1.alloc (.cells #[] 33)).heap.size = w1.heap.size + 1 := by simp
    refine ⟨(B0.out.alloc hz _).alloc (by rw [s1]; omega) _, ?_, ?_⟩
    · rw [orbitsTo_zero]
      exact (OIIh.below ((OIIh.lit w1).mono hz (Nat.le_refl _)) ((Below.refl _ _).alloc (Nat.le_refl _) _) (Nat.le_refl _)).toOII
    · have hr := World.rowIs_made (w1.alloc (.cells #[] 33)) (.bool false) d 4
      rw [s1] at hr
      rw [← HD.out]
      exact hr.congr fun j _ => by simp [orbitsTo_zero, memB]
  have HGM : Hid (w.heap.size ≤ w1.heap.size + 1) := by have := B0.out.size; exact (by omega : w.heap.size ≤ w1.heap.size + 1)
  have H0 := Lib.hid h0
  clear h0 hmk e0 e0'
  obtain ⟨gm, hgm⟩ : ∃ gm, gm = w1.heap.size + 1 := ⟨_, rfl⟩
  rw [← hgm] at H0 HGM ⊢
  clear hgm
  go_loopw [3, 20] (fun v i wr => ∃ k : Nat, k ≤ d ∧ i = .int .i64 k ∧ Hid (OrbOut w wr gs gm k v)) (fun _ i _ => d - (intOf i).toNat)
  case atStart => exact ⟨0, Nat.zero_le _, rfl, H0.out⟩
  case round =>
    obtain ⟨k, hk, rfl, HR⟩ := hrel
    by_cases hlt : k < d
    · have c1 := HR.out.met.cell (i := k) (by have := HD.out; omega)
      cases hs : memB (orbitsTo gs k).flatten k with
      | true =>
        rw [hs] at c1
        have HE := Lib.hid (orbitsTo_old hs)
        clear hs
        go_wp2
        go_roundw
        case rel => exact ⟨k + 1, by omega, by go_num, ⟨HR.out.below, by rw [HE.out]; exact HR.out.out, by rw [HE.out]; exact HR.out.met⟩⟩
        case measure => simp [intOf]; omega
      | false =>
        rw [hs] at c1
        have HS := Lib.hid hs
        have HKD : Hid (k < deg gs) := by rw [Hid, ← HD.out]; exact hlt
        clear hs
        go_wp2_with fail
        obtain ⟨wo, hwo⟩ : ∃ wo : World, wo = wr := ⟨_, rfl⟩
        subst hwo
        have hI : OrbIn wo (wo.alloc (.cells #[] 3)) gs gm k 0 (.slice (some ⟨wo.heap.size, 0, none⟩) 0 0) :=
          OrbIn.start HR.out (OI.lit wo) ((Below.refl _ _).alloc (Nat.le_refl _) _)
        have HI := Lib.hid hI
        clear hI c1
        go_loopw [6, 30] (fun u i wi => ∃ j : Nat, j ≤ n ∧ i = .int .i64 j ∧ Hid (OrbIn wo wi gs gm k j u)) (fun _ i _ => n - (intOf i).toNat)
        case atStart => exact ⟨0, Nat.zero_le _, rfl, HI.out⟩
        case round =>
          obtain ⟨j, hj, rfl, HI2⟩ := hrel
          by_cases hjn : j < n
          · have hjl : j < gs.length := by have := HL.out; omega
            have hbw : Below w.heap.size w wr := HR.out.below.grown HI2.out.grown HR.out.below.size (fun g hg => by cases hg; exact HGM.out)
            obtain ⟨A1, c1, cc1, rr1⟩ := RII.at HC1.out (k := j) hjn
            have e1 := (hbw.cell (p := ⟨b1, o1 + j, none⟩) hb1).trans cc1
            obtain ⟨p, hp⟩ : ∃ p, p = gs.getD j [] := ⟨_, rfl⟩
            rw [← hp] at e1 rr1
            have hpl : d = p.length := by rw [HD.out, hp]; exact (HGR.out.at hjl).2.symm
            have hpi : 0 ≤ p.getD k 0 ∧ p.getD k 0 < (d : Int) := by rw [hp, HD.out]; exact HGR.out.img (getD_memS hjl) HKD.out
            have HT : Hid (gs.take (j + 1) = gs.take j ++ [p]) := by rw [hp]; exact takeG_succ hjl
            obtain ⟨AA, cc, hv, -, hq⟩ := rr1
            simp only [Value.slice.injEq, true_and] at hv
            obtain ⟨rfl, rfl⟩ := hv
            obtain ⟨b2, o2, rfl, hb2, hc2⟩ := hq (by omega)
            have e2w := hc2 k (by omega)
            have e2 := (hbw.cell (p := ⟨b2, o2 + k, none⟩) hb2).trans e2w
            obtain ⟨y, hy⟩ : ∃ y, y = p.getD k 0 := ⟨_, rfl⟩
            rw [← hy] at e2 e2w hpi
            rw [← hpl] at e1
            obtain ⟨q, rfl⟩ := Int.eq_ofNat_of_zero_le hpi.1
            have hqd : q < d := by omega
            have HY := Lib.hid hy.symm
            have c2 := HI2.out.met.cell (i := q) (by have := HD.out; omega)
            have f2 := HI2.out.met.frozen q
            have HBW := Lib.hid hbw
            have HB2 := Lib.hid hb2
            have HE2 := Lib.hid e2w
            clear hc2 cc1 hp hq hy hpi hbw hpl e2w
            obtain ⟨A3, c3, rfl, -⟩ := OI.form HI2.out.orb
            cases hs2 : memB ((orbitsTo gs k).flatten ++ imgs (orbitsTo gs k).flatten k (gs.take j)) q with
            | true =>
              rw [hs2] at c2
              have HN := Lib.hid (HI2.out.old HT.out HY.out hs2)
              clear hs2
              go_wp2_with fail
              go_roundw
              case rel => exact ⟨j + 1, by omega, by go_num, HN.out⟩
              case measure => simp [intOf]; omega
            | false =>
              rw [hs2] at c2
              have HS2 := Lib.hid hs2
              clear hs2
              have hgm := HR.out.met.lt
              have hbm : Below w.heap.size w (wr.setCell ⟨gm, q, none⟩ (.bool true)) := HBW.out.setCell (p := ⟨gm, q, none⟩) HGM.out _
              have hos : OI (wr.setCell ⟨gm, q, none⟩ (.bool true)) wo.heap.size _ (imgs (orbitsTo gs k).flatten k (gs.take j)) := own_reblock HI2.out.orb fun g hg => Below.heap_setCell _ _ _ _ (by have := (HI2.out.orb.lt g hg).1; simp; omega)
              have hlen := imgs_len (orbitsTo gs k).flatten k (gs.take j)
              have hlen2 : (gs.take j).length ≤ 120 := by rw [List.length_take]; have := HL.out; omega
              obtain ⟨ims, hims⟩ : ∃ ims, ims = imgs (orbitsTo gs k).flatten k (gs.take j) := ⟨_, rfl⟩
              have HIMS := Lib.hid hims
              rw [← hims] at hos hlen ⊢
              clear hims
              have HO := Lib.hid hos
              have HBM := Lib.hid hbm
              have HLE := Lib.hid hlen
              clear hos hbm hlen
              have e3 := (HBM.out.cell (p := ⟨b2, o2 + k, none⟩) HB2.out).trans HE2.out
              go_wp2_with (at_builtin; refine wpList_appInt _ rfl (.tmp 48) (.tmp 53) rfl wo.heap.size _ ims (q : Int) rfl rfl (by simp) HO.out (by have h1 := HLE.out; omega) (by simpa using HI2.out.grown.size) ?_; intro v1 w2 ho hb _)
              have hst := HI2.out.new HT.out HY.out HS2.out hgm (by rw [← HIMS.out]; exact ho) hb
              have HF := Lib.hid hst
              clear hst ho hb e3
              go_wp2
              go_roundw
              case rel => exact ⟨j + 1, by omega, by go_num, HF.out⟩
              case measure => simp [intOf]; omega
          · obtain rfl : j = gs.length := by have := HL.out; omega
            have hpos : 0 < (imgs (orbitsTo gs k).flatten k (gs.take gs.length)).length := by rw [List.take_length]; exact HGR.out.imgs_some HKD.out HS.out
            obtain ⟨A3, c3, rfl, h3⟩ := OI.form HI2.out.orb
            obtain ⟨gu, rfl, -⟩ := h3 hpos
            have hlen := imgs_len (orbitsTo gs k).flatten k (gs.take gs.length)
            have hlen2 : (gs.take gs.length).length ≤ 120 := by rw [List.take_length]; have := HL.out; omega
            obtain ⟨u, hu⟩ : ∃ u, u = (imgs (orbitsTo gs k).flatten k (gs.take gs.length)).length := ⟨_, rfl⟩
            have hu120 : u ≤ 120 := by omega
            have HU := Lib.hid hu
            rw [← hu] at HI2 ⊢
            clear hpos h3 hlen hlen2 hu
            obtain ⟨A2, c2, rfl, -⟩ := OIIh.form HR.out.out
            go_wp2_with fail
            refine (sortInts_any HI2.out.orb HU.out.symm (by have := HU.out; omega)).mono ?_
            rintro e w2 ⟨rfl, o2, g2⟩
            have HF := Lib.hid (HI2.out.sorted HR.out HGR.out HGM.out HKD.out HS.out o2 g2)
            have HSZ : Hid (wr.heap.size ≤ w2.heap.size) := g2.size
            clear o2 g2
            have HOB := Lib.hid (And.intro HF.out.2.2.1 HI2.out.grown.size)
            go_wp2_with (at_builtin; refine wpList_appRow _ rfl (.tmp 58) (.tmp 60) rfl w.heap.size wo.heap.size wo.heap.size w2.heap.size _ _ (orbitsTo gs k) (orbit gs k) rfl rfl rfl HF.out.2.1 HF.out.2.2.1 (Nat.le_refl _) HR.out.below.size (OI.bound HF.out.2.2.1) (Nat.le_trans HI2.out.grown.size HSZ.out) (by have := orbitsTo_len gs k; omega) HF.out.1.size ?_; intro v4 w4 ho hb hgr)
            have hfin : OrbOut w w4 gs gm (k + 1) v4 := by
              refine ⟨HF.out.1.trans hb, by rw [orbitsTo_new HS.out]; exact OIIh.toOII ho, ?_⟩
              have hmet := HF.out.2.2.2
              refine hmet.of_block (hgr.block gm hmet.lt fun e => ?_)
              obtain ⟨vs, h1, _⟩ := HF.out.2.1
              obtain ⟨cur, hcur⟩ := own_type h1 e.symm
              obtain ⟨cc, hcc, _⟩ := hmet
              rw [hcur] at hcc
              simp at hcc
            have HFF := Lib.hid hfin
            clear hfin ho hb hgr
            go_wp2
            go_roundw
            case rel => exact ⟨k + 1, by omega, by go_num, HFF.out⟩
            case measure => simp [intOf]; omega
    · go_wp2
      go_ret
      obtain rfl : k = d := by omega
      exact ⟨_, rfl, by rw [HC.out, ← HD.out]; exact HR.out.out, HR.out.below⟩

end Go.Proofs.Ytogenfooeplkmaa
