/-
  ClassesOf, of the program and of the reference.
-/
import Derived.Test.YtfanohebejemmaaClsFn
import Derived.Test.YtfanohebejemmaaGroupOkS
import Derived.Test.YtfanohebejemmaaGroupOkI
import Derived.Test.YtfanohebejemmaaRepeat
namespace Go.Proofs.Ytfanohebejemmaa
open Go.RowKit Go.Deep

theorem Grp.into {g : List (List Int)} (h : Grp g) {a b : List Int} (ha : a ∈ g) (hb : b ∈ g) : Into a b := fun x hx => by
  rw [h.len b hb, ← h.len a ha]; exact permOk_mem (h.perm a ha) x hx
theorem Grp.len20 {g : List (List Int)} (h : Grp g) {a : List Int} (ha : a ∈ g) : a.length ≤ 1048576 := by have := h.short a ha; omega
/-- What the loops of ClassesOf know: the row of numbers. -/
structure ClsIn (w wr : World) (V : Value) (row : List Int) : Prop where
  below : Below w.heap.size w wr
  row : OI wr w.heap.size V row
theorem ClsIn.step {w wr w1 : World} {V : Value} {row : List Int} (h : ClsIn w wr V row) (b : Below wr.heap.size wr w1) : ClsIn w w1 V row := ⟨bstep h.below b, h.row.step b⟩
theorem ClsIn.set {w wr : World} {g n c : Nat} {row : List Int} (h : ClsIn w wr (.slice (some ⟨g, 0, none⟩) n c) row) (hn : row.length = n) (k : Nat) (x : Int) : ClsIn w (wr.setCell ⟨g, k, none⟩ (.int .i64 x)) (.slice (some ⟨g, 0, none⟩) n c) (row.set k x) :=
  ⟨h.below.setCell (p := ⟨g, k, none⟩) (h.row.lt g rfl).1 _, (OI.set h.row hn k x).1⟩

set_option maxHeartbeats 3200000 in
theorem implClassesOf_any {w : World} {a : Value} {gs : List (List Int)} (ha : RII w a gs) :
    Calls Try.prog 35 #[a] w fun e w' => ∃ v, e = .returned v ∧ OI w' w.heap.size v (classesOf gs) ∧ Below w.heap.size w w' := by
  have HA := Lib.hid ha
  obtain ⟨A, c, rfl, -, hx⟩ := ha
  cases hg : groupOk gs with
  | false =>
    have HC := Lib.hid (classesOf_no hg)
    have HG := Lib.hid hg
    clear hg hx
    go_enter Try.func35, Try.ntmps35
    go_wp2_with fail
    refine (implGroupOk_any HA.out).mono ?_
    rw [HG.out]
    rintro e w1 ⟨rfl, b1⟩
    go_wp2
    go_ret
    exact ⟨_, rfl, by rw [HC.out]; exact World.ownsRow_nil _ _ _ _, b1⟩
  | true =>
  have HC := Lib.hid (classesOf_yes hg)
  have HG := Lib.hid hg
  have HGR := Lib.hid (grp_of hg)
  obtain ⟨n, hn⟩ : ∃ n, n = gs.length := ⟨_, rfl⟩
  have h1 : 1 ≤ n := by have := HGR.out.one; omega
  have h2 : n ≤ 120 := by have := HGR.out.le; omega
  rw [← hn] at hx HA ⊢
  have HL := Lib.hid hn
  have HX := Lib.hid hx
  clear hg hn hx
  obtain ⟨b1, o1, rfl, hb1, hc1⟩ := HX.out (by omega)
  have HC1 := Lib.hid hc1
  clear hc1
  go_enter Try.func35, Try.ntmps35
  go_wp2_with fail
  refine (implGroupOk_any HA.out).mono ?_
  rw [HG.out]
  rintro e w1 ⟨rfl, b⟩
  have B0 := Lib.hid b
  clear b
  go_wp2_with fail
  have hlit : RI (w1.alloc (.cells #[.int .i64 (-1)] 3)) (.slice (some ⟨w1.heap.size, 0, none⟩) 1 1) [-1] :=
    OI.reads (World.ownsRow_lit w1 #[.int .i64 (-1)] 1 (Nat.le_refl _) (by decide) rfl)
  refine (repeat1_any hlit n h1 (by omega)).mono ?_
  rintro e w2 ⟨V, rfl, o, b⟩
  have hba : Below w.heap.size w (w1.alloc (.cells #[.int .i64 (-1)] 3)) := B0.out.alloc B0.out.size _
  have h0 : ClsIn w w2 V (List.replicate n (-1)) := ⟨bstep hba b, OI.mono o hba.size⟩
  clear o b hlit hba
  obtain ⟨AV, g, cV, rfl⟩ : ∃ (AV : Nat) (g cV : Nat), V = .slice (some ⟨g, 0, none⟩) n cV := by
    obtain ⟨A, cc, e, h⟩ := OI.form h0.row
    rw [List.length_replicate] at e h
    obtain ⟨g, rfl, -⟩ := h (by omega)
    exact ⟨0, g, cc, e⟩
  have H0 := Lib.hid h0
  clear h0
  clear AV
  go_wp2_with fail
  go_loopw [4, 18] (fun nx i wr => ∃ k : Nat, k ≤ n ∧ i = .int .i64 k ∧ nx = .int .i64 (clsTo gs k).2 ∧ Hid (ClsIn w wr (.slice (some ⟨g, 0, none⟩) n cV) (clsTo gs k).1)) (fun _ i _ => n - (intOf i).toNat)
  case atStart => exact ⟨0, Nat.zero_le _, rfl, rfl, by rw [clsTo_zero, ← HL.out]; exact H0.out⟩
  case round =>
    obtain ⟨k, hk, rfl, rfl, HR⟩ := hrel
    obtain ⟨row, hrow⟩ : ∃ row, row = (clsTo gs k).1 := ⟨_, rfl⟩
    obtain ⟨nx, hnx⟩ : ∃ nx, nx = (clsTo gs k).2 := ⟨_, rfl⟩
    have hrl : row.length = n := by rw [hrow, clsTo_len, HL.out]
    have hnr := clsTo_next gs k
    rw [← hnx] at hnr ⊢
    rw [← hrow] at HR
    have HRL := Lib.hid hrl
    clear hrl
    by_cases hlt : k < n
    · have hkl : k < gs.length := by have := HL.out; omega
      obtain ⟨A1, c1, cc1, rr1⟩ := RII.at HC1.out (k := k) hlt
      have e1 := (HR.out.below.cell (p := ⟨b1, o1 + k, none⟩) hb1).trans cc1
      obtain ⟨p, hp⟩ : ∃ p, p = gs.getD k [] := ⟨_, rfl⟩
      rw [← hp] at e1 rr1
      have HP := Lib.hid rr1
      have HPM : Hid (p ∈ gs) := by rw [Hid, hp]; exact getD_memS hkl
      obtain ⟨z, hz⟩ : ∃ z, z = row.getD k 0 := ⟨_, rfl⟩
      have e2 := OI.cell HR.out.row HRL.out k hlt
      rw [← hz] at e2
      by_cases hneg : z < 0
      · have HNEW := Lib.hid (clsTo_new (g := gs) (k := k) (by rw [← hrow, ← hz]; exact hneg))
        rw [← hp, ← hrow, ← hnx] at HNEW
        have hd1 : decide ((0 : Int) ≤ z) = false := decide_eq_false (by omega)
        clear rr1 cc1 hp hkl hz hneg hrow hnx
        go_wp2_with fail
        clear e1 e2 hd1
        go_loopw [30] (fun i wi => ∃ j : Nat, j ≤ n ∧ i = .int .i64 j ∧ Hid (ClsIn w wi (.slice (some ⟨g, 0, none⟩) n cV) (clsRow gs p nx row (gs.take j)))) (fun i _ => n - (intOf i).toNat)
        case atStart => exact ⟨0, Nat.zero_le _, rfl, by rw [List.take_zero, clsRow_nil]; exact HR.out⟩
        case round =>
          obtain ⟨j, hj, rfl, HI⟩ := hrel
          by_cases hjn : j < n
          · have hjl : j < gs.length := by have := HL.out; omega
            obtain ⟨A2, c2, cc2, rr2⟩ := RII.at HC1.out (k := j) hjn
            have e2 := (HI.out.below.cell (p := ⟨b1, o1 + j, none⟩) hb1).trans cc2
            obtain ⟨x, hx⟩ : ∃ x, x = gs.getD j [] := ⟨_, rfl⟩
            rw [← hx] at e2 rr2
            have HQ := Lib.hid rr2
            have hxm : x ∈ gs := by rw [hx]; exact getD_memS hjl
            have hxp : compose x p ∈ gs := HGR.out.closed x hxm p HPM.out
            have hiv : inverse x ∈ gs := HGR.out.inv_mem hxm
            have HT : Hid (clsRow gs p nx row (gs.take (j + 1)) = (clsRow gs p nx row (gs.take j)).set (clsAt gs x p) nx) := by rw [Hid, takeG_succ hjl, clsRow_snoc, ← hx]
            obtain ⟨ix, hix⟩ : ∃ ix, ix = clsAt gs x p := ⟨_, rfl⟩
            have hat := HGR.out.cls_at hxm HPM.out
            rw [← hix] at hat HT
            have hixn : ix < n := by have := HL.out; omega
            have HAT : Hid (findIdx gs (compose (compose x p) (inverse x)) = (ix : Int)) := hat.1
            have HXM := Lib.hid (And.intro hxm (And.intro hxp hiv))
            obtain ⟨ro, hro⟩ : ∃ ro, ro = clsRow gs p nx row (gs.take j) := ⟨_, rfl⟩
            have HRO : Hid (ro.length = n) := by rw [Hid, hro, clsRow_len]; exact HRL.out
            rw [← hro] at HI HT
            clear rr2 cc2 hx hxm hxp hiv hix hat hro
            go_wp2_with fail
            refine (compose_any (RI.below HQ.out HI.out.below) (RI.below HP.out HI.out.below) (HGR.out.len20 HXM.out.1) (HGR.out.into HXM.out.1 HPM.out)).mono ?_
            rintro e wA ⟨vA, rfl, o, b⟩
            replace HI := Lib.hid (HI.out.step b)
            have HV := Lib.hid o.reads
            clear o b e2
            go_wp2_with fail
            refine (inverse_any (RI.below HQ.out HI.out.below) (HGR.out.len20 HXM.out.1) ⟨permOk_nodup (HGR.out.perm x HXM.out.1), HGR.out.into HXM.out.1 HXM.out.1⟩).mono ?_
            rintro e wB ⟨vB, rfl, o, b⟩
            replace HI := Lib.hid (HI.out.step b)
            replace HV := Lib.hid (And.intro (HV.out.below b) o.reads)
            clear o b
            go_wp2_with fail
            refine (compose_any HV.out.1 HV.out.2 (HGR.out.len20 HXM.out.2.1) (HGR.out.into HXM.out.2.1 HXM.out.2.2)).mono ?_
            rintro e wC ⟨vC, rfl, o, b⟩
            replace HI := Lib.hid (HI.out.step b)
            replace HV := Lib.hid o.reads
            clear o b
            go_wp2_with fail
            refine (indexOf_any (RII.below HA.out HI.out.below) HV.out HGR.out.asc (by have := HGR.out.le; omega)).mono ?_
            rw [HAT.out]
            rintro e wD ⟨rfl, rfl⟩
            obtain ⟨WW, hWW⟩ : ∃ WW : World, WW = wC := ⟨_, rfl⟩
            subst hWW
            have e3 := OI.cell HI.out.row HRO.out ix hixn
            have f3 := OI.frozen HI.out.row HRO.out ix
            have HS : Hid (ClsIn w (WW.setCell ⟨g, ix, none⟩ (.int .i64 nx)) (.slice (some ⟨g, 0, none⟩) n cV) (ro.set ix nx)) := HI.out.set HRO.out ix nx
            go_wp2_with fail
            go_roundw
            case rel => exact ⟨j + 1, by omega, by go_num, by rw [HT.out]; exact HS.out⟩
            case measure => simp [intOf]; omega
          · have HN : Hid (ClsIn w wr (.slice (some ⟨g, 0, none⟩) n cV) (clsTo gs (k + 1)).1) := by
              have h := HI.out
              rw [List.take_of_length_le (by have := HL.out; omega)] at h
              rw [HNEW.out]; exact h
            have hnw : (clsTo gs (k + 1)).2 = nx + 1 := by rw [HNEW.out]
            have HNW := Lib.hid hnw
            clear hnw
            go_wp2_with fail
            go_roundw
            case rel => exact ⟨k + 1, by omega, by go_num, by rw [HNW.out], HN.out⟩
            case measure => simp [intOf]; omega
      · have HOLD := Lib.hid (clsTo_old (g := gs) (k := k) (by rw [← hrow, ← hz]; exact hneg))
        have hd1 : decide ((0 : Int) ≤ z) = true := decide_eq_true (by omega)
        have HRW := Lib.hid (And.intro hrow hnx)
        clear rr1 cc1 hp hkl hz hneg hrow hnx
        go_wp2_with fail
        go_roundw
        case rel => exact ⟨k + 1, by omega, by go_num, by rw [HOLD.out, ← HRW.out.2], by rw [HOLD.out, ← HRW.out.1]; exact HR.out⟩
        case measure => simp [intOf]; omega
    · go_wp2_with fail
      go_ret
      obtain rfl : k = n := by omega
      exact ⟨_, rfl, by rw [HC.out, ← HL.out, ← hrow]; exact HR.out.row, HR.out.below⟩

set_option maxHeartbeats 3200000 in
theorem specClassesOf_any {w : World} {a : Value} {gs : List (List Int)} (ha : RII w a gs) :
    Calls Try.prog 34 #[a] w fun e w' => ∃ v, e = .returned v ∧ OI w' w.heap.size v (classesOf gs) ∧ Below w.heap.size w w' := by
  have HA := Lib.hid ha
  obtain ⟨A, c, rfl, -, hx⟩ := ha
  cases hg : groupOk gs with
  | false =>
    have HC := Lib.hid (classesOf_no hg)
    have HG := Lib.hid hg
    clear hg hx
    go_enter Try.func34, Try.ntmps34
    go_wp2_with fail
    refine (specGroupOk_any HA.out).mono ?_
    rw [HG.out]
    rintro e w1 ⟨rfl, b1⟩
    go_wp2
    go_ret
    exact ⟨_, rfl, by rw [HC.out]; exact World.ownsRow_nil _ _ _ _, b1⟩
  | true =>
  have HC := Lib.hid (classesOf_yes hg)
  have HG := Lib.hid hg
  have HGR := Lib.hid (grp_of hg)
  obtain ⟨n, hn⟩ : ∃ n, n = gs.length := ⟨_, rfl⟩
  have h1 : 1 ≤ n := by have := HGR.out.one; omega
  have h2 : n ≤ 120 := by have := HGR.out.le; omega
  rw [← hn] at hx HA ⊢
  have HL := Lib.hid hn
  have HX := Lib.hid hx
  clear hg hn hx
  obtain ⟨b1, o1, rfl, hb1, hc1⟩ := HX.out (by omega)
  have HC1 := Lib.hid hc1
  clear hc1
  go_enter Try.func34, Try.ntmps34
  go_wp2_with fail
  refine (specGroupOk_any HA.out).mono ?_
  rw [HG.out]
  rintro e w1 ⟨rfl, b⟩
  have B0 := Lib.hid b
  clear b
  go_wp2_with fail
  have hs0 : ClsIn w (w1.alloc (.cells #[] 3)) (.slice (some ⟨w1.heap.size, 0, none⟩) 0 0) (List.replicate 0 (-1)) :=
    ⟨B0.out.alloc B0.out.size _, OI.mono (World.ownsRow_lit w1 #[] 0 (Nat.le_refl _) (by simp) rfl) B0.out.size⟩
  have HS0 := Lib.hid hs0
  clear hs0
  go_loopw [3, 17] (fun v i wr => ∃ k : Nat, k ≤ n ∧ i = .int .i64 k ∧ Hid (ClsIn w wr v (List.replicate k (-1)))) (fun _ i _ => n - (intOf i).toNat)
  case atStart => exact ⟨0, Nat.zero_le _, rfl, HS0.out⟩
  case round =>
   obtain ⟨k, hk, rfl, HR⟩ := hrel
   by_cases hlt : k < n
   · obtain ⟨A3, c3, rfl, -⟩ := OI.form HR.out.row
     obtain ⟨l, hl⟩ : ∃ l, l = List.replicate k (-1 : Int) := ⟨_, rfl⟩
     have hll : l.length = k := by rw [hl]; simp
     have HLL := Lib.hid (And.intro hl hll)
     rw [← hl] at HR ⊢
     rw [hll]
     rw [hll] at HR
     clear hl hll
     go_wp2_with (at_builtin; refine wpList_appInt _ rfl (.tmp 19) (.tmp 20) rfl w.heap.size _ l (-1) rfl rfl (by simp) HR.out.row (by rw [HLL.out.2]; omega) HR.out.below.size ?_; intro v1 w2 ho hb _)
     have HN : Hid (ClsIn w w2 v1 (List.replicate (k + 1) (-1))) := ⟨HR.out.below.trans hb, by rw [List.replicate_succ', ← HLL.out.1]; exact ho⟩
     clear ho hb
     go_wp2_with fail
     go_roundw
     case rel => exact ⟨k + 1, by omega, by go_num, HN.out⟩
     case measure => simp [intOf]; omega
   · obtain rfl : n = k := by omega
     obtain ⟨A3, cV, hA3, h3⟩ := OI.form HR.out.row
     rw [List.length_replicate] at hA3 h3
     obtain ⟨g, rfl, -⟩ := h3 (by omega)
     subst hA3
     clear h3
     have H0 := HR
     go_wp2_with fail
     go_loopw [4, 25] (fun nx i wr => ∃ k : Nat, k ≤ n ∧ i = .int .i64 k ∧ nx = .int .i64 (clsTo gs k).2 ∧ Hid (ClsIn w wr (.slice (some ⟨g, 0, none⟩) n cV) (clsTo gs k).1)) (fun _ i _ => n - (intOf i).toNat)
     case atStart => exact ⟨0, Nat.zero_le _, rfl, rfl, by rw [clsTo_zero, ← HL.out]; exact H0.out⟩
     case round =>
       obtain ⟨k, hk, rfl, rfl, HR⟩ := hrel
       obtain ⟨row, hrow⟩ : ∃ row, row = (clsTo gs k).1 := ⟨_, rfl⟩
       obtain ⟨nx, hnx⟩ : ∃ nx, nx = (clsTo gs k).2 := ⟨_, rfl⟩
       have hrl : row.length = n := by rw [hrow, clsTo_len, HL.out]
       have hnr := clsTo_next gs k
       rw [← hnx] at hnr ⊢
       rw [← hrow] at HR
       have HRL := Lib.hid hrl
       clear hrl
       by_cases hlt : k < n
       · have hkl : k < gs.length := by have := HL.out; omega
         obtain ⟨A1, c1, cc1, rr1⟩ := RII.at HC1.out (k := k) hlt
         have e1 := (HR.out.below.cell (p := ⟨b1, o1 + k, none⟩) hb1).trans cc1
         obtain ⟨p, hp⟩ : ∃ p, p = gs.getD k [] := ⟨_, rfl⟩
         rw [← hp] at e1 rr1
         have HP := Lib.hid rr1
         have HPM : Hid (p ∈ gs) := by rw [Hid, hp]; exact getD_memS hkl
         obtain ⟨z, hz⟩ : ∃ z, z = row.getD k 0 := ⟨_, rfl⟩
         have e2 := OI.cell HR.out.row HRL.out k hlt
         rw [← hz] at e2
         by_cases hneg : z < 0
         · have HNEW := Lib.hid (clsTo_new (g := gs) (k := k) (by rw [← hrow, ← hz]; exact hneg))
           rw [← hp, ← hrow, ← hnx] at HNEW
           have hd1 : decide ((0 : Int) ≤ z) = false := decide_eq_false (by omega)
           clear rr1 cc1 hp hkl hz hneg hrow hnx
           go_wp2_with fail
           clear e1 e2 hd1
           go_loopw [37] (fun i wi => ∃ j : Nat, j ≤ n ∧ i = .int .i64 j ∧ Hid (ClsIn w wi (.slice (some ⟨g, 0, none⟩) n cV) (clsRow gs p nx row (gs.take j)))) (fun i _ => n - (intOf i).toNat)
           case atStart => exact ⟨0, Nat.zero_le _, rfl, by rw [List.take_zero, clsRow_nil]; exact HR.out⟩
           case round =>
             obtain ⟨j, hj, rfl, HI⟩ := hrel
             by_cases hjn : j < n
             · have hjl : j < gs.length := by have := HL.out; omega
               obtain ⟨A2, c2, cc2, rr2⟩ := RII.at HC1.out (k := j) hjn
               have e2 := (HI.out.below.cell (p := ⟨b1, o1 + j, none⟩) hb1).trans cc2
               obtain ⟨x, hx⟩ : ∃ x, x = gs.getD j [] := ⟨_, rfl⟩
               rw [← hx] at e2 rr2
               have HQ := Lib.hid rr2
               have hxm : x ∈ gs := by rw [hx]; exact getD_memS hjl
               have hxp : compose x p ∈ gs := HGR.out.closed x hxm p HPM.out
               have hiv : inverse x ∈ gs := HGR.out.inv_mem hxm
               have HT : Hid (clsRow gs p nx row (gs.take (j + 1)) = (clsRow gs p nx row (gs.take j)).set (clsAt gs x p) nx) := by rw [Hid, takeG_succ hjl, clsRow_snoc, ← hx]
               obtain ⟨ix, hix⟩ : ∃ ix, ix = clsAt gs x p := ⟨_, rfl⟩
               have hat := HGR.out.cls_at hxm HPM.out
               rw [← hix] at hat HT
               have hixn : ix < n := by have := HL.out; omega
               have HAT : Hid (findIdx gs (compose (compose x p) (inverse x)) = (ix : Int)) := hat.1
               have HXM := Lib.hid (And.intro hxm (And.intro hxp hiv))
               obtain ⟨ro, hro⟩ : ∃ ro, ro = clsRow gs p nx row (gs.take j) := ⟨_, rfl⟩
               have HRO : Hid (ro.length = n) := by rw [Hid, hro, clsRow_len]; exact HRL.out
               rw [← hro] at HI HT
               clear rr2 cc2 hx hxm hxp hiv hix hat hro
               go_wp2_with fail
               refine (specInversePerm_any (RI.below HQ.out HI.out.below)).mono ?_
               rw [inversePerm_yes (HGR.out.perm x HXM.out.1)]
               rintro e wA ⟨vA, rfl, o, b⟩
               replace HI := Lib.hid (HI.out.step b)
               have HV := Lib.hid o.reads
               clear o b e2
               go_wp2_with fail
               refine (l02Compose_any (RI.below HQ.out HI.out.below) (RI.below HP.out HI.out.below) (HGR.out.len20 HXM.out.1) (HGR.out.into HXM.out.1 HPM.out)).mono ?_
               rintro e wB ⟨vB, rfl, o, b⟩
               replace HI := Lib.hid (HI.out.step b)
               replace HV := Lib.hid (And.intro (HV.out.below b) o.reads)
               clear o b
               go_wp2_with fail
               refine (l02Compose_any HV.out.2 HV.out.1 (HGR.out.len20 HXM.out.2.1) (HGR.out.into HXM.out.2.1 HXM.out.2.2)).mono ?_
               rintro e wC ⟨vC, rfl, o, b⟩
               replace HI := Lib.hid (HI.out.step b)
               replace HV := Lib.hid o.reads
               clear o b
               go_wp2_with fail
               refine (l03Find_any (RII.below HA.out HI.out.below) HV.out HGR.out.asc (fun q hq => by rw [HGR.out.len q hq, compose_len, HGR.out.len _ HXM.out.2.1]) (by have := HGR.out.le; omega)).mono ?_
               rw [HAT.out]
               rintro e WW ⟨rfl, s⟩
               replace HI := Lib.hid (HI.out.step s.below)
               clear s
               have e3 := OI.cell HI.out.row HRO.out ix hixn
               have f3 := OI.frozen HI.out.row HRO.out ix
               have HS : Hid (ClsIn w (WW.setCell ⟨g, ix, none⟩ (.int .i64 nx)) (.slice (some ⟨g, 0, none⟩) n cV) (ro.set ix nx)) := HI.out.set HRO.out ix nx
               go_wp2_with fail
               go_roundw
               case rel => exact ⟨j + 1, by omega, by go_num, by rw [HT.out]; exact HS.out⟩
               case measure => simp [intOf]; omega
             · have HN : Hid (ClsIn w wr (.slice (some ⟨g, 0, none⟩) n cV) (clsTo gs (k + 1)).1) := by
                 have h := HI.out
                 rw [List.take_of_length_le (by have := HL.out; omega)] at h
                 rw [HNEW.out]; exact h
               have hnw : (clsTo gs (k + 1)).2 = nx + 1 := by rw [HNEW.out]
               have HNW := Lib.hid hnw
               clear hnw
               go_wp2_with fail
               go_roundw
               case rel => exact ⟨k + 1, by omega, by go_num, by rw [HNW.out], HN.out⟩
               case measure => simp [intOf]; omega
         · have HOLD := Lib.hid (clsTo_old (g := gs) (k := k) (by rw [← hrow, ← hz]; exact hneg))
           have hd1 : decide ((0 : Int) ≤ z) = true := decide_eq_true (by omega)
           have HRW := Lib.hid (And.intro hrow hnx)
           clear rr1 cc1 hp hkl hz hneg hrow hnx
           go_wp2_with fail
           go_roundw
           case rel => exact ⟨k + 1, by omega, by go_num, by rw [HOLD.out, ← HRW.out.2], by rw [HOLD.out, ← HRW.out.1]; exact HR.out⟩
           case measure => simp [intOf]; omega
       · go_wp2_with fail
         go_ret
         obtain rfl : k = n := by omega
         exact ⟨_, rfl, by rw [HC.out, ← HL.out, ← hrow]; exact HR.out.row, HR.out.below⟩

end Go.Proofs.Ytfanohebejemmaa
