/-
  CyclesOf, of the program and of the reference; CountCycles.
-/
import Derived.Test.YtfanohebejemmaaCycFn
import Derived.Test.YtfanohebejemmaaPermOk
import Derived.Test.YtfanohebejemmaaMem2
namespace Go.Proofs.Ytfanohebejemmaa
open Go.RowKit Go.Deep

theorem rowIs_mem {w : World} {g T n m : Nat} {met : List Int} (h : w.rowIs g T n (fun j => .bool (memB met j))) :
    (w.setCell ⟨g, m, none⟩ (.bool true)).rowIs g T n (fun j => .bool (memB (met ++ [(m : Int)]) j)) := by
  refine (h.set m (.bool true)).congr fun j _ => ?_
  rw [memB_snoc]
  split <;> rfl
theorem grownBy_set {w wr : World} {g : Nat} (h : w.grownBy wr (some g)) (m : Nat) (u : Value) : w.grownBy (wr.setCell ⟨g, m, none⟩ u) (some g) :=
  grownBy.trans h ⟨rfl, rfl, rfl, by simp, fun k _ hk => Below.heap_setCell _ _ _ _ (by rintro rfl; exact hk rfl)⟩
theorem grownBy_below {w wr w' : World} {row : Option Nat} (h : w.grownBy wr row) (hb : Below w.heap.size wr w') : w.grownBy w' row :=
  ⟨hb.os.trans h.os, hb.tape.trans h.tape, hb.output.trans h.output, Nat.le_trans h.size hb.size, fun k hk hr => (hb.block k hk).trans (h.block k hk hr)⟩

/-- What the outer loop of CyclesOf knows. -/
structure CycOut (w wr : World) (p : List Int) (gm k : Nat) (v : Value) : Prop where
  below : Below w.heap.size w wr
  out : OII wr w.heap.size v (cyclesTo p k)
  met : wr.rowIs gm 4 p.length (fun j => .bool (memB (cyclesTo p k).flatten j))
/-- What the inner loop knows: wo is the world at the outer loop's head, c the cycle so far, x the next point. -/
structure CycIn (wo wi : World) (p : List Int) (gm k : Nat) (u : Value) (c : List Int) (x : Int) : Prop where
  grown : wo.grownBy wi (some gm)
  cyc : OI wi wo.heap.size u c
  met : wi.rowIs gm 4 p.length (fun j => .bool (memB ((cyclesTo p k).flatten ++ c) j))
  m : Met p.length ((cyclesTo p k).flatten ++ c)
  rest : cycFrom p (cyclesTo p k).flatten (k : Int) = c ++ cycFrom p ((cyclesTo p k).flatten ++ c) x
  x0 : 0 ≤ x
  x1 : x < (p.length : Int)

theorem CycIn.step {wo wi w1 : World} {p : List Int} {gm k m : Nat} {u v1 : Value} {c : List Int} (h : CycIn wo wi p gm k u c (m : Int)) (hp : permOk p = true) (hx : memB ((cyclesTo p k).flatten ++ c) m = false) (hgm : gm < wo.heap.size)
    (ho : OI w1 wo.heap.size v1 (c ++ [(m : Int)])) (hb : Below wo.heap.size (wi.setCell ⟨gm, m, none⟩ (.bool true)) w1) : CycIn wo w1 p gm k v1 (c ++ [(m : Int)]) (p.getD m 0) := by
  have hx' : (m : Int) ∉ (cyclesTo p k).flatten ++ c := of_decide_eq_false hx
  have hm : m < p.length := by have := h.x1; omega
  have hn := perm_next hp hm
  refine ⟨grownBy_below (grownBy_set h.grown m _) hb, ho, ?_, ?_, ?_, hn.1, hn.2⟩
  · rw [← List.append_assoc]
    exact (rowIs_mem h.met).of_block (hb.block gm hgm)
  · rw [← List.append_assoc]; exact h.m.snoc h.x0 h.x1 hx'
  · rw [h.rest, cycFrom_go h.m hx', Int.toNat_natCast]
    simp
theorem CycIn.start {w wo w1 : World} {p : List Int} {gm k : Nat} {v u : Value} (h : CycOut w wo p gm k v) (hp : permOk p = true) (hk : k < p.length) (ho : OI w1 wo.heap.size u []) (hb : Below wo.heap.size wo w1) : CycIn wo w1 p gm k u [] (k : Int) :=
  ⟨⟨hb.os, hb.tape, hb.output, hb.size, fun i hi _ => hb.block i hi⟩, ho, by rw [List.append_nil]; exact h.met.of_block (hb.block gm h.met.lt), by rw [List.append_nil]; exact cyclesTo_met hp k (by omega), by simp, by omega, by omega⟩
theorem CycIn.done {w wo wi : World} {p : List Int} {gm k m : Nat} {v u : Value} {c : List Int} (h : CycIn wo wi p gm k u c (m : Int)) (ho : CycOut w wo p gm k v) (hgm : w.heap.size ≤ gm) (hk : memB (cyclesTo p k).flatten k = false) (hx : memB ((cyclesTo p k).flatten ++ c) m = true) :
    cyclesTo p (k + 1) = cyclesTo p k ++ [c] ∧ Below w.heap.size w wi ∧ OIIh wi w.heap.size wo.heap.size v (cyclesTo p k) ∧ (cyclesTo p (k + 1)).flatten = (cyclesTo p k).flatten ++ c := by
  have hk' : (k : Int) ∉ (cyclesTo p k).flatten := of_decide_eq_false hk
  have hx' : (m : Int) ∈ (cyclesTo p k).flatten ++ c := of_decide_eq_true hx
  have e : cyclesTo p (k + 1) = cyclesTo p k ++ [c] := by
    rw [cyclesTo_succ, cycStep, if_neg hk', h.rest, cycFrom_stop hx', List.append_nil]
  exact ⟨e, ho.below.grown h.grown ho.below.size (fun g hg => by cases hg; exact hgm), OIIh.other ho.out ho.met (by decide) h.grown, by rw [e]; simp⟩

set_option maxHeartbeats 2000000 in
theorem implCyclesOf_any {w : World} {a : Value} {p : List Int} (ha : RI w a p) :
    Calls Try.prog 83 #[a] w fun e w' => ∃ v, e = .returned v ∧ OII w' w.heap.size v (cyclesOf p) ∧ Below w.heap.size w w' := by
  have HA := Lib.hid ha
  obtain ⟨A, c, rfl, -, hx⟩ := ha
  cases hp : permOk p with
  | false =>
    have HC := Lib.hid (cyclesOf_no hp)
    have HP := Lib.hid hp
    clear hp hx
    go_enter Try.func83, Try.ntmps83
    go_wp2_with fail
    refine (implPermOk_any HA.out).mono ?_
    rw [HP.out]
    rintro e w1 ⟨rfl, b1⟩
    go_wp2
    go_ret
    exact ⟨_, rfl, by rw [HC.out]; exact OII.nil _ _, b1⟩
  | true =>
    have HC := Lib.hid (cyclesOf_yes hp)
    have HP := Lib.hid hp
    obtain ⟨n, hn⟩ : ∃ n, n = p.length := ⟨_, rfl⟩
    have h10 : n ≤ 10 := by have := (permOk_le hp).2; omega
    rw [← hn] at hx HA ⊢
    have hmk := run_make_row' (P := Try.prog) 53 4 (.bool false) 1 Try.underlying53 bool_info rfl .i64 .i64 n (by omega) (by omega)
    have HL := Lib.hid hn
    have HX := Lib.hid hx
    clear hp hn hx
    go_enter Try.func83, Try.ntmps83
    go_wp2_with fail
    refine (implPermOk_any HA.out).mono ?_
    rw [HP.out]
    rintro e w1 ⟨rfl, b1⟩
    have HB1 := Lib.hid b1
    clear b1
    go_wp2
    have h0 : CycOut w ((w1.alloc (.cells #[] 27)).alloc (.cells (madeCells #[.bool false] n) 4)) p (w1.heap.size + 1) 0 (.slice (some ⟨w1.heap.size, 0, none⟩) 0 0) := by
      have hz : w.heap.size ≤ w1.heap.size := HB1.out.size
      have s1 : (w1.alloc (.cells #[] 27)).heap.size = w1.heap.size + 1 := by simp
      refine ⟨(HB1.out.alloc hz _).alloc (by rw [s1]; omega) _, ?_, ?_⟩
      · rw [cyclesTo_zero]
        exact (OIIh.below ((OIIh.lit w1).mono hz (Nat.le_refl _)) ((Below.refl _ _).alloc (Nat.le_refl _) _) (Nat.le_refl _)).toOII
      · have hr := World.rowIs_made (w1.alloc (.cells #[] 27)) (.bool false) n 4
        rw [s1] at hr
        rw [← HL.out]
        exact hr.congr fun j _ => by simp [cyclesTo_zero, memB]
    have HG : Hid (w.heap.size ≤ w1.heap.size + 1) := by have := HB1.out.size; exact (by omega : w.heap.size ≤ w1.heap.size + 1)
    have H0 := Lib.hid h0
    clear h0 hmk
    obtain ⟨gm, hgm⟩ : ∃ gm, gm = w1.heap.size + 1 := ⟨_, rfl⟩
    rw [← hgm] at H0 HG ⊢
    clear hgm
    go_loopw [3, 17] (fun v i wr => ∃ k : Nat, k ≤ n ∧ i = .int .i64 k ∧ Hid (CycOut w wr p gm k v)) (fun _ i _ => n - (intOf i).toNat)
    case atStart => exact ⟨0, Nat.zero_le _, rfl, H0.out⟩
    case round =>
      obtain ⟨k, hk, rfl, HR⟩ := hrel
      by_cases hlt : k < n
      · have c1 := HR.out.met.cell (i := k) (by have := HL.out; omega)
        cases hs : memB (cyclesTo p k).flatten k with
        | true =>
          rw [hs] at c1
          have he : cyclesTo p (k + 1) = cyclesTo p k := by rw [cyclesTo_succ, cycStep, if_pos (of_decide_eq_true hs)]
          have HE := Lib.hid he
          clear he hs
          go_wp2
          go_roundw
          case rel => exact ⟨k + 1, by omega, by go_num, ⟨HR.out.below, by rw [HE.out]; exact HR.out.out, by rw [HE.out]; exact HR.out.met⟩⟩
          case measure => simp [intOf]; omega
        | false =>
          rw [hs] at c1
          have HS := Lib.hid hs
          clear hs
          go_wp2_with fail
          obtain ⟨wo, hwo⟩ : ∃ wo : World, wo = wr := ⟨_, rfl⟩
          subst hwo
          have hI : CycIn wo (wo.alloc (.cells #[] 3)) p gm k (.slice (some ⟨wo.heap.size, 0, none⟩) 0 0) [] (k : Int) :=
            CycIn.start HR.out HP.out (by have := HL.out; omega) (World.ownsRow_lit wo #[] 0 (Nat.le_refl _) (by simp) rfl) ((Below.refl _ _).alloc (Nat.le_refl _) _)
          have HI := Lib.hid hI
          clear hI c1
          obtain ⟨n0, hn0⟩ : ∃ n0, (cyclesTo p k).flatten.length + n0 = p.length + 1 := by
            have := (cyclesTo_met HP.out k (by have := HL.out; omega)).len
            exact ⟨p.length + 1 - (cyclesTo p k).flatten.length, by omega⟩
          have HN0 := Lib.hid hn0
          clear hn0
          go_loopg [6, 7] n0 (fun gk u i wi => ∃ (c : List Int) (m : Nat), i = .int .i64 m ∧ Hid (CycIn wo wi p gm k u c (m : Int)) ∧ Hid (((cyclesTo p k).flatten ++ c).length + gk = p.length + 1))
          case atStart => exact ⟨[], k, rfl, HI.out, by simpa [Hid] using HN0.out⟩
          case round =>
            obtain ⟨c, m, rfl, HC2, HM⟩ := hrel
            have hmn : m < n := by have := HC2.out.x1; have := HL.out; omega
            have c2 := HC2.out.met.cell (i := m) (by have := HL.out; omega)
            have f2 := HC2.out.met.frozen m
            have hgm := HR.out.met.lt
            obtain ⟨A2, cap2, hu, -⟩ := OI.form HC2.out.cyc
            subst hu
            cases hx : memB ((cyclesTo p k).flatten ++ c) m with
            | true =>
              rw [hx] at c2
              have hd := HC2.out.done HR.out HG.out HS.out hx
              have HD := Lib.hid hd
              clear hx hd
              go_wp2_with (at_builtin; refine wpList_appRow _ rfl (.tmp 42) (.tmp 44) rfl w.heap.size wo.heap.size wo.heap.size _ _ _ (cyclesTo p k) c rfl rfl rfl HD.out.2.2.1 HC2.out.cyc (Nat.le_refl _) HR.out.below.size HC2.out.cyc.bound HC2.out.grown.size (by have := cyclesTo_len p k; omega) HD.out.2.1.size ?_; intro v1 w2 ho hb hgr)
              have hmet := HC2.out.met
              have hfin : CycOut w w2 p gm (k + 1) v1 := by
                refine ⟨HD.out.2.1.trans hb, by rw [HD.out.1]; exact OIIh.toOII ho, ?_⟩
                rw [HD.out.2.2.2]
                refine hmet.of_block (hgr.block gm hmet.lt fun e => ?_)
                obtain ⟨vs, h1, _⟩ := HD.out.2.2.1
                obtain ⟨cur, hcur⟩ := own_type h1 e.symm
                obtain ⟨cc, hcc, _⟩ := hmet
                rw [hcur] at hcc
                simp at hcc
              have HF := Lib.hid hfin
              clear hfin hmet ho hb hgr
              go_wp2
              go_roundw
              case rel => exact ⟨k + 1, by omega, by go_num, HF.out⟩
              case measure => simp [intOf]; omega
            | false =>
              rw [hx] at c2
              obtain ⟨y, hy⟩ : ∃ y, y = p.getD m 0 := ⟨_, rfl⟩
              have hn := perm_next HP.out (x := m) (by have := HL.out; omega)
              rw [← hy] at hn
              obtain ⟨y', rfl⟩ := Int.eq_ofNat_of_zero_le hn.1
              obtain ⟨b1, o1, rfl, hb1, hc1⟩ := HX.out (by omega)
              have HX2 := Lib.hid hx
              have HY := Lib.hid hy
              clear hx hn hy
              have hbm : Below w.heap.size w (wr.setCell ⟨gm, m, none⟩ (.bool true)) := (HR.out.below.grown HC2.out.grown HR.out.below.size (fun g hg => by cases hg; exact HG.out)).setCell (p := ⟨gm, m, none⟩) HG.out _
              have hos : OI (wr.setCell ⟨gm, m, none⟩ (.bool true)) wo.heap.size _ c := own_reblock HC2.out.cyc fun g hg => Below.heap_setCell _ _ _ _ (by have := (HC2.out.cyc.lt g hg).1; simp; omega)
              have HO := Lib.hid hos
              have HBM := Lib.hid hbm
              clear hos hbm
              go_wp2_with (at_builtin; refine wpList_appInt _ rfl (.tmp 38) (.tmp 40) rfl wo.heap.size _ c (m : Int) rfl rfl (by simp) HO.out (by have h1 := HM.out; have h2 := HL.out; rw [List.length_append] at h1; omega) (by simpa using HC2.out.grown.size) ?_; intro v1 w2 ho hb _; have hcx := ((HBM.out.trans (hb.mono HR.out.below.size)).cell (p := ⟨b1, o1 + m, none⟩) hb1).trans (hc1 m hmn); rw [← HY.out] at hcx)
              have hst := CycIn.step HC2.out HP.out HX2.out hgm ho hb
              rw [← HY.out] at hst
              have HF := Lib.hid hst
              clear hst ho hb hc1
              go_wp2
              go_roundg (gk - 1)
              case rel => exact ⟨c ++ [(m : Int)], y', rfl, HF.out, by have h1 := HM.out; have h2 := HC2.out.m.len; unfold Hid; rw [← List.append_assoc, List.length_append, List.length_cons, List.length_nil]; omega⟩
              case measure => have := HM.out; have := HC2.out.m.len; omega
      · go_wp2
        go_ret
        obtain rfl : k = n := by omega
        exact ⟨_, rfl, by rw [HC.out, ← HL.out]; exact HR.out.out, HR.out.below⟩

set_option maxHeartbeats 2000000 in
theorem specCyclesOf_any {w : World} {a : Value} {p : List Int} (ha : RI w a p) :
    Calls Try.prog 86 #[a] w fun e w' => ∃ v, e = .returned v ∧ OII w' w.heap.size v (cyclesOf p) ∧ Below w.heap.size w w' := by
  have HA := Lib.hid ha
  obtain ⟨A, c, rfl, -, hx⟩ := ha
  cases hp : permOk p with
  | false =>
    have HC := Lib.hid (cyclesOf_no hp)
    have HP := Lib.hid hp
    clear hp hx
    go_enter Try.func86, Try.ntmps86
    go_wp2_with fail
    refine (specPermOk_any HA.out).mono ?_
    rw [HP.out]
    rintro e w1 ⟨rfl, b1⟩
    go_wp2
    go_ret
    exact ⟨_, rfl, by rw [HC.out]; exact OII.nil _ _, b1⟩
  | true =>
    have HC := Lib.hid (cyclesOf_yes hp)
    have HP := Lib.hid hp
    obtain ⟨n, hn⟩ : ∃ n, n = p.length := ⟨_, rfl⟩
    have h10 : n ≤ 10 := by have := (permOk_le hp).2; omega
    rw [← hn] at hx HA ⊢
    have hmk := run_make_row' (P := Try.prog) 53 4 (.bool false) 1 Try.underlying53 bool_info rfl .i64 .i64 n (by omega) (by omega)
    have HL := Lib.hid hn
    have HX := Lib.hid hx
    clear hp hn hx
    go_enter Try.func86, Try.ntmps86
    go_wp2_with fail
    refine (specPermOk_any HA.out).mono ?_
    rw [HP.out]
    rintro e w1 ⟨rfl, b1⟩
    have HB1 := Lib.hid b1
    clear b1
    go_wp2
    have h0 : CycOut w ((w1.alloc (.cells #[] 27)).alloc (.cells (madeCells #[.bool false] n) 4)) p (w1.heap.size + 1) 0 (.slice (some ⟨w1.heap.size, 0, none⟩) 0 0) := by
      have hz : w.heap.size ≤ w1.heap.size := HB1.out.size
      have s1 : (w1.alloc (.cells #[] 27)).heap.size = w1.heap.size + 1 := by simp
      refine ⟨(HB1.out.alloc hz _).alloc (by rw [s1]; omega) _, ?_, ?_⟩
      · rw [cyclesTo_zero]
        exact (OIIh.below ((OIIh.lit w1).mono hz (Nat.le_refl _)) ((Below.refl _ _).alloc (Nat.le_refl _) _) (Nat.le_refl _)).toOII
      · have hr := World.rowIs_made (w1.alloc (.cells #[] 27)) (.bool false) n 4
        rw [s1] at hr
        rw [← HL.out]
        exact hr.congr fun j _ => by simp [cyclesTo_zero, memB]
    have HG : Hid (w.heap.size ≤ w1.heap.size + 1) := by have := HB1.out.size; exact (by omega : w.heap.size ≤ w1.heap.size + 1)
    have H0 := Lib.hid h0
    clear h0 hmk
    obtain ⟨gm, hgm⟩ : ∃ gm, gm = w1.heap.size + 1 := ⟨_, rfl⟩
    rw [← hgm] at H0 HG ⊢
    clear hgm
    go_loopw [3, 17] (fun v i wr => ∃ k : Nat, k ≤ n ∧ i = .int .i64 k ∧ Hid (CycOut w wr p gm k v)) (fun _ i _ => n - (intOf i).toNat)
    case atStart => exact ⟨0, Nat.zero_le _, rfl, H0.out⟩
    case round =>
      obtain ⟨k, hk, rfl, HR⟩ := hrel
      by_cases hlt : k < n
      · have c1 := HR.out.met.cell (i := k) (by have := HL.out; omega)
        cases hs : memB (cyclesTo p k).flatten k with
        | true =>
          rw [hs] at c1
          have he : cyclesTo p (k + 1) = cyclesTo p k := by rw [cyclesTo_succ, cycStep, if_pos (of_decide_eq_true hs)]
          have HE := Lib.hid he
          clear he hs
          go_wp2
          go_roundw
          case rel => exact ⟨k + 1, by omega, by go_num, ⟨HR.out.below, by rw [HE.out]; exact HR.out.out, by rw [HE.out]; exact HR.out.met⟩⟩
          case measure => simp [intOf]; omega
        | false =>
          rw [hs] at c1
          have HS := Lib.hid hs
          clear hs
          go_wp2_with fail
          obtain ⟨wo, hwo⟩ : ∃ wo : World, wo = wr := ⟨_, rfl⟩
          subst hwo
          have hI : CycIn wo (wo.alloc (.cells #[] 3)) p gm k (.slice (some ⟨wo.heap.size, 0, none⟩) 0 0) [] (k : Int) :=
            CycIn.start HR.out HP.out (by have := HL.out; omega) (World.ownsRow_lit wo #[] 0 (Nat.le_refl _) (by simp) rfl) ((Below.refl _ _).alloc (Nat.le_refl _) _)
          have HI := Lib.hid hI
          clear hI c1
          obtain ⟨n0, hn0⟩ : ∃ n0, (cyclesTo p k).flatten.length + n0 = p.length + 1 := by
            have := (cyclesTo_met HP.out k (by have := HL.out; omega)).len
            exact ⟨p.length + 1 - (cyclesTo p k).flatten.length, by omega⟩
          have HN0 := Lib.hid hn0
          clear hn0
          go_loopg [6, 7] n0 (fun gk u i wi => ∃ (c : List Int) (m : Nat), i = .int .i64 m ∧ Hid (CycIn wo wi p gm k u c (m : Int)) ∧ Hid (((cyclesTo p k).flatten ++ c).length + gk = p.length + 1))
          case atStart => exact ⟨[], k, rfl, HI.out, by simpa [Hid] using HN0.out⟩
          case round =>
            obtain ⟨c, m, rfl, HC2, HM⟩ := hrel
            have hmn : m < n := by have := HC2.out.x1; have := HL.out; omega
            have c2 := HC2.out.met.cell (i := m) (by have := HL.out; omega)
            have f2 := HC2.out.met.frozen m
            have hgm := HR.out.met.lt
            obtain ⟨A2, cap2, hu, -⟩ := OI.form HC2.out.cyc
            subst hu
            cases hx : memB ((cyclesTo p k).flatten ++ c) m with
            | true =>
              rw [hx] at c2
              have hd := HC2.out.done HR.out HG.out HS.out hx
              have HD := Lib.hid hd
              clear hx hd
              go_wp2_with (at_builtin; refine wpList_appRow _ rfl (.tmp 42) (.tmp 44) rfl w.heap.size wo.heap.size wo.heap.size _ _ _ (cyclesTo p k) c rfl rfl rfl HD.out.2.2.1 HC2.out.cyc (Nat.le_refl _) HR.out.below.size HC2.out.cyc.bound HC2.out.grown.size (by have := cyclesTo_len p k; omega) HD.out.2.1.size ?_; intro v1 w2 ho hb hgr)
              have hmet := HC2.out.met
              have hfin : CycOut w w2 p gm (k + 1) v1 := by
                refine ⟨HD.out.2.1.trans hb, by rw [HD.out.1]; exact OIIh.toOII ho, ?_⟩
                rw [HD.out.2.2.2]
                refine hmet.of_block (hgr.block gm hmet.lt fun e => ?_)
                obtain ⟨vs, h1, _⟩ := HD.out.2.2.1
                obtain ⟨cur, hcur⟩ := own_type h1 e.symm
                obtain ⟨cc, hcc, _⟩ := hmet
                rw [hcur] at hcc
                simp at hcc
              have HF := Lib.hid hfin
              clear hfin hmet ho hb hgr
              go_wp2
              go_roundw
              case rel => exact ⟨k + 1, by omega, by go_num, HF.out⟩
              case measure => simp [intOf]; omega
            | false =>
              rw [hx] at c2
              obtain ⟨y, hy⟩ : ∃ y, y = p.getD m 0 := ⟨_, rfl⟩
              have hn := perm_next HP.out (x := m) (by have := HL.out; omega)
              rw [← hy] at hn
              obtain ⟨y', rfl⟩ := Int.eq_ofNat_of_zero_le hn.1
              obtain ⟨b1, o1, rfl, hb1, hc1⟩ := HX.out (by omega)
              have HX2 := Lib.hid hx
              have HY := Lib.hid hy
              clear hx hn hy
              have hbm : Below w.heap.size w (wr.setCell ⟨gm, m, none⟩ (.bool true)) := (HR.out.below.grown HC2.out.grown HR.out.below.size (fun g hg => by cases hg; exact HG.out)).setCell (p := ⟨gm, m, none⟩) HG.out _
              have hos : OI (wr.setCell ⟨gm, m, none⟩ (.bool true)) wo.heap.size _ c := own_reblock HC2.out.cyc fun g hg => Below.heap_setCell _ _ _ _ (by have := (HC2.out.cyc.lt g hg).1; simp; omega)
              have HO := Lib.hid hos
              have HBM := Lib.hid hbm
              clear hos hbm
              go_wp2_with (at_builtin; refine wpList_appInt _ rfl (.tmp 38) (.tmp 40) rfl wo.heap.size _ c (m : Int) rfl rfl (by simp) HO.out (by have h1 := HM.out; have h2 := HL.out; rw [List.length_append] at h1; omega) (by simpa using HC2.out.grown.size) ?_; intro v1 w2 ho hb _; have hcx := ((HBM.out.trans (hb.mono HR.out.below.size)).cell (p := ⟨b1, o1 + m, none⟩) hb1).trans (hc1 m hmn); rw [← HY.out] at hcx)
              have hst := CycIn.step HC2.out HP.out HX2.out hgm ho hb
              rw [← HY.out] at hst
              have HF := Lib.hid hst
              clear hst ho hb hc1
              go_wp2
              go_roundg (gk - 1)
              case rel => exact ⟨c ++ [(m : Int)], y', rfl, HF.out, by have h1 := HM.out; have h2 := HC2.out.m.len; unfold Hid; rw [← List.append_assoc, List.length_append, List.length_cons, List.length_nil]; omega⟩
              case measure => have := HM.out; have := HC2.out.m.len; omega
      · go_wp2
        go_ret
        obtain rfl : k = n := by omega
        exact ⟨_, rfl, by rw [HC.out, ← HL.out]; exact HR.out.out, HR.out.below⟩

theorem implCountCycles_any {w : World} {a : Value} {p : List Int} (ha : RI w a p) :
    Calls Try.prog 68 #[a] w fun e w' => e = .returned (.int .i64 (countCycles p)) ∧ Below w.heap.size w w' := by
  have HA := Lib.hid ha
  obtain ⟨A, c, rfl, -⟩ := ha
  go_enter Try.func68, Try.ntmps68
  go_wp2_with fail
  refine (implCyclesOf_any HA.out).mono ?_
  rintro e w1 ⟨v, rfl, o1, b1⟩
  obtain ⟨A1, c1, rfl⟩ := o1.reads.shape
  clear o1
  go_wp2
  go_ret
  exact ⟨rfl, b1⟩

theorem specCountCycles_any {w : World} {a : Value} {p : List Int} (ha : RI w a p) :
    Calls Try.prog 66 #[a] w fun e w' => e = .returned (.int .i64 (countCycles p)) ∧ Below w.heap.size w w' := by
  have HA := Lib.hid ha
  obtain ⟨A, c, rfl, -⟩ := ha
  go_enter Try.func66, Try.ntmps66
  go_wp2_with fail
  refine (specCyclesOf_any HA.out).mono ?_
  rintro e w1 ⟨v, rfl, o1, b1⟩
  obtain ⟨A1, c1, rfl⟩ := o1.reads.shape
  clear o1
  go_wp2
  go_ret
  exact ⟨rfl, b1⟩

end Go.Proofs.Ytfanohebejemmaa
