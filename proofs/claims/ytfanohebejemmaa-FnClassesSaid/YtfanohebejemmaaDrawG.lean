/-
  The drawn group of the laws: spec.l03Draw, spec.MakeGroup.
-/
import Derived.Test.YtfanohebejemmaaDraw
import Derived.Test.YtfanohebejemmaaWordFn
import Derived.Test.YtfanohebejemmaaTurnS
namespace Go.Proofs.Ytfanohebejemmaa
open Go.ChangeShapes Go.WideShapes Go.ChangeAt Go.RowKit

theorem RII.rows {w : World} {A : Option Addr} {n c : Nat} {g : List (List Int)} (h : RII w (.slice A n c) g) (h0 : 0 < g.length) :
    ∃ b off, A = some ⟨b, off, none⟩ ∧ b < w.heap.size ∧ ∀ k, k < g.length → ∃ u, w.cell? ⟨b, off + k, none⟩ = some u ∧ RI w u (g.getD k []) := by
  obtain ⟨A', c', hv, -, hx⟩ := h
  simp only [Value.slice.injEq] at hv
  obtain ⟨rfl, -, -⟩ := hv
  exact hx h0
theorem RI.cells {w : World} {A : Option Addr} {n c : Nat} {p : List Int} (h : RI w (.slice A n c) p) (h0 : 0 < p.length) :
    ∃ b off, A = some ⟨b, off, none⟩ ∧ b < w.heap.size ∧ ∀ k, k < p.length → w.cell? ⟨b, off + k, none⟩ = some (.int .i64 (p.getD k 0)) := by
  obtain ⟨A', c', hv, -, hx⟩ := h
  simp only [Value.slice.injEq] at hv
  obtain ⟨rfl, -, -⟩ := hv
  exact hx h0
theorem drawn_cyc {n : Nat} (h1 : 1 ≤ n) (h2 : n ≤ 6) : Drawn (cyclicGroup (n : Int)).1 := by
  obtain ⟨_, _, h3, h4, _⟩ := cyc_group h1 (by omega : n ≤ 10)
  exact ⟨h3, by omega⟩
theorem drawn_dih {n : Nat} (h1 : 1 ≤ n) (h2 : n ≤ 6) : Drawn (dihedralGroup (n : Int)).1 := by
  obtain ⟨_, _, h3, h4, _⟩ := dih_group h1 (by omega : n ≤ 10)
  exact ⟨h3, by omega⟩
theorem drawn_sym {n : Nat} (h1 : 1 ≤ n) (h2 : n ≤ 4) : Drawn (symmetricGroup (n : Int)).1 := by
  obtain ⟨_, _, h3, h4⟩ := sym_group h1 (by omega : n ≤ 5)
  exact ⟨h3, by omega⟩

set_option maxHeartbeats 4000000 in
theorem l03Draw_any {w : World} {lo g : Nat} (hc : Cur w lo g) :
    Calls Try.prog 81 #[.pointer (some ⟨g, 0, none⟩)] w fun e w' => ∃ v xss, e = .returned v ∧ OII w' w.heap.size v xss ∧ Drawn xss ∧ w.grownBy w' (some g) := by
  go_enter Try.func81, Try.ntmps81
  go_wp2_with fail
  refine (l01Below_any hc 6 (by omega) (by omega) _ rfl).mono ?_
  rintro e w1 ⟨x, rfl, hx, hcu, hgr⟩
  have H1 := Lib.hid (And.intro hcu hgr)
  have HGP : Hid (g < w.heap.size) := hc.lt
  clear hcu hgr hc
  obtain ⟨N, hN⟩ : ∃ N, N = 1 + x := ⟨_, rfl⟩
  have hn1 : (1 : Int) + (x : Int) = (N : Int) := by omega
  have hN1 : 1 ≤ N := by omega
  have hN6 : N ≤ 6 := by omega
  clear hN hx
  go_wp2_with fail
  refine (l01Below_any H1.out.1 5 (by omega) (by omega) _ rfl).mono ?_
  rintro e w2 ⟨y, rfl, hy, hcu, hgr⟩
  have H2 : Hid (Cur w2 lo g ∧ w.grownBy w2 (some g)) := ⟨hcu, grownBy.trans H1.out.2 hgr⟩
  clear hcu hgr H1
  by_cases y0 : y = 0
  · subst y0
    clear hy
    go_wp2_with fail
    refine (specCyclicGroup_any (N : Int)).mono ?_
    rintro e w3 ⟨v, rfl, o, b⟩
    have HF : Hid (OII w3 w.heap.size v (cyclicGroup (N : Int)).1 ∧ Drawn (cyclicGroup (N : Int)).1 ∧ w.grownBy w3 (some g)) := ⟨OII.mono o H2.out.2.size, drawn_cyc hN1 hN6, grownBy.trans H2.out.2 (grownBy_of_below b)⟩
    obtain ⟨A3, c3, rfl⟩ := o.reads.shape
    clear o b
    generalize (cyclicGroup (N : Int)).1 = xss at HF ⊢
    generalize (cyclicGroup (N : Int)).2 = ok
    go_wp2_with fail
    go_ret
    exact ⟨_, xss, rfl, HF.out⟩
  by_cases y1 : y = 1
  · subst y1
    clear hy y0
    go_wp2_with fail
    refine (specDihedralGroup_any (N : Int)).mono ?_
    rintro e w3 ⟨v, rfl, o, b⟩
    have HF : Hid (OII w3 w.heap.size v (dihedralGroup (N : Int)).1 ∧ Drawn (dihedralGroup (N : Int)).1 ∧ w.grownBy w3 (some g)) := ⟨OII.mono o H2.out.2.size, drawn_dih hN1 hN6, grownBy.trans H2.out.2 (grownBy_of_below b)⟩
    obtain ⟨A3, c3, rfl⟩ := o.reads.shape
    clear o b
    generalize (dihedralGroup (N : Int)).1 = xss at HF ⊢
    generalize (dihedralGroup (N : Int)).2 = ok
    go_wp2_with fail
    go_ret
    exact ⟨_, xss, rfl, HF.out⟩
  by_cases y2 : y = 2
  · subst y2
    clear hy y0 y1
    by_cases hN4 : N ≤ 4
    · have e1 : min (N : Int) 4 = (N : Int) := by omega
      go_wp2_with fail
      all_goals first | (exfalso; omega) | skip
      refine (specSymmetricGroup_any (N : Int)).mono ?_
      rintro e w3 ⟨v, rfl, o, b⟩
      have HF : Hid (OII w3 w.heap.size v (symmetricGroup (N : Int)).1 ∧ Drawn (symmetricGroup (N : Int)).1 ∧ w.grownBy w3 (some g)) := ⟨OII.mono o H2.out.2.size, drawn_sym hN1 hN4, grownBy.trans H2.out.2 (grownBy_of_below b)⟩
      obtain ⟨A3, c3, rfl⟩ := o.reads.shape
      clear o b
      generalize (symmetricGroup (N : Int)).1 = xss at HF ⊢
      generalize (symmetricGroup (N : Int)).2 = ok
      go_wp2_with fail
      go_ret
      exact ⟨_, xss, rfl, HF.out⟩
    · have e1 : min (N : Int) 4 = 4 := by omega
      go_wp2_with fail
      all_goals first | (exfalso; omega) | skip
      refine (specSymmetricGroup_any 4).mono ?_
      rintro e w3 ⟨v, rfl, o, b⟩
      have HF : Hid (OII w3 w.heap.size v (symmetricGroup 4).1 ∧ Drawn (symmetricGroup 4).1 ∧ w.grownBy w3 (some g)) := ⟨OII.mono o H2.out.2.size, drawn_sym (n := 4) (by omega) (by omega), grownBy.trans H2.out.2 (grownBy_of_below b)⟩
      obtain ⟨A3, c3, rfl⟩ := o.reads.shape
      clear o b
      generalize (symmetricGroup 4).1 = xss at HF ⊢
      generalize (symmetricGroup 4).2 = ok
      go_wp2_with fail
      go_ret
      exact ⟨_, xss, rfl, HF.out⟩
  have hy0 : ((y : Int) == 0) = false := beq_eq_false_iff_ne.2 (by omega)
  have hy1 : ((y : Int) == 1) = false := beq_eq_false_iff_ne.2 (by omega)
  have hy2 : ((y : Int) == 2) = false := beq_eq_false_iff_ne.2 (by omega)
  go_wp2_with fail
  refine (l02Draw_any H2.out.1 N hN1 (by omega) _ rfl).mono ?_
  rintro e w3 ⟨v1, s1, rfl, o, hp1, hl1, hcu, hgr⟩
  have H3 : Hid (OI w3 w.heap.size v1 s1 ∧ Cur w3 lo g ∧ w.grownBy w3 (some g)) := ⟨OI.mono o H2.out.2.size, hcu, grownBy.trans H2.out.2 hgr⟩
  obtain ⟨A1, c1, rfl, -⟩ := OI.form o
  have HP1 : Hid (permOk s1 = true ∧ s1.length = N) := ⟨hp1, hl1⟩
  clear o hp1 hl1 hcu hgr H2
  go_wp2_with fail
  refine (l02Draw_any H3.out.2.1 N hN1 (by omega) _ rfl).mono ?_
  rintro e w4 ⟨v2, s2, rfl, o, hp2, hl2, hcu, hgr⟩
  have H4 : Hid (OI w4 w.heap.size (.slice A1 s1.length c1) s1 ∧ OI w4 w.heap.size v2 s2 ∧ Cur w4 lo g ∧ w.grownBy w4 (some g)) := ⟨OI.beside H3.out.1 hgr HGP.out, OI.mono o H3.out.2.2.size, hcu, grownBy.trans H3.out.2.2 hgr⟩
  obtain ⟨A2, c2, rfl, -⟩ := OI.form o
  have HP2 : Hid (permOk s2 = true ∧ s2.length = N) := ⟨hp2, hl2⟩
  clear o hp2 hl2 hcu hgr H3
  go_wp2_with fail
  refine (specGroupOf_any (N : Int) (RII.lit2 H4.out.1.reads H4.out.2.1.reads)).mono ?_
  rintro e w5 ⟨v5, rfl, o, b⟩
  have hb4 : Below w4.heap.size w4 w5 := bstep ((Below.refl w4.heap.size w4).alloc (Nat.le_refl _) _) b
  have H5 : Hid (OII w5 w.heap.size v5 (groupOf (N : Int) [s1, s2]).1 ∧ Cur w5 lo g ∧ w.grownBy w5 (some g)) :=
    ⟨OII.mono o (by have := H4.out.2.2.2.size; simp; omega), H4.out.2.2.1.below hb4, grownBy.trans H4.out.2.2.2 (grownBy_of_below hb4)⟩
  have hg2 : Gens N [s1, s2] := fun s hs => by
    rcases List.mem_cons.1 hs with rfl | hs
    · exact HP1.out
    · rw [List.mem_singleton.1 hs]; exact HP2.out
  have HD := Lib.hid (drawn_of hN1 hN6 hg2)
  obtain ⟨A5, c5, rfl⟩ := o.reads.shape
  clear o b hb4 hg2
  generalize (groupOf (N : Int) [s1, s2]).1 = xss at *
  generalize (groupOf (N : Int) [s1, s2]).2 = ok at *
  obtain ⟨L, hL⟩ : ∃ L, L = xss.length := ⟨_, rfl⟩
  have HL := Lib.hid hL
  rw [← hL]
  rw [← hL] at H5
  clear hL
  by_cases hok : ok = true ∧ L ≤ 24
  · obtain ⟨rfl, hL⟩ := hok
    have hl1 : decide ((L : Int) > 24) = false := decide_eq_false (by omega)
    have hl2 : decide ((24 : Int) < (L : Int)) = false := decide_eq_false (by omega)
    have hl3 : decide (24 < L) = false := decide_eq_false (by omega)
    have hl4 : ¬ (24 < L) := by omega
    go_wp2_with fail
    go_ret
    exact ⟨_, xss, rfl, H5.out.1, HD.out (by first | rfl | trivial), H5.out.2.2⟩
  · have HO : Hid (¬ (ok = true ∧ L ≤ 24)) := hok
    have go : ∀ Q : Prop, (ok = false → Q) → (ok = true → 24 < L → Q) → Q := fun Q h1 h2 => by
      cases ok with
      | false => exact h1 rfl
      | true => exact h2 rfl (Nat.lt_of_not_le fun h => HO.out ⟨rfl, h⟩)
    clear hok
    refine go _ (fun hb => ?_) (fun hb hL => ?_)
    all_goals
      subst hb
      clear go HO HD
    case _ =>
      go_wp2_with fail
      refine (l02Draw_any H5.out.2.1 N hN1 (by omega) _ rfl).mono ?_
      rintro e w6 ⟨v6, s3, rfl, o, hp3, hl3, hcu, hgr⟩
      have H6 : Hid (OI w6 w.heap.size v6 s3 ∧ w.grownBy w6 (some g)) := ⟨OI.mono o H5.out.2.2.size, grownBy.trans H5.out.2.2 hgr⟩
      obtain ⟨A6, c6, rfl, -⟩ := OI.form o
      have HD := Lib.hid (drawn_one hN1 hN6 hp3 hl3)
      clear o hp3 hl3 hcu hgr H5
      go_wp2_with fail
      refine (specGroupOf_any (N : Int) (RII.lit1 H6.out.1.reads)).mono ?_
      rintro e w7 ⟨v7, rfl, o, b⟩
      have hb6 : Below w6.heap.size w6 w7 := bstep ((Below.refl w6.heap.size w6).alloc (Nat.le_refl _) _) b
      have H7 : Hid (OII w7 w.heap.size v7 (groupOf (N : Int) [s3]).1 ∧ w.grownBy w7 (some g)) :=
        ⟨OII.mono o (by have := H6.out.2.size; simp; omega), grownBy.trans H6.out.2 (grownBy_of_below hb6)⟩
      obtain ⟨A7, c7, rfl⟩ := o.reads.shape
      clear o b hb6
      generalize (groupOf (N : Int) [s3]).1 = yss at *
      generalize (groupOf (N : Int) [s3]).2 = ok2 at *
      go_wp2_with fail
      go_ret
      exact ⟨_, yss, rfl, H7.out.1, HD.out, H7.out.2⟩
    case _ =>
      have hl1 : decide ((L : Int) > 24) = true := decide_eq_true (by omega)
      have hl2 : decide ((24 : Int) < (L : Int)) = true := decide_eq_true (by omega)
      have hl3 : decide (24 < L) = true := decide_eq_true (by omega)
      go_wp2_with fail
      refine (l02Draw_any H5.out.2.1 N hN1 (by omega) _ rfl).mono ?_
      rintro e w6 ⟨v6, s3, rfl, o, hp3, hl3, hcu, hgr⟩
      have H6 : Hid (OI w6 w.heap.size v6 s3 ∧ w.grownBy w6 (some g)) := ⟨OI.mono o H5.out.2.2.size, grownBy.trans H5.out.2.2 hgr⟩
      obtain ⟨A6, c6, rfl, -⟩ := OI.form o
      have HD := Lib.hid (drawn_one hN1 hN6 hp3 hl3)
      clear o hp3 hl3 hcu hgr H5
      go_wp2_with fail
      refine (specGroupOf_any (N : Int) (RII.lit1 H6.out.1.reads)).mono ?_
      rintro e w7 ⟨v7, rfl, o, b⟩
      have hb6 : Below w6.heap.size w6 w7 := bstep ((Below.refl w6.heap.size w6).alloc (Nat.le_refl _) _) b
      have H7 : Hid (OII w7 w.heap.size v7 (groupOf (N : Int) [s3]).1 ∧ w.grownBy w7 (some g)) :=
        ⟨OII.mono o (by have := H6.out.2.size; simp; omega), grownBy.trans H6.out.2 (grownBy_of_below hb6)⟩
      obtain ⟨A7, c7, rfl⟩ := o.reads.shape
      clear o b hb6
      generalize (groupOf (N : Int) [s3]).1 = yss at *
      generalize (groupOf (N : Int) [s3]).2 = ok2 at *
      go_wp2_with fail
      go_ret
      exact ⟨_, yss, rfl, H7.out.1, HD.out, H7.out.2⟩

set_option maxHeartbeats 1000000 in
theorem MakeGroup_any {w : World} {v : Value} {n : Nat} (hv : RBy w w.heap.size v n) (m : Nat) (hm : m ≤ 1000) :
    Calls Try.prog 49 #[v, .int .i64 (m : Int)] w fun e w' => ∃ u xss, e = .returned u ∧ OII w' w.heap.size u xss ∧ Drawn xss ∧ Below w.heap.size w w' := by
  have HB := Lib.hid hv
  obtain ⟨A, c, rfl, hn, hx⟩ := hv
  clear hx
  go_enter Try.func49, Try.ntmps49
  go_wp2_with fail
  refine (l16New_any HB.out m hm).mono ?_
  rintro e w1 ⟨g, rfl, hc, hb⟩
  have HC := Lib.hid (And.intro hc hb)
  clear hc hb
  go_wp2_with fail
  refine (l03Draw_any HC.out.1).mono ?_
  rintro e w2 ⟨u, xss, rfl, o, hd, hg⟩
  obtain ⟨A2, c2, rfl⟩ := o.reads.shape
  have HD : Hid (OII w2 w.heap.size (.slice A2 xss.length c2) xss ∧ Drawn xss ∧ Below w.heap.size w w2) := ⟨OII.mono o HC.out.2.size, hd, HC.out.2.grown hg HC.out.2.size (fun k hk => by cases hk; exact HC.out.1.le)⟩
  clear o hd hg
  go_wp2_with fail
  go_ret
  exact ⟨_, xss, rfl, HD.out⟩
end Go.Proofs.Ytfanohebejemmaa
