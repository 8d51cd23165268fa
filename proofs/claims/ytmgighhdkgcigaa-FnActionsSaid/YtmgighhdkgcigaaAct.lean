/-
  Carrying a coloring: act, ActOn, IsFixed, of the program and of the reference.
-/
import Derived.Test.YtmgighhdkgcigaaPermOk
import Derived.Test.YtmgighhdkgcigaaPerm1
import Derived.Test.YtmgighhdkgcigaaSame
import Derived.Test.YtmgighhdkgcigaaActFn
namespace Go.Proofs.Ytmgighhdkgcigaa
open Go.RowKit Go.Deep

set_option maxHeartbeats 800000 in
theorem l04Act_any {w : World} {a b : Value} {p l : List Int} (ha : RI w a p) (hb : RI w b l) (hp : l.length ≤ 1048576) (hi : p.Nodup ∧ Into p p ∧ p.length = l.length) :
    Calls Try.prog 45 #[a, b] w fun e w' => ∃ v, e = .returned v ∧ OI w' w.heap.size v (act p l) ∧ Below w.heap.size w w' := by
  obtain ⟨A, c, rfl, -, hx⟩ := ha
  obtain ⟨B, d, rfl, -, hy⟩ := hb
  obtain ⟨n, hn⟩ : ∃ n, n = l.length := ⟨_, rfl⟩
  have hn2 : n = p.length := by omega
  rw [← hn2] at hx ⊢
  rw [← hn] at hy hp ⊢
  have hmk := run_make_row' (P := Try.prog) 22 3 (.int .i64 0) 8 Try.underlying22 int_info rfl .i64 .i64 n (by omega) (by omega)
  obtain ⟨g, hg⟩ : ∃ g, g = w.heap.size := ⟨_, rfl⟩
  have HE := Lib.hid hg
  have HG : Hid (w.heap.size ≤ g) := by rw [hg]; exact Nat.le_refl _
  have HL := Lib.hid (And.intro hn2 hn)
  have HX := Lib.hid hx
  have HY := Lib.hid hy
  have HI := Lib.hid hi
  clear hn hx hy hi hg hn2
  go_enter Try.func45, Try.ntmps45
  go_wp2
  have h0 := OI.made w n (by unfold maxLen; omega)
  have hb0 : Below w.heap.size w (w.alloc (.cells (madeCells #[.int .i64 0] n) 3)) := (Below.refl _ _).alloc (Nat.le_refl _) _
  rw [← HE.out] at h0 ⊢
  have H0 := Lib.hid (And.intro h0 hb0)
  clear h0 hb0 hmk
  go_loopw [13] (fun i wr => ∃ k : Nat, k ≤ n ∧ i = .int .i64 k ∧ Hid (OI wr g (.slice (some ⟨g, 0, none⟩) n n) (actTo p l k) ∧ Below w.heap.size w wr)) (fun i _ => n - (intOf i).toNat)
  case atStart => exact ⟨0, Nat.zero_le _, rfl, by rw [actTo_zero, ← HL.out.1]; exact H0.out⟩
  case round =>
    obtain ⟨k, hk, rfl, HR⟩ := hrel
    by_cases hlt : k < n
    · have hkl : k < p.length := by have := HL.out; omega
      obtain ⟨x, hx⟩ : ∃ x, x = p.getD k 0 := ⟨_, rfl⟩
      obtain ⟨hx0, hx1⟩ := HI.out.2.1 x (by rw [hx]; exact getD_mem hkl)
      obtain ⟨m, rfl⟩ := Int.eq_ofNat_of_zero_le hx0
      have hml : m < n := by have := HL.out; omega
      obtain ⟨b1, o1, rfl, hb1, hc1⟩ := HX.out (by omega)
      obtain ⟨b2, o2, rfl, hb2, hc2⟩ := HY.out (by omega)
      have c1 := (HR.out.2.cell (p := ⟨b1, o1 + k, none⟩) hb1).trans (hc1 k hlt)
      have c2 := (HR.out.2.cell (p := ⟨b2, o2 + k, none⟩) hb2).trans (hc2 k hlt)
      rw [← hx] at c1
      obtain ⟨y, hy⟩ : ∃ y, y = l.getD k 0 := ⟨_, rfl⟩
      rw [← hy] at c2
      have hlen : (actTo p l k).length = n := by rw [actTo_len, HL.out.1]
      have c3 := HR.out.1.cell hlen m hml
      have f3 := HR.out.1.frozen hlen m
      have hs := (HR.out.1.set hlen m y).1
      rw [hy, actTo_set HI.out.1 hkl hx.symm, ← hy] at hs
      have HS := Lib.hid (And.intro hs (HR.out.2.setCell (p := ⟨g, m, none⟩) HG.out (.int .i64 y)))
      have HZ := Lib.hid (And.intro hx hy)
      clear hx hy hc1 hc2 hx0 hx1 hkl hs hlen
      have hm2 : (m : Int) < n := by omega
      go_wp2
      go_roundw
      case rel => exact ⟨k + 1, by omega, by go_num, HS.out⟩
      case measure => simp [intOf]; omega
    · go_wp2
      go_ret
      obtain rfl : k = n := by omega
      have ho := HR.out.1
      refine ⟨_, rfl, ?_, HR.out.2⟩
      rw [← HE.out, show act p l = actTo p l k from by rw [HL.out.1]; rfl]
      exact ho

set_option maxHeartbeats 800000 in
theorem specActOn_any {w : World} {a b : Value} {p l : List Int} (ha : RI w a p) (hb : RI w b l) :
    Calls Try.prog 12 #[a, b] w fun e w' => ∃ v, e = .returned (.tuple #[v, .bool (actOn p l).2]) ∧ OI w' w.heap.size v (actOn p l).1 ∧ Below w.heap.size w w' := by
  have HA := Lib.hid ha
  have HB := Lib.hid hb
  have hlp := ha.lenle
  have hlq := hb.lenle
  obtain ⟨A, c, rfl, -⟩ := ha
  obtain ⟨B, d, rfl, -⟩ := hb
  cases hp : permOk p with
  | false =>
    have HC := Lib.hid (actOn_no (l := l) (.inl hp))
    have HP := Lib.hid hp
    clear hp
    go_enter Try.func12, Try.ntmps12
    go_wp2_with fail
    refine (specPermOk_any HA.out).mono ?_
    rw [HP.out]
    rintro e w1 ⟨rfl, b1⟩
    go_wp2
    go_ret2
    exact ⟨_, ret2 (by rw [HC.out]), by rw [HC.out]; exact World.ownsRow_nil _ _ _ _, b1⟩
  | true =>
  cases hq : colOk l with
  | false =>
    have HC := Lib.hid (actOn_no (p := p) (.inr (.inl hq)))
    have HP := Lib.hid (And.intro hp hq)
    clear hp hq
    go_enter Try.func12, Try.ntmps12
    go_wp2_with fail
    refine (specPermOk_any HA.out).mono ?_
    rw [HP.out.1]
    rintro e w1 ⟨rfl, b1⟩
    have HB1 := Lib.hid b1
    clear b1
    go_wp2_with fail
    refine (specColoringOk_any (HB.out.below HB1.out)).mono ?_
    rw [HP.out.2]
    rintro e w2 ⟨rfl, rfl⟩
    go_wp2
    go_ret2
    exact ⟨_, ret2 (by rw [HC.out]), by rw [HC.out]; exact World.ownsRow_nil _ _ _ _, HB1.out⟩
  | true =>
  have HP := Lib.hid (And.intro hp hq)
  by_cases hl : p.length = l.length
  · have HC := Lib.hid (actOn_yes hp hq hl)
    have HI : Hid (p.Nodup ∧ Into p p ∧ p.length = l.length) := ⟨permOk_nodup hp, permOk_mem hp, hl⟩
    have h10 : l.length ≤ 10 := by have := (permOk_le hp).2; omega
    have hbn : ((p.length : Int) != l.length) = false := by simp [hl]
    clear hp hq hl
    go_enter Try.func12, Try.ntmps12
    go_wp2_with fail
    refine (specPermOk_any HA.out).mono ?_
    rw [HP.out.1]
    rintro e w1 ⟨rfl, b1⟩
    have HB1 := Lib.hid b1
    clear b1
    go_wp2_with fail
    refine (specColoringOk_any (HB.out.below HB1.out)).mono ?_
    rw [HP.out.2]
    rintro e w2 ⟨rfl, rfl⟩
    go_wp2_with fail
    refine (l04Act_any (HA.out.below HB1.out) (HB.out.below HB1.out) (by omega) HI.out).mono ?_
    rintro e w3 ⟨v, rfl, o3, b3⟩
    have HF := Lib.hid (And.intro (OI.mono o3 HB1.out.size) (bstep HB1.out b3))
    clear o3 b3
    go_wp2
    go_ret2
    exact ⟨_, ret2 (by rw [HC.out]), by rw [HC.out]; exact HF.out.1, HF.out.2⟩
  · have HC := Lib.hid (actOn_no (p := p) (.inr (.inr hl)))
    have hbn : ((p.length : Int) != l.length) = true := bne_iff_ne.2 (by omega)
    clear hp hq hl
    go_enter Try.func12, Try.ntmps12
    go_wp2_with fail
    refine (specPermOk_any HA.out).mono ?_
    rw [HP.out.1]
    rintro e w1 ⟨rfl, b1⟩
    have HB1 := Lib.hid b1
    clear b1
    go_wp2_with fail
    refine (specColoringOk_any (HB.out.below HB1.out)).mono ?_
    rw [HP.out.2]
    rintro e w2 ⟨rfl, rfl⟩
    go_wp2
    go_ret2
    exact ⟨_, ret2 (by rw [HC.out]), by rw [HC.out]; exact World.ownsRow_nil _ _ _ _, HB1.out⟩

set_option maxHeartbeats 800000 in
theorem specIsFixed_any {w : World} {a b : Value} {p l : List Int} (ha : RI w a p) (hb : RI w b l) :
    Calls Try.prog 20 #[a, b] w fun e w' => e = .returned (.bool (isFixed p l)) ∧ Below w.heap.size w w' := by
  have HA := Lib.hid ha
  have HB := Lib.hid hb
  obtain ⟨A, c, rfl, -⟩ := ha
  obtain ⟨B, d, rfl, -⟩ := hb
  obtain ⟨x, ok, hr⟩ : ∃ x ok, actOn p l = (x, ok) := ⟨_, _, rfl⟩
  have HR := Lib.hid hr
  have HF : Hid (isFixed p l = (ok && decide (x = l))) := by unfold isFixed Hid; rw [hr]
  clear hr
  cases ok with
  | true =>
    go_enter Try.func20, Try.ntmps20
    go_wp2_with fail
    have hc := specActOn_any (w := w) HA.out HB.out
    simp only [HR.out] at hc
    refine hc.mono ?_
    clear hc
    rintro e w1 ⟨v, rfl, o1, b1⟩
    have H1 := Lib.hid (And.intro o1 b1)
    obtain ⟨A1, c1, hv, -⟩ := o1.form
    subst hv
    clear o1 b1
    go_wp2_with fail
    refine (l03Same_any H1.out.1.reads (HB.out.below H1.out.2)).mono ?_
    rintro e w2 ⟨rfl, s2⟩
    have H2 := Lib.hid (bstep H1.out.2 s2.below)
    clear s2
    go_wp2
    go_ret
    exact ⟨retB (by rw [HF.out]; rfl), H2.out⟩
  | false =>
    go_enter Try.func20, Try.ntmps20
    go_wp2_with fail
    have hc := specActOn_any (w := w) HA.out HB.out
    simp only [HR.out] at hc
    refine hc.mono ?_
    clear hc
    rintro e w1 ⟨v, rfl, o1, b1⟩
    have H1 := Lib.hid b1
    clear o1 b1
    go_wp2
    go_ret
    exact ⟨retB (by rw [HF.out]; rfl), H1.out⟩

set_option maxHeartbeats 800000 in
theorem act_any {w : World} {a b : Value} {p l : List Int} (ha : RI w a p) (hb : RI w b l) (hp : l.length ≤ 1048576) (hi : p.Nodup ∧ Into p p ∧ p.length = l.length) :
    Calls Try.prog 46 #[a, b] w fun e w' => ∃ v, e = .returned v ∧ OI w' w.heap.size v (act p l) ∧ Below w.heap.size w w' := by
  obtain ⟨A, c, rfl, -, hx⟩ := ha
  obtain ⟨B, d, rfl, -, hy⟩ := hb
  obtain ⟨n, hn⟩ : ∃ n, n = l.length := ⟨_, rfl⟩
  have hn2 : n = p.length := by omega
  rw [← hn2] at hx ⊢
  rw [← hn] at hy hp ⊢
  have hmk := run_make_row' (P := Try.prog) 22 3 (.int .i64 0) 8 Try.underlying22 int_info rfl .i64 .i64 n (by omega) (by omega)
  obtain ⟨g, hg⟩ : ∃ g, g = w.heap.size := ⟨_, rfl⟩
  have HE := Lib.hid hg
  have HG : Hid (w.heap.size ≤ g) := by rw [hg]; exact Nat.le_refl _
  have HL := Lib.hid (And.intro hn2 hn)
  have HX := Lib.hid hx
  have HY := Lib.hid hy
  have HI := Lib.hid hi
  clear hn hx hy hi hg hn2
  go_enter Try.func46, Try.ntmps46
  go_wp2
  have h0 := OI.made w n (by unfold maxLen; omega)
  have hb0 : Below w.heap.size w (w.alloc (.cells (madeCells #[.int .i64 0] n) 3)) := (Below.refl _ _).alloc (Nat.le_refl _) _
  rw [← HE.out] at h0 ⊢
  have H0 := Lib.hid (And.intro h0 hb0)
  clear h0 hb0 hmk
  go_loopw [13] (fun i wr => ∃ k : Nat, k ≤ n ∧ i = .int .i64 k ∧ Hid (OI wr g (.slice (some ⟨g, 0, none⟩) n n) (actTo p l k) ∧ Below w.heap.size w wr)) (fun i _ => n - (intOf i).toNat)
  case atStart => exact ⟨0, Nat.zero_le _, rfl, by rw [actTo_zero, ← HL.out.1]; exact H0.out⟩
  case round =>
    obtain ⟨k, hk, rfl, HR⟩ := hrel
    by_cases hlt : k < n
    · have hkl : k < p.length := by have := HL.out; omega
      obtain ⟨x, hx⟩ : ∃ x, x = p.getD k 0 := ⟨_, rfl⟩
      obtain ⟨hx0, hx1⟩ := HI.out.2.1 x (by rw [hx]; exact getD_mem hkl)
      obtain ⟨m, rfl⟩ := Int.eq_ofNat_of_zero_le hx0
      have hml : m < n := by have := HL.out; omega
      obtain ⟨b1, o1, rfl, hb1, hc1⟩ := HX.out (by omega)
      obtain ⟨b2, o2, rfl, hb2, hc2⟩ := HY.out (by omega)
      have c1 := (HR.out.2.cell (p := ⟨b1, o1 + k, none⟩) hb1).trans (hc1 k hlt)
      have c2 := (HR.out.2.cell (p := ⟨b2, o2 + k, none⟩) hb2).trans (hc2 k hlt)
      rw [← hx] at c1
      obtain ⟨y, hy⟩ : ∃ y, y = l.getD k 0 := ⟨_, rfl⟩
      rw [← hy] at c2
      have hlen : (actTo p l k).length = n := by rw [actTo_len, HL.out.1]
      have c3 := HR.out.1.cell hlen m hml
      have f3 := HR.out.1.frozen hlen m
      have hs := (HR.out.1.set hlen m y).1
      rw [hy, actTo_set HI.out.1 hkl hx.symm, ← hy] at hs
      have HS := Lib.hid (And.intro hs (HR.out.2.setCell (p := ⟨g, m, none⟩) HG.out (.int .i64 y)))
      have HZ := Lib.hid (And.intro hx hy)
      clear hx hy hc1 hc2 hx0 hx1 hkl hs hlen
      have hm2 : (m : Int) < n := by omega
      go_wp2
      go_roundw
      case rel => exact ⟨k + 1, by omega, by go_num, HS.out⟩
      case measure => simp [intOf]; omega
    · go_wp2
      go_ret
      obtain rfl : k = n := by omega
      have ho := HR.out.1
      refine ⟨_, rfl, ?_, HR.out.2⟩
      rw [← HE.out, show act p l = actTo p l k from by rw [HL.out.1]; rfl]
      exact ho

set_option maxHeartbeats 800000 in
theorem implActOn_any {w : World} {a b : Value} {p l : List Int} (ha : RI w a p) (hb : RI w b l) :
    Calls Try.prog 14 #[a, b] w fun e w' => ∃ v, e = .returned (.tuple #[v, .bool (actOn p l).2]) ∧ OI w' w.heap.size v (actOn p l).1 ∧ Below w.heap.size w w' := by
  have HA := Lib.hid ha
  have HB := Lib.hid hb
  have hlp := ha.lenle
  have hlq := hb.lenle
  obtain ⟨A, c, rfl, -⟩ := ha
  obtain ⟨B, d, rfl, -⟩ := hb
  cases hp : permOk p with
  | false =>
    have HC := Lib.hid (actOn_no (l := l) (.inl hp))
    have HP := Lib.hid hp
    clear hp
    go_enter Try.func14, Try.ntmps14
    go_wp2_with fail
    refine (implPermOk_any HA.out).mono ?_
    rw [HP.out]
    rintro e w1 ⟨rfl, b1⟩
    go_wp2
    go_ret2
    exact ⟨_, ret2 (by rw [HC.out]), by rw [HC.out]; exact World.ownsRow_nil _ _ _ _, b1⟩
  | true =>
  cases hq : colOk l with
  | false =>
    have HC := Lib.hid (actOn_no (p := p) (.inr (.inl hq)))
    have HP := Lib.hid (And.intro hp hq)
    clear hp hq
    go_enter Try.func14, Try.ntmps14
    go_wp2_with fail
    refine (implPermOk_any HA.out).mono ?_
    rw [HP.out.1]
    rintro e w1 ⟨rfl, b1⟩
    have HB1 := Lib.hid b1
    clear b1
    go_wp2_with fail
    refine (implColoringOk_any (HB.out.below HB1.out)).mono ?_
    rw [HP.out.2]
    rintro e w2 ⟨rfl, rfl⟩
    go_wp2
    go_ret2
    exact ⟨_, ret2 (by rw [HC.out]), by rw [HC.out]; exact World.ownsRow_nil _ _ _ _, HB1.out⟩
  | true =>
  have HP := Lib.hid (And.intro hp hq)
  by_cases hl : p.length = l.length
  · have HC := Lib.hid (actOn_yes hp hq hl)
    have HI : Hid (p.Nodup ∧ Into p p ∧ p.length = l.length) := ⟨permOk_nodup hp, permOk_mem hp, hl⟩
    have h10 : l.length ≤ 10 := by have := (permOk_le hp).2; omega
    have hbn : ((p.length : Int) != l.length) = false := by simp [hl]
    clear hp hq hl
    go_enter Try.func14, Try.ntmps14
    go_wp2_with fail
    refine (implPermOk_any HA.out).mono ?_
    rw [HP.out.1]
    rintro e w1 ⟨rfl, b1⟩
    have HB1 := Lib.hid b1
    clear b1
    go_wp2_with fail
    refine (implColoringOk_any (HB.out.below HB1.out)).mono ?_
    rw [HP.out.2]
    rintro e w2 ⟨rfl, rfl⟩
    go_wp2_with fail
    refine (act_any (HA.out.below HB1.out) (HB.out.below HB1.out) (by omega) HI.out).mono ?_
    rintro e w3 ⟨v, rfl, o3, b3⟩
    have HF := Lib.hid (And.intro (OI.mono o3 HB1.out.size) (bstep HB1.out b3))
    clear o3 b3
    go_wp2
    go_ret2
    exact ⟨_, ret2 (by rw [HC.out]), by rw [HC.out]; exact HF.out.1, HF.out.2⟩
  · have HC := Lib.hid (actOn_no (p := p) (.inr (.inr hl)))
    have hbn : ((p.length : Int) != l.length) = true := bne_iff_ne.2 (by omega)
    clear hp hq hl
    go_enter Try.func14, Try.ntmps14
    go_wp2_with fail
    refine (implPermOk_any HA.out).mono ?_
    rw [HP.out.1]
    rintro e w1 ⟨rfl, b1⟩
    have HB1 := Lib.hid b1
    clear b1
    go_wp2_with fail
    refine (implColoringOk_any (HB.out.below HB1.out)).mono ?_
    rw [HP.out.2]
    rintro e w2 ⟨rfl, rfl⟩
    go_wp2
    go_ret2
    exact ⟨_, ret2 (by rw [HC.out]), by rw [HC.out]; exact World.ownsRow_nil _ _ _ _, HB1.out⟩

set_option maxHeartbeats 800000 in
theorem implIsFixed_any {w : World} {a b : Value} {p l : List Int} (ha : RI w a p) (hb : RI w b l) :
    Calls Try.prog 21 #[a, b] w fun e w' => e = .returned (.bool (isFixed p l)) ∧ Below w.heap.size w w' := by
  have HA := Lib.hid ha
  have HB := Lib.hid hb
  obtain ⟨A, c, rfl, -⟩ := ha
  obtain ⟨B, d, rfl, -⟩ := hb
  obtain ⟨x, ok, hr⟩ : ∃ x ok, actOn p l = (x, ok) := ⟨_, _, rfl⟩
  have HR := Lib.hid hr
  have HF : Hid (isFixed p l = (ok && decide (x = l))) := by unfold isFixed Hid; rw [hr]
  clear hr
  cases ok with
  | true =>
    go_enter Try.func21, Try.ntmps21
    go_wp2_with fail
    have hc := implActOn_any (w := w) HA.out HB.out
    simp only [HR.out] at hc
    refine hc.mono ?_
    clear hc
    rintro e w1 ⟨v, rfl, o1, b1⟩
    have H1 := Lib.hid (And.intro o1 b1)
    obtain ⟨A1, c1, hv, -⟩ := o1.form
    subst hv
    clear o1 b1
    go_wp2_with fail
    refine (slicesEqual_any H1.out.1.reads (HB.out.below H1.out.2)).mono ?_
    rintro e w2 ⟨rfl, s2⟩
    have H2 := Lib.hid (bstep H1.out.2 s2.below)
    clear s2
    go_wp2
    go_ret
    exact ⟨retB (by rw [HF.out]; rfl), H2.out⟩
  | false =>
    go_enter Try.func21, Try.ntmps21
    go_wp2_with fail
    have hc := implActOn_any (w := w) HA.out HB.out
    simp only [HR.out] at hc
    refine hc.mono ?_
    clear hc
    rintro e w1 ⟨v, rfl, o1, b1⟩
    have H1 := Lib.hid b1
    clear o1 b1
    go_wp2
    go_ret
    exact ⟨retB (by rw [HF.out]; rfl), H1.out⟩
end Go.Proofs.Ytmgighhdkgcigaa
