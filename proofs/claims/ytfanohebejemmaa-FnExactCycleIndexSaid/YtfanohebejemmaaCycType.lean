/-
  CycleType, of the program and of the reference.
-/
import Derived.Test.YtfanohebejemmaaCyc
import Derived.Test.YtfanohebejemmaaActFn
namespace Go.Proofs.Ytfanohebejemmaa
open Go.RowKit Go.Deep

theorem takeS_succ' {xss : List (List Int)} {k : Nat} (hk : k < xss.length) : xss.take (k + 1) = xss.take k ++ [xss.getD k []] := by
  rw [List.take_add_one, List.getElem?_eq_getElem hk]; simp [hk]
theorem Turned.setCell {w : World} {g k : Nat} (_hg : g < w.heap.size) (u : Value) : Turned g (g + 1) w (w.setCell ⟨g, k, none⟩ u) :=
  ⟨rfl, rfl, rfl, by simp, fun i hi => Below.heap_setCell _ _ _ _ (by simp; omega)⟩
theorem cast_row {w : World} {lo n : Nat} {v : Value} {xs : List Int} (h : w.ownsRow lo 3 1 v xs.length (ints xs)) (_hn : xs.length = n) : OI w lo v xs := h

set_option maxHeartbeats 800000 in
theorem specCycleType_any {w : World} {a : Value} {p : List Int} (ha : RI w a p) :
    Calls Try.prog 75 #[a] w fun e w' => ∃ v, e = .returned v ∧ OI w' w.heap.size v (cycleType p) ∧ Below w.heap.size w w' := by
  have HA := Lib.hid ha
  obtain ⟨A, c, rfl, -⟩ := ha
  cases hp : permOk p with
  | false =>
    have HC := Lib.hid (cycleType_no hp)
    have HP := Lib.hid hp
    clear hp
    go_enter Try.func75, Try.ntmps75
    go_wp2_with fail
    refine (specPermOk_any HA.out).mono ?_
    rw [HP.out]
    rintro e w1 ⟨rfl, b1⟩
    go_wp2
    go_ret
    exact ⟨_, rfl, by rw [HC.out]; exact World.ownsRow_nil _ _ _ _, b1⟩
  | true =>
  have HP := Lib.hid hp
  have HC := Lib.hid (cycleType_yes hp)
  obtain ⟨n, hn⟩ : ∃ n, n = p.length := ⟨_, rfl⟩
  have hln := permOk_le hp
  rw [← hn] at HA hln ⊢
  obtain ⟨hn1, hn10⟩ := hln
  have HL := Lib.hid hn
  have hmk := run_make_row' (P := Try.prog) 27 3 (.int .i64 0) 8 Try.underlying27 int_info rfl .i64 .i64 n (by omega) (by omega)
  obtain ⟨nc, hnc⟩ : ∃ nc, nc = (cyclesOf p).length := ⟨_, rfl⟩
  have hnc10 : nc ≤ 10 := by have := cyclesOf_len p; omega
  have HNC := Lib.hid hnc
  clear hp hn hnc
  go_enter Try.func75, Try.ntmps75
  go_wp2_with fail
  refine (specPermOk_any HA.out).mono ?_
  rw [HP.out]
  rintro e w1 ⟨rfl, b1⟩
  have HB1 := Lib.hid b1
  clear b1
  go_wp2_with fail
  have h0 := OI.made w1 n (by unfold maxLen; omega)
  have hb0 : Below w.heap.size w (w1.alloc (.cells (madeCells #[.int .i64 0] n) 3)) := HB1.out.alloc HB1.out.size _
  obtain ⟨g, hg⟩ : ∃ g, g = w1.heap.size := ⟨_, rfl⟩
  rw [← hg] at h0 ⊢
  have HG : Hid (w.heap.size ≤ g) := by rw [hg]; exact HB1.out.size
  have HG2 : Hid (g < (w1.alloc (.cells (madeCells #[.int .i64 0] n) 3)).heap.size) := by rw [hg]; show _ < _; simp
  obtain ⟨w2, hw2⟩ : ∃ w2, w2 = w1.alloc (.cells (madeCells #[.int .i64 0] n) 3) := ⟨_, rfl⟩
  rw [← hw2] at h0 hb0 HG2 ⊢
  have H0 := Lib.hid (And.intro h0 hb0)
  clear h0 hb0 hg hmk hw2
  refine (specCyclesOf_any (HA.out.below H0.out.2)).mono ?_
  rintro e w3 ⟨vc, rfl, o3, b3⟩
  have hr3 := o3.reads
  have H3 := Lib.hid (And.intro (OI.step H0.out.1 b3) (And.intro (bstep H0.out.2 b3) hr3))
  obtain ⟨AC, cc, hvc, -, hxc⟩ := hr3
  subst hvc
  rw [← HNC.out] at hxc ⊢
  have HX := Lib.hid hxc
  have HGW : Hid (g < w3.heap.size) := by have := HG2.out; have := b3.size; exact (by omega : g < w3.heap.size)
  have HGO : Hid (∀ b : Nat, w2.heap.size ≤ b → g ≠ b) := fun b hb => by have := HG2.out; omega
  have HO3 := Lib.hid o3
  clear o3 b3 hxc
  go_wp2_with fail
  go_loopw [15] (fun i wr => ∃ j : Nat, j ≤ nc ∧ i = .int .i64 j ∧ Hid (OI wr g (.slice (some ⟨g, 0, none⟩) n n) (typeTo n ((cyclesOf p).take j)) ∧ Below w.heap.size w wr ∧ Turned g (g + 1) w3 wr)) (fun i _ => nc - (intOf i).toNat)
  case atStart => exact ⟨0, Nat.zero_le _, rfl, by rw [List.take_zero, typeTo_nil]; exact H3.out.1, H3.out.2.1, Turned.refl _ _ _⟩
  case round =>
    obtain ⟨j, hj, rfl, HR⟩ := hrel
    by_cases hlt : j < nc
    · have hjl : j < (cyclesOf p).length := by have := HNC.out; omega
      obtain ⟨b1, o1, rfl, hb1, hc1⟩ := HX.out (by omega)
      obtain ⟨u, cu, ru⟩ := hc1 j hlt
      obtain ⟨cy, hcy⟩ : ∃ cy, cy = (cyclesOf p).getD j [] := ⟨_, rfl⟩
      rw [← hcy] at ru
      have hcm := cyclesOf_ne HP.out cy (by rw [hcy]; simp [List.getElem?_eq_getElem hjl])
      obtain ⟨A1, c1', hu, -⟩ := ru
      subst hu
      have hbg : b1 ≠ g := by
        obtain ⟨vs, h1, _⟩ := HO3.out
        have := (h1.lt b1 rfl).1
        exact fun e => HGO.out b1 this e.symm
      have cj := (World.cell?_of_block (w := w3) (w' := wr) (a := ⟨b1, o1 + j, none⟩) (HR.out.2.2.block b1 (by omega))).trans cu
      obtain ⟨l, hl⟩ : ∃ l, cy.length = l + 1 := ⟨cy.length - 1, by omega⟩
      rw [hl] at cj hcm
      have hln : l < n := by have := HL.out; omega
      have hlen := typeTo_len n ((cyclesOf p).take j)
      have hle := typeTo_le n ((cyclesOf p).take j) l
      have c3 := HR.out.1.cell hlen l hln
      have f3 := HR.out.1.frozen hlen l
      have hs := (HR.out.1.set hlen l ((typeTo n ((cyclesOf p).take j)).getD l 0 + 1)).1
      rw [typeTo_set hl hln, hcy, ← takeS_succ' hjl] at hs
      have htk : ((cyclesOf p).take j).length ≤ 10 := by rw [List.length_take]; omega
      have HS := Lib.hid (And.intro hs (And.intro (HR.out.2.1.setCell (p := ⟨g, l, none⟩) HG.out (.int .i64 ((typeTo n ((cyclesOf p).take j)).getD l 0 + 1))) (HR.out.2.2.trans (Turned.setCell (k := l) (by have := HGW.out; have := HR.out.2.2.size; omega) (.int .i64 ((typeTo n ((cyclesOf p).take j)).getD l 0 + 1))))))
      obtain ⟨y, hy⟩ : ∃ y, y = (typeTo n ((cyclesOf p).take j)).getD l 0 := ⟨_, rfl⟩
      rw [← hy] at c3 HS hle
      obtain ⟨hy0, hy1⟩ := hle
      have hy2 : y ≤ 10 := by omega
      have HZ := Lib.hid (And.intro hy (And.intro hl hcy))
      clear hy hcy hl hs hlen hc1 cu hcm htk hbg hy1 hjl
      have hl2 : (l : Int) < n := by omega
      go_wp2_with fail
      go_roundw
      case rel => exact ⟨j + 1, by omega, by go_num, HS.out⟩
      case measure => simp [intOf]; omega
    · go_wp2_with fail
      go_ret
      have hL := HNC.out
      obtain rfl : j = nc := by omega
      have ho := HR.out.1
      rw [List.take_of_length_le (by omega)] at ho
      refine ⟨_, rfl, ?_, HR.out.2.1⟩
      rw [HC.out, ← HL.out]
      exact OI.mono (cast_row ho (typeTo_len _ _)) HG.out

set_option maxHeartbeats 800000 in
theorem implCycleType_any {w : World} {a : Value} {p : List Int} (ha : RI w a p) :
    Calls Try.prog 51 #[a] w fun e w' => ∃ v, e = .returned v ∧ OI w' w.heap.size v (cycleType p) ∧ Below w.heap.size w w' := by
  have HA := Lib.hid ha
  obtain ⟨A, c, rfl, -⟩ := ha
  cases hp : permOk p with
  | false =>
    have HC := Lib.hid (cycleType_no hp)
    have HP := Lib.hid hp
    clear hp
    go_enter Try.func51, Try.ntmps51
    go_wp2_with fail
    refine (implPermOk_any HA.out).mono ?_
    rw [HP.out]
    rintro e w1 ⟨rfl, b1⟩
    go_wp2
    go_ret
    exact ⟨_, rfl, by rw [HC.out]; exact World.ownsRow_nil _ _ _ _, b1⟩
  | true =>
  have HP := Lib.hid hp
  have HC := Lib.hid (cycleType_yes hp)
  obtain ⟨n, hn⟩ : ∃ n, n = p.length := ⟨_, rfl⟩
  have hln := permOk_le hp
  rw [← hn] at HA hln ⊢
  obtain ⟨hn1, hn10⟩ := hln
  have HL := Lib.hid hn
  have hmk := run_make_row' (P := Try.prog) 27 3 (.int .i64 0) 8 Try.underlying27 int_info rfl .i64 .i64 n (by omega) (by omega)
  obtain ⟨nc, hnc⟩ : ∃ nc, nc = (cyclesOf p).length := ⟨_, rfl⟩
  have hnc10 : nc ≤ 10 := by have := cyclesOf_len p; omega
  have HNC := Lib.hid hnc
  clear hp hn hnc
  go_enter Try.func51, Try.ntmps51
  go_wp2_with fail
  refine (implPermOk_any HA.out).mono ?_
  rw [HP.out]
  rintro e w1 ⟨rfl, b1⟩
  have HB1 := Lib.hid b1
  clear b1
  go_wp2_with fail
  have h0 := OI.made w1 n (by unfold maxLen; omega)
  have hb0 : Below w.heap.size w (w1.alloc (.cells (madeCells #[.int .i64 0] n) 3)) := HB1.out.alloc HB1.out.size _
  obtain ⟨g, hg⟩ : ∃ g, g = w1.heap.size := ⟨_, rfl⟩
  rw [← hg] at h0 ⊢
  have HG : Hid (w.heap.size ≤ g) := by rw [hg]; exact HB1.out.size
  have HG2 : Hid (g < (w1.alloc (.cells (madeCells #[.int .i64 0] n) 3)).heap.size) := by rw [hg]; show _ < _; simp
  obtain ⟨w2, hw2⟩ : ∃ w2, w2 = w1.alloc (.cells (madeCells #[.int .i64 0] n) 3) := ⟨_, rfl⟩
  rw [← hw2] at h0 hb0 HG2 ⊢
  have H0 := Lib.hid (And.intro h0 hb0)
  clear h0 hb0 hg hmk hw2
  refine (implCyclesOf_any (HA.out.below H0.out.2)).mono ?_
  rintro e w3 ⟨vc, rfl, o3, b3⟩
  have hr3 := o3.reads
  have H3 := Lib.hid (And.intro (OI.step H0.out.1 b3) (And.intro (bstep H0.out.2 b3) hr3))
  obtain ⟨AC, cc, hvc, -, hxc⟩ := hr3
  subst hvc
  rw [← HNC.out] at hxc ⊢
  have HX := Lib.hid hxc
  have HGW : Hid (g < w3.heap.size) := by have := HG2.out; have := b3.size; exact (by omega : g < w3.heap.size)
  have HGO : Hid (∀ b : Nat, w2.heap.size ≤ b → g ≠ b) := fun b hb => by have := HG2.out; omega
  have HO3 := Lib.hid o3
  clear o3 b3 hxc
  go_wp2_with fail
  go_loopw [15] (fun i wr => ∃ j : Nat, j ≤ nc ∧ i = .int .i64 j ∧ Hid (OI wr g (.slice (some ⟨g, 0, none⟩) n n) (typeTo n ((cyclesOf p).take j)) ∧ Below w.heap.size w wr ∧ Turned g (g + 1) w3 wr)) (fun i _ => nc - (intOf i).toNat)
  case atStart => exact ⟨0, Nat.zero_le _, rfl, by rw [List.take_zero, typeTo_nil]; exact H3.out.1, H3.out.2.1, Turned.refl _ _ _⟩
  case round =>
    obtain ⟨j, hj, rfl, HR⟩ := hrel
    by_cases hlt : j < nc
    · have hjl : j < (cyclesOf p).length := by have := HNC.out; omega
      obtain ⟨b1, o1, rfl, hb1, hc1⟩ := HX.out (by omega)
      obtain ⟨u, cu, ru⟩ := hc1 j hlt
      obtain ⟨cy, hcy⟩ : ∃ cy, cy = (cyclesOf p).getD j [] := ⟨_, rfl⟩
      rw [← hcy] at ru
      have hcm := cyclesOf_ne HP.out cy (by rw [hcy]; simp [List.getElem?_eq_getElem hjl])
      obtain ⟨A1, c1', hu, -⟩ := ru
      subst hu
      have hbg : b1 ≠ g := by
        obtain ⟨vs, h1, _⟩ := HO3.out
        have := (h1.lt b1 rfl).1
        exact fun e => HGO.out b1 this e.symm
      have cj := (World.cell?_of_block (w := w3) (w' := wr) (a := ⟨b1, o1 + j, none⟩) (HR.out.2.2.block b1 (by omega))).trans cu
      obtain ⟨l, hl⟩ : ∃ l, cy.length = l + 1 := ⟨cy.length - 1, by omega⟩
      rw [hl] at cj hcm
      have hln : l < n := by have := HL.out; omega
      have hlen := typeTo_len n ((cyclesOf p).take j)
      have hle := typeTo_le n ((cyclesOf p).take j) l
      have c3 := HR.out.1.cell hlen l hln
      have f3 := HR.out.1.frozen hlen l
      have hs := (HR.out.1.set hlen l ((typeTo n ((cyclesOf p).take j)).getD l 0 + 1)).1
      rw [typeTo_set hl hln, hcy, ← takeS_succ' hjl] at hs
      have htk : ((cyclesOf p).take j).length ≤ 10 := by rw [List.length_take]; omega
      have HS := Lib.hid (And.intro hs (And.intro (HR.out.2.1.setCell (p := ⟨g, l, none⟩) HG.out (.int .i64 ((typeTo n ((cyclesOf p).take j)).getD l 0 + 1))) (HR.out.2.2.trans (Turned.setCell (k := l) (by have := HGW.out; have := HR.out.2.2.size; omega) (.int .i64 ((typeTo n ((cyclesOf p).take j)).getD l 0 + 1))))))
      obtain ⟨y, hy⟩ : ∃ y, y = (typeTo n ((cyclesOf p).take j)).getD l 0 := ⟨_, rfl⟩
      rw [← hy] at c3 HS hle
      obtain ⟨hy0, hy1⟩ := hle
      have hy2 : y ≤ 10 := by omega
      have HZ := Lib.hid (And.intro hy (And.intro hl hcy))
      clear hy hcy hl hs hlen hc1 cu hcm htk hbg hy1 hjl
      have hl2 : (l : Int) < n := by omega
      go_wp2_with fail
      go_roundw
      case rel => exact ⟨j + 1, by omega, by go_num, HS.out⟩
      case measure => simp [intOf]; omega
    · go_wp2_with fail
      go_ret
      have hL := HNC.out
      obtain rfl : j = nc := by omega
      have ho := HR.out.1
      rw [List.take_of_length_le (by omega)] at ho
      refine ⟨_, rfl, ?_, HR.out.2.1⟩
      rw [HC.out, ← HL.out]
      exact OI.mono (cast_row ho (typeTo_len _ _)) HG.out
end Go.Proofs.Ytfanohebejemmaa
