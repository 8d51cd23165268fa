/-
  SubsetAction and PairAction, of the program and of the reference.
-/
import Derived.Test.YtogenfooeplkmaaSubAFn
import Derived.Test.YtogenfooeplkmaaSubI
import Derived.Test.YtogenfooeplkmaaIndexOf
import Derived.Test.YtogenfooeplkmaaPermOk
import Derived.Test.YtogenfooeplkmaaCyc
namespace Go.Proofs.Ytogenfooeplkmaa
open Go.RowKit Go.Deep

/-- What moved asks of its lists. -/
structure Lists (ls : List (List Int)) (p : List Int) : Prop where
  perm : permOk p = true
  asc : Asc ls
  le : ls.length ≤ 10
  row : ∀ l ∈ ls, l.length ≤ 10 ∧ ∀ x ∈ l, 0 ≤ x ∧ x < (p.length : Int)
theorem lists_subs {p : List Int} {k : Nat} (hp : permOk p = true) (hn : p.length ≤ 5) (hk : k ≤ p.length) : Lists (subs k 0 p.length) p :=
  ⟨hp, subs_asc hn hk, (subs_len hn hk).2, fun l hl => by
    obtain ⟨h1, h2, h3⟩ := (mem_subs _ _ _ _).1 hl
    exact ⟨by omega, fun x hx => by have := h3 x hx; omega⟩⟩
/-- A row of the call's own that is not nil. -/
def OS (w : World) (lo : Nat) (v : Value) (xs : List Int) : Prop := ∃ g c, v = .slice (some ⟨g, 0, none⟩) xs.length c ∧ OI w lo v xs
theorem OS.lit (w : World) : OS (w.alloc (.cells #[] 3)) w.heap.size (.slice (some ⟨w.heap.size, 0, none⟩) 0 0) [] := ⟨_, _, rfl, OI.lit w⟩
theorem OS.of {w : World} {lo : Nat} {v : Value} {xs : List Int} {x : Int} (h : OI w lo v (xs ++ [x])) : OS w lo v (xs ++ [x]) := by
  obtain ⟨A, c, e, h2⟩ := OI.form h
  obtain ⟨g, rfl, -⟩ := h2 (by simp)
  exact ⟨g, c, e, h⟩

set_option maxHeartbeats 3200000 in
theorem moved_any {w : World} {a b : Value} {ls : List (List Int)} {p : List Int} (ha : RII w a ls) (hb : RI w b p) (hl : Lists ls p) :
    Calls Try.prog 83 #[a, b] w fun e w' => ∃ v, e = .returned v ∧ OI w' w.heap.size v (movedL ls p) ∧ Below w.heap.size w w' := by
  have HA := Lib.hid ha
  have HLS := Lib.hid hl
  obtain ⟨A, c, rfl, -, hx⟩ := ha
  obtain ⟨B, d, rfl, -, hy⟩ := hb
  obtain ⟨n, hn⟩ : ∃ n, n = ls.length := ⟨_, rfl⟩
  obtain ⟨m, hm⟩ : ∃ m, m = p.length := ⟨_, rfl⟩
  have hn10 : n ≤ 10 := by have := hl.le; omega
  have hm10 : m ≤ 10 := by have := permOk_le hl.perm; omega
  rw [← hn] at hx HA ⊢
  rw [← hm] at hy ⊢
  have HN := Lib.hid hn
  have HM := Lib.hid hm
  have HX := Lib.hid hx
  have HY := Lib.hid hy
  clear hn hm hx hy hl
  go_enter Try.func83, Try.ntmps83
  go_wp2_with fail
  have H0 : Hid (OI (w.alloc (.cells #[] 3)) w.heap.size (.slice (some ⟨w.heap.size, 0, none⟩) 0 0) ((movedL ls p).take 0) ∧ Below w.heap.size w (w.alloc (.cells #[] 3))) := ⟨OI.lit w, (Below.refl _ _).alloc (Nat.le_refl _) _⟩
  go_loopw [5, 14] (fun v i wr => ∃ k : Nat, k ≤ n ∧ i = .int .i64 k ∧ Hid (OI wr w.heap.size v ((movedL ls p).take k) ∧ Below w.heap.size w wr)) (fun _ i _ => n - (intOf i).toNat)
  case atStart => exact ⟨0, Nat.zero_le _, rfl, H0.out⟩
  case round =>
    obtain ⟨k, hk, rfl, HR⟩ := hrel
    obtain ⟨done, hdone⟩ : ∃ done, done = (movedL ls p).take k := ⟨_, rfl⟩
    have hdl : done.length = k := by rw [hdone, List.length_take, movedL_len]; have := HN.out; omega
    rw [← hdone] at HR
    obtain ⟨A5, c5, rfl, -⟩ := OI.form HR.out.1
    rw [hdl] at HR ⊢
    have HDL := Lib.hid hdl
    by_cases hlt : k < n
    · obtain ⟨b1, o1, rfl, hb1, hc1⟩ := HX.out (by omega)
      obtain ⟨A1, c1, cc1, rr1⟩ := RII.at hc1 (k := k) hlt
      have hkl : k < ls.length := by have := HN.out; omega
      obtain ⟨l, hl⟩ : ∃ l, l = ls.getD k [] := ⟨_, rfl⟩
      have hmem : l ∈ ls := by rw [hl]; exact getD_memS hkl
      have HROW := Lib.hid (HLS.out.row l hmem)
      have HT : Hid ((movedL ls p).take (k + 1) = done ++ [findIdx ls (imgL p l)]) := by rw [Hid, movedL_take hkl, ← hdone, ← hl]
      have e1 := (HR.out.2.cell (p := ⟨b1, o1 + k, none⟩) hb1).trans cc1
      rw [← hl] at e1 rr1
      obtain ⟨L, hL⟩ : ∃ L, L = l.length := ⟨_, rfl⟩
      have hL10 : L ≤ 10 := by have := HROW.out.1; omega
      rw [← hL] at e1 rr1
      obtain ⟨AA, cA, hv, -, hq⟩ := rr1
      simp only [Value.slice.injEq] at hv
      obtain ⟨rfl, -, rfl⟩ := hv
      have HQ := Lib.hid hq
      have HLL := Lib.hid hL
      clear cc1 hl hmem hdone hdl hc1 hq hL hkl
      have HI0 : Hid (OS (wr.alloc (.cells #[] 3)) wr.heap.size (.slice (some ⟨wr.heap.size, 0, none⟩) 0 0) ((l.take 0).map fun a => p.getD a.toNat 0) ∧ Below wr.heap.size wr (wr.alloc (.cells #[] 3))) := ⟨OS.lit wr, (Below.refl _ _).alloc (Nat.le_refl _) _⟩
      go_wp2_with fail
      obtain ⟨wo, hwo⟩ : ∃ wo : World, wo = wr := ⟨_, rfl⟩
      subst hwo
      clear e1
      go_loopw [8, 21] (fun v i wi => ∃ j : Nat, j ≤ L ∧ i = .int .i64 j ∧ Hid (OS wi wo.heap.size v ((l.take j).map fun a => p.getD a.toNat 0) ∧ Below wo.heap.size wo wi)) (fun _ i _ => L - (intOf i).toNat)
      case atStart => exact ⟨0, Nat.zero_le _, rfl, HI0.out⟩
      case round =>
        obtain ⟨j, hj, rfl, HI⟩ := hrel
        obtain ⟨g8, c8, hv8, -⟩ := HI.out.1
        have hjj : ((l.take j).map fun a => p.getD a.toNat 0).length = j := by rw [List.length_map, List.length_take]; have := HLL.out; omega
        obtain ⟨ys, hys⟩ : ∃ ys, ys = (l.take j).map fun a => p.getD a.toNat 0 := ⟨_, rfl⟩
        rw [← hys] at HI hv8 hjj
        rw [hjj] at hv8
        subst hv8
        have HJJ := Lib.hid hjj
        have HB2 : Hid (Below w.heap.size w wr) := bstep HR.out.2 HI.out.2
        by_cases hjL : j < L
        · obtain ⟨b2, o2, rfl, hb2, hc2⟩ := HQ.out (by have := HLL.out; omega)
          have hjl : j < l.length := by have := HLL.out; omega
          have e2 := (HB2.out.cell (p := ⟨b2, o2 + j, none⟩) hb2).trans (hc2 j hjl)
          have hr := HROW.out.2 (l.getD j 0) (getD_mem hjl)
          have htk : l.take (j + 1) = l.take j ++ [l.getD j 0] := take_succ_getD hjl
          obtain ⟨x, hx⟩ : ∃ x, x = l.getD j 0 := ⟨_, rfl⟩
          rw [← hx] at e2 hr htk
          obtain ⟨q, rfl⟩ := Int.eq_ofNat_of_zero_le hr.1
          have hqm : q < m := by have := HM.out; omega
          obtain ⟨b3, o3, rfl, hb3, hc3⟩ := HY.out (by omega)
          have e3 := (HB2.out.cell (p := ⟨b3, o3 + q, none⟩) hb3).trans (hc3 q hqm)
          obtain ⟨y, hy⟩ : ∃ y, y = p.getD q 0 := ⟨_, rfl⟩
          rw [← hy] at e3
          have HNX : Hid (((l.take (j + 1)).map fun a => p.getD a.toNat 0) = ys ++ [y]) := by
            rw [Hid, htk, List.map_append, ← hys, List.map_cons, List.map_nil, Int.toNat_natCast, ← hy]
          clear hx hc2 hc3 hr htk hys hjl hy hjj
          go_wp2_with (at_builtin; refine wpList_appInt _ rfl (.tmp 25) (.tmp 30) rfl wo.heap.size _ ys y rfl rfl rfl (by have h := HI.out.1; obtain ⟨g, c, e, h⟩ := h; exact h) (by have := HJJ.out; omega) HI.out.2.size ?_; intro v1 w1 ho hb1' _)
          have HN1 : Hid (OS w1 wo.heap.size v1 ((l.take (j + 1)).map fun a => p.getD a.toNat 0) ∧ Below wo.heap.size wo w1) := ⟨by rw [HNX.out]; exact OS.of ho, HI.out.2.trans hb1'⟩
          clear ho hb1' e2 e3
          go_wp2_with fail
          go_roundw
          case rel => exact ⟨j + 1, by omega, by go_num, HN1.out⟩
          case measure => simp [intOf]; omega
        · have hoi : OI wr wo.heap.size (.slice (some ⟨g8, 0, none⟩) j c8) ys := by have h := HI.out.1; obtain ⟨g, c, e, h⟩ := h; exact h
          have hyl : sortI ys = imgL p l := by
            unfold imgL
            rw [hys, List.take_of_length_le (by have := HLL.out; omega)]
          have HO := Lib.hid hoi
          have HYL := Lib.hid hyl
          clear hys hoi hyl hjj
          go_wp2_with fail
          refine (sortInts_any HO.out HJJ.out (by have := HJJ.out; omega)).mono ?_
          rw [HYL.out]
          rintro e w3 ⟨rfl, o3, g3⟩
          have hgl := HO.out.lt g8 rfl
          have hO5 := HR.out.1
          have h5 : OI w3 w.heap.size (.slice A5 k c5) done := OI.kept (OI.step hO5 HI.out.2) g3 (.inr fun e => by
            have := (hO5.lt g8 e).2
            omega)
          have HF := Lib.hid (And.intro h5 (And.intro o3 (HB2.out.grown g3 HB2.out.size (fun g hg => by cases hg; have := HR.out.2.size; omega))))
          clear o3 g3 h5 hO5
          obtain ⟨z, hz⟩ : ∃ z, z = findIdx ls (imgL p l) := ⟨_, rfl⟩
          have HZ := Lib.hid hz
          clear hz
          go_wp2_with fail
          refine (indexOf_any (HA.out.below HF.out.2.2) HF.out.2.1.reads HLS.out.asc (by have := HLS.out.le; omega)).mono ?_
          rw [← HZ.out]
          rintro e w4 ⟨rfl, rfl⟩
          go_wp2_with (at_builtin; refine wpList_appInt _ rfl (.tmp 35) (.tmp 39) rfl w.heap.size _ done z rfl rfl rfl HF.out.1 (by have := HDL.out; omega) HF.out.2.2.size ?_; intro v5 w5 ho5 hb5 _)
          have HN5 : Hid (OI w5 w.heap.size v5 ((movedL ls p).take (k + 1)) ∧ Below w.heap.size w w5) := ⟨by rw [HT.out, ← HZ.out]; exact ho5, HF.out.2.2.trans hb5⟩
          clear ho5 hb5
          go_wp2_with fail
          go_roundw
          case rel => exact ⟨k + 1, by omega, by go_num, HN5.out⟩
          case measure => simp [intOf]; omega
    · have HF : Hid (OI wr w.heap.size (.slice A5 k c5) (movedL ls p) ∧ Below w.heap.size w wr) := by
        rw [List.take_of_length_le (by rw [movedL_len]; have := HN.out; omega)] at hdone
        rw [← hdone]; exact HR.out
      clear hdone hdl
      go_wp2_with fail
      go_ret
      exact ⟨_, rfl, HF.out⟩
end Go.Proofs.Ytogenfooeplkmaa
