/-
  The number of ways, of the reference.
-/
import Derived.Test.YtfanohebejemmaaWaysFn
import Derived.Test.YtfanohebejemmaaGroupOkS
import Derived.Test.YtfanohebejemmaaCyc
import Derived.Test.YtfanohebejemmaaClone
import Derived.Test.YtfanohebejemmaaActFn
namespace Go.Proofs.Ytfanohebejemmaa
open Go.RowKit Go.Deep

theorem OI.storedS {w : World} {lo g n c : Nat} {left : List Int} (h : OI w lo (.slice (some ⟨g, 0, none⟩) n c) left) (hn : n = left.length) (j : Nat) (x : Int) : OI (w.setCell ⟨g, j, none⟩ (.int .i64 x)) lo (.slice (some ⟨g, 0, none⟩) n c) (left.set j x) ∧ Turned g (g + 1) w (w.setCell ⟨g, j, none⟩ (.int .i64 x)) := by
  obtain ⟨h1, h2⟩ := OI.set h hn.symm j x
  exact ⟨h1, Turned.of_grown h2 (by simp [World.setCell]) fun k hk => by cases hk; omega⟩

set_option maxHeartbeats 1600000 in
theorem specFixed_any (gs : List (List Int)) (hx : ∀ x ∈ gs, 1 ≤ x.length ∧ x.length ≤ 10) (hl : gs.length ≤ 10) : ∀ (r : Nat) (w0 w : World) (A : Option Addr) (m cp i : Nat) (v : Value) (left : List Int),
    RII w0 (.slice A m cp) gs → i + r = m → Below w0.heap.size w0 w → RI w v left → Left left →
    Calls Try.prog 89 #[.slice A m cp, .int .i64 i, v] w fun e w' => e = .returned (.int .i64 ((ways ((gs.map List.length).drop i) left : Nat) : Int)) ∧ Below w.heap.size w w' := by
  have HXX := Lib.hid hx
  clear hx
  intro r
  induction r with
  | zero =>
    intro w0 w A m cp i v left ha him hb hv hleft
    have hml : m = gs.length := by obtain ⟨_, _, he, _⟩ := ha; cases he; rfl
    obtain rfl : i = m := by omega
    have HW : Hid (ways ((gs.map List.length).drop i) left = 1) := by rw [Hid, List.drop_of_length_le (by rw [List.length_map]; omega), ways_nil]
    obtain ⟨A2, c2, rfl⟩ := hv.shape
    clear ha hb hleft hml hv
    go_enter Try.func89, Try.ntmps89
    go_wp2
    go_ret
    exact ⟨retI (by rw [HW.out]; rfl), Below.refl _ _⟩
  | succ r ih =>
    intro w0 w A m cp i v left ha him hb hv hleft
    have hml : m = gs.length := by obtain ⟨_, _, he, _⟩ := ha; cases he; rfl
    have HA := Lib.hid ha
    obtain ⟨_, _, he, -, hx0⟩ := ha
    simp only [Value.slice.injEq] at he
    obtain ⟨rfl, -, -⟩ := he
    obtain ⟨b, off, rfl, hbb, hc0⟩ := hx0 (by omega)
    obtain ⟨u, hcu, hru⟩ := hc0 i (by omega)
    have hxi : gs.getD i [] ∈ gs := by simp [List.getElem?_eq_getElem (show i < gs.length by omega)]
    obtain ⟨x, hxe⟩ : ∃ x, x = gs.getD i [] := ⟨_, rfl⟩
    have hks : (gs.map List.length).drop i = x.length :: (gs.map List.length).drop (i + 1) := by
      rw [List.drop_eq_getElem_cons (by rw [List.length_map]; omega), hxe]; simp [List.getElem?_eq_getElem (show i < gs.length by omega)]
    rw [← hxe] at hru hxi
    obtain ⟨A1, c1, rfl⟩ := hru.shape
    obtain ⟨hk1, hk10⟩ := HXX.out x hxi
    obtain ⟨kx, hkx⟩ : ∃ kx, kx = x.length := ⟨_, rfl⟩
    rw [← hkx] at hcu hk1 hk10 hks
    obtain ⟨ks, hkse⟩ : ∃ ks, ks = (gs.map List.length).drop (i + 1) := ⟨_, rfl⟩
    rw [← hkse] at hks
    have HIH := Lib.hid ih
    obtain ⟨A2, c2, rfl⟩ := hv.shape
    obtain ⟨n, hn⟩ : ∃ n, n = left.length := ⟨_, rfl⟩
    rw [← hn] at hv ⊢
    have HW : Hid (ways ((gs.map List.length).drop i) left = waysTo kx ks left n) := by rw [Hid, hks, ways_cons, hn]
    have hks9 : ks.length ≤ 9 := by rw [hkse]; simp; omega
    have HK := Lib.hid hkse
    have HB := Lib.hid hb
    have HLF := Lib.hid hleft
    have hn4 : n ≤ 4 := by rw [hn]; exact hleft.2.1
    have hn1 : 1 ≤ n := by rw [hn]; exact hleft.1
    have HV := Lib.hid hv
    have HN := Lib.hid hn
    have him2 : ((i : Int) == (m : Int)) = false := beq_eq_false_iff_ne.2 (by omega)
    have hilt : i < m := by omega
    have hi1 : i + 1 + r = m := by omega
    have him10 : m ≤ 10 := by omega
    obtain ⟨_, _, hve, -, hvx⟩ := hv
    simp only [Value.slice.injEq] at hve
    obtain ⟨rfl, -, -⟩ := hve
    obtain ⟨bv, ov, rfl, hbv, hcv⟩ := hvx (by omega)
    have HCV := Lib.hid hcv
    clear ih hx0 hc0 hru hkx hks hkse hb hleft hn hml him hxe hxi hcv hvx
    go_enter Try.func89, Try.ntmps89
    go_wp2_with fail
    go_loopw [7, 17] (fun v i wr => ∃ j t : Nat, j ≤ n ∧ i = .int .i64 j ∧ v = .int .i64 t ∧ t ≤ 1048576 ∧ Hid (t = waysTo kx ks left j) ∧ Hid (Below w.heap.size w wr)) (fun _ i _ => n - (intOf i).toNat)
    case atStart => exact ⟨0, 0, Nat.zero_le _, rfl, rfl, by omega, rfl, Below.refl _ _⟩
    case round =>
      obtain ⟨j, t, hj, rfl, rfl, ht, HT2, HR⟩ := hrel
      by_cases hlt : j < n
      · have BW : Hid (Below w0.heap.size w0 wr) := HB.out.trans (HR.out.mono HB.out.size)
        have e1 := (BW.out.cell (p := ⟨b, off + i, none⟩) hbb).trans hcu
        have e2 := (HR.out.cell (p := ⟨bv, ov + j, none⟩) hbv).trans (HCV.out j (by rw [← HN.out]; exact hlt))
        obtain ⟨y, hy⟩ : ∃ y, y = left.getD j 0 := ⟨_, rfl⟩
        have hy10 : 0 ≤ y ∧ y ≤ 10 := by rw [hy]; exact HLF.out.2.2 j (by rw [← HN.out]; exact hlt)
        obtain ⟨hy0, hy10⟩ := hy10
        have HS := Lib.hid (waysTo_succ kx ks left j)
        rw [← hy] at HS e2
        have HY := Lib.hid hy
        clear hy
        by_cases hle : (kx : Int) ≤ y
        · rw [if_pos hle] at HS
          have hle2 : ¬ (y < (kx : Int)) := by omega
          have HW1 := Lib.hid (OI.lit wr)
          have HB1 : Hid (Below wr.heap.size wr (wr.alloc (.cells #[] 3))) := (Below.refl _ _).alloc (Nat.le_refl _) _
          have HC2 : Hid (∀ k, k < n → (wr.alloc (.cells #[] 3)).cell? ⟨bv, ov + k, none⟩ = some (.int .i64 (left.getD k 0))) := fun k hk => ((HR.out.trans (HB1.out.mono HR.out.size)).cell (p := ⟨bv, ov + k, none⟩) hbv).trans (HCV.out k (by rw [← HN.out]; exact hk))
          go_wp2_with (at_builtin; refine wpList_appInts _ rfl (.tmp 29) (.tmp 30) rfl wr.heap.size _ [] left rfl rfl HN.out HC2.out HW1.out (by rw [← HN.out]; simp; omega) HB1.out.size ?_; intro v2 w2 o2' b2'; intro _; have o2 : OI w2 wr.heap.size v2 left := o2'; have b2 := HB1.out.trans b2'; have BW2 := Lib.hid b2; have B2 := Lib.hid (bstep HR.out b2); have e1 := (Below.cell (HB.out.trans (B2.out.mono HB.out.size)) (p := ⟨b, off + i, none⟩) hbb).trans hcu; obtain ⟨A4, c4, rfl, hA4⟩ := OI.form o2; obtain ⟨g, rfl, hg1, hg2⟩ := hA4 (by have := HN.out; omega); rw [← HN.out] at o2 ⊢; have f2 := o2.frozen HN.out.symm j; have e3 := o2.cell HN.out.symm j hlt; have O2 := Lib.hid o2; clear o2 b2 b2' o2' hA4)
          have hst := OI.storedS O2.out HN.out j (y - (kx : Int))
          obtain ⟨w3, hw3⟩ : ∃ w3, w3 = w2.setCell ⟨g, j, none⟩ (.int .i64 (y - (kx : Int))) := ⟨_, rfl⟩
          rw [← hw3] at hst ⊢
          have B3 : Hid (Below w.heap.size w w3) := bstep HR.out (BW2.out.trans (hst.2.below hg1))
          have O3 := Lib.hid hst.1
          clear hst hw3 f2 e3
          have HL2 : Hid (Left (left.set j (y - (kx : Int)))) := HLF.out.set (by rw [← HN.out]; exact hlt) (by omega) (by omega)
          refine (HIH.out w0 w3 (some ⟨b, off, none⟩) m cp (i + 1) _ _ HA.out (by omega) (HB.out.trans (B3.out.mono HB.out.size)) O3.out.reads HL2.out).mono ?_
          rw [← HK.out]
          obtain ⟨z, hz⟩ : ∃ z, z = ways ks (left.set j (y - (kx : Int))) := ⟨_, rfl⟩
          rw [← hz] at HS ⊢
          rintro e w4 ⟨rfl, b4⟩
          have B4 := Lib.hid (bstep B3.out b4)
          have hzt : t + z ≤ 1048576 := by
            have h1 := waysTo_le (k := kx) (ks := ks) (left := left) (j := j + 1) (by rw [← HN.out]; exact hn4) (by omega) hks9
            rw [HS.out, ← HT2.out] at h1; exact h1
          have HZ : Hid (t + z = waysTo kx ks left (j + 1)) := by rw [Hid, HS.out, HT2.out]
          clear b4 hz HS
          go_wp2_with fail
          go_roundw
          case rel => exact ⟨j + 1, t + z, by omega, by go_num, by go_num, hzt, HZ.out, B4.out⟩
          case measure => simp [intOf]; omega
        · rw [if_neg hle, Nat.add_zero, ← HT2.out] at HS
          have hle2 : y < (kx : Int) := by omega
          have HN2 := Lib.hid HS.out.symm
          clear HS hle
          go_wp2_with fail
          go_roundw
          case rel => exact ⟨j + 1, t, by omega, by go_num, rfl, ht, HN2.out, HR.out⟩
          case measure => simp [intOf]; omega
      · go_wp2_with fail
        go_ret
        obtain rfl : j = n := by omega
        exact ⟨retI (by rw [HW.out, HT2.out]), HR.out⟩
end Go.Proofs.Ytfanohebejemmaa
