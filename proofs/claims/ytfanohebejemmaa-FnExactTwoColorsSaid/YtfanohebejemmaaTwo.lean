/-
  TwoColors, of the program and of the reference.
-/
import Derived.Test.YtfanohebejemmaaCount
namespace Go.Proofs.Ytfanohebejemmaa
open Go.RowKit Go.Deep

set_option maxHeartbeats 1600000 in
theorem implTwoColors_any {w : World} {a : Value} {gs : List (List Int)} (ha : RII w a gs) :
    Calls Try.prog 41 #[a] w fun e w' => ∃ v, e = .returned v ∧ OI w' w.heap.size v (twoColors gs) ∧ Below w.heap.size w w' := by
  have HA := Lib.hid ha
  obtain ⟨A, c, rfl, -, hx⟩ := ha
  cases hg : groupOk gs with
  | false =>
    have HC := Lib.hid (twoColors_bad hg)
    have HG := Lib.hid hg
    clear hg hx
    have h0 := OI.lit w
    have b0 : Below w.heap.size w (w.alloc (.cells #[] 3)) := (Below.refl _ _).alloc (Nat.le_refl _) _
    have H0 := Lib.hid (And.intro h0 b0)
    clear h0 b0
    go_enter Try.func41, Try.ntmps41
    go_wp2_with fail
    refine (implGroupOk_any (HA.out.below H0.out.2)).mono ?_
    rw [HG.out]
    rintro e w1 ⟨rfl, b1⟩
    go_wp2
    go_ret
    exact ⟨_, rfl, by rw [HC.out]; exact OI.step H0.out.1 b1, bstep H0.out.2 b1⟩
  | true =>
  have HG := Lib.hid hg
  have HGR := Lib.hid (grp_of hg)
  obtain ⟨n, hn⟩ : ∃ n, n = gs.length := ⟨_, rfl⟩
  have h1 : 1 ≤ n := by have := HGR.out.one; omega
  have h2 : n ≤ 120 := by have := HGR.out.le; omega
  rw [← hn] at hx HA ⊢
  have HL := Lib.hid hn
  have HX := Lib.hid hx
  have HC := Lib.hid (twoColors_ok hg)
  obtain ⟨b1, o1, rfl, hb1, hc1⟩ := HX.out (by omega)
  obtain ⟨A0, c0, cc0, rr0⟩ := RII.at hc1 (k := 0) (by omega)
  obtain ⟨d, hd⟩ : ∃ d, d = (gs.getD 0 []).length := ⟨_, rfl⟩
  have hd' : d = deg gs := hd
  have hdr := HGR.out.deg_le
  rw [← hd'] at hdr
  rw [← hd] at cc0
  simp only [Nat.add_zero] at cc0
  have HD := Lib.hid hd'
  clear rr0 hd hd' hg hn hx hc1
  have h0 := OI.lit w
  have b0 : Below w.heap.size w (w.alloc (.cells #[] 3)) := (Below.refl _ _).alloc (Nat.le_refl _) _
  have H0 := Lib.hid (And.intro h0 b0)
  clear h0 b0
  go_enter Try.func41, Try.ntmps41
  go_wp2_with fail
  refine (implGroupOk_any (HA.out.below H0.out.2)).mono ?_
  rw [HG.out]
  rintro e w1 ⟨rfl, b⟩
  have HS : Hid (OI w1 w.heap.size (.slice (some ⟨w.heap.size, 0, none⟩) 0 0) (twoTo gs 0) ∧ Below w.heap.size w w1) := ⟨OI.step H0.out.1 b, bstep H0.out.2 b⟩
  have e0 := (HS.out.2.cell (p := ⟨b1, o1, none⟩) hb1).trans cc0
  clear b
  go_wp2_with fail
  clear e0
  go_loopw [3, 15] (fun v i wr => ∃ k : Nat, k ≤ d + 1 ∧ i = .int .i64 k ∧ Hid (OI wr w.heap.size v (twoTo gs k) ∧ Below w.heap.size w wr)) (fun _ i _ => d + 1 - (intOf i).toNat)
  case atStart => exact ⟨0, Nat.zero_le _, rfl, HS.out⟩
  case round =>
    obtain ⟨k, hk, rfl, HR⟩ := hrel
    obtain ⟨A3, c3, rfl, -⟩ := OI.form HR.out.1
    by_cases hlt : k < d + 1
    · have e1 := (HR.out.2.cell (p := ⟨b1, o1, none⟩) hb1).trans cc0
      have hlit := World.ownsRow_lit (base := wr.heap.size) (e := 3) (size := 1) wr #[.int .i64 ((d : Int) - (k : Int)), .int .i64 (k : Int)] 2 (Nat.le_refl _) (by unfold maxLen; omega) rfl
      have bl : Below wr.heap.size wr (wr.alloc (.cells #[.int .i64 ((d : Int) - (k : Int)), .int .i64 (k : Int)] 3)) := (Below.refl _ _).alloc (Nat.le_refl _) _
      have HLI : Hid (OI (wr.alloc (.cells #[.int .i64 ((d : Int) - (k : Int)), .int .i64 (k : Int)] 3)) wr.heap.size (.slice (some ⟨wr.heap.size, 0, none⟩) 2 2) [(d : Int) - (k : Int), (k : Int)]) := hlit
      have HR2 : Hid (OI (wr.alloc (.cells #[.int .i64 ((d : Int) - (k : Int)), .int .i64 (k : Int)] 3)) w.heap.size (.slice A3 (twoTo gs k).length c3) (twoTo gs k) ∧ Below w.heap.size w (wr.alloc (.cells #[.int .i64 ((d : Int) - (k : Int)), .int .i64 (k : Int)] 3))) := ⟨OI.step HR.out.1 bl, bstep HR.out.2 bl⟩
      have HT := Lib.hid (twoTo_succ gs k)
      have HA2 : Hid (countContents gs [(d : Int) - (k : Int), (k : Int)] = twoAt gs k) := by rw [HD.out]; rfl
      obtain ⟨z, hz⟩ : ∃ z, z = twoAt gs k := ⟨_, rfl⟩
      rw [← hz] at HA2 HT
      clear hlit bl hz
      go_wp2_with fail
      refine (implCountContents_any (HA.out.below HR2.out.2) HLI.out.reads).mono ?_
      rw [HA2.out]
      rintro e w2 ⟨rfl, b⟩
      have H2 := Lib.hid (And.intro (OI.step HR2.out.1 b) (bstep HR2.out.2 b))
      clear b e1
      go_wp2_with (at_builtin; refine wpList_appInt _ rfl (.tmp 18) (.tmp 29) rfl w.heap.size _ (twoTo gs k) z rfl rfl rfl H2.out.1 (by rw [twoTo_len]; omega) H2.out.2.size ?_; intro v3 w3 ho hb _)
      have HN : Hid (OI w3 w.heap.size v3 (twoTo gs (k + 1)) ∧ Below w.heap.size w w3) := by rw [HT.out]; exact ⟨ho, H2.out.2.trans hb⟩
      clear ho hb
      go_wp2_with fail
      go_roundw
      case rel => exact ⟨k + 1, by omega, by go_num, HN.out⟩
      case measure => simp [intOf]; omega
    · go_wp2_with fail
      go_ret
      obtain rfl : k = d + 1 := by omega
      exact ⟨_, rfl, by rw [HC.out, ← HD.out]; exact HR.out.1, HR.out.2⟩

set_option maxHeartbeats 1600000 in
theorem specTwoColors_any {w : World} {a : Value} {gs : List (List Int)} (ha : RII w a gs) :
    Calls Try.prog 40 #[a] w fun e w' => ∃ v, e = .returned v ∧ OI w' w.heap.size v (twoColors gs) ∧ Below w.heap.size w w' := by
  have HA := Lib.hid ha
  obtain ⟨A, c, rfl, -, hx⟩ := ha
  cases hg : groupOk gs with
  | false =>
    have HC := Lib.hid (twoColors_bad hg)
    have HG := Lib.hid hg
    clear hg hx
    go_enter Try.func40, Try.ntmps40
    go_wp2_with fail
    refine (specGroupOk_any HA.out).mono ?_
    rw [HG.out]
    rintro e w1 ⟨rfl, b1⟩
    go_wp2
    go_ret
    exact ⟨_, rfl, by rw [HC.out]; exact World.ownsRow_nil _ _ _ _, b1⟩
  | true =>
  have HG := Lib.hid hg
  have HGR := Lib.hid (grp_of hg)
  obtain ⟨n, hn⟩ : ∃ n, n = gs.length := ⟨_, rfl⟩
  have h1 : 1 ≤ n := by have := HGR.out.one; omega
  have h2 : n ≤ 120 := by have := HGR.out.le; omega
  rw [← hn] at hx HA ⊢
  have HL := Lib.hid hn
  have HX := Lib.hid hx
  have HC := Lib.hid (twoColors_ok hg)
  obtain ⟨b1, o1, rfl, hb1, hc1⟩ := HX.out (by omega)
  obtain ⟨A0, c0, cc0, rr0⟩ := RII.at hc1 (k := 0) (by omega)
  obtain ⟨d, hd⟩ : ∃ d, d = (gs.getD 0 []).length := ⟨_, rfl⟩
  have hd' : d = deg gs := hd
  have hdr := HGR.out.deg_le
  rw [← hd'] at hdr
  rw [← hd] at cc0
  simp only [Nat.add_zero] at cc0
  have HD := Lib.hid hd'
  clear rr0 hd hd' hg hn hx hc1
  go_enter Try.func40, Try.ntmps40
  go_wp2_with fail
  refine (specGroupOk_any HA.out).mono ?_
  rw [HG.out]
  rintro e w1 ⟨rfl, b⟩
  have HS : Hid (OI (w1.alloc (.cells #[] 3)) w.heap.size (.slice (some ⟨w1.heap.size, 0, none⟩) 0 0) (twoTo gs 0) ∧ Below w.heap.size w (w1.alloc (.cells #[] 3))) := ⟨OI.mono (OI.lit w1) b.size, b.alloc b.size _⟩
  have e0 := (HS.out.2.cell (p := ⟨b1, o1, none⟩) hb1).trans cc0
  clear b
  go_wp2_with fail
  clear e0
  go_loopw [3, 5] (fun v i wr => ∃ k : Nat, k ≤ d + 1 ∧ i = .int .i64 k ∧ Hid (OI wr w.heap.size v (twoTo gs k) ∧ Below w.heap.size w wr)) (fun _ i _ => d + 1 - (intOf i).toNat)
  case atStart => exact ⟨0, Nat.zero_le _, rfl, HS.out⟩
  case round =>
    obtain ⟨k, hk, rfl, HR⟩ := hrel
    obtain ⟨A3, c3, rfl, -⟩ := OI.form HR.out.1
    by_cases hlt : k < d + 1
    · have e1 := (HR.out.2.cell (p := ⟨b1, o1, none⟩) hb1).trans cc0
      have hlit := World.ownsRow_lit (base := wr.heap.size) (e := 3) (size := 1) wr #[.int .i64 ((d : Int) - (k : Int)), .int .i64 (k : Int)] 2 (Nat.le_refl _) (by unfold maxLen; omega) rfl
      have bl : Below wr.heap.size wr (wr.alloc (.cells #[.int .i64 ((d : Int) - (k : Int)), .int .i64 (k : Int)] 3)) := (Below.refl _ _).alloc (Nat.le_refl _) _
      have HLI : Hid (OI (wr.alloc (.cells #[.int .i64 ((d : Int) - (k : Int)), .int .i64 (k : Int)] 3)) wr.heap.size (.slice (some ⟨wr.heap.size, 0, none⟩) 2 2) [(d : Int) - (k : Int), (k : Int)]) := hlit
      have HR2 : Hid (OI (wr.alloc (.cells #[.int .i64 ((d : Int) - (k : Int)), .int .i64 (k : Int)] 3)) w.heap.size (.slice A3 (twoTo gs k).length c3) (twoTo gs k) ∧ Below w.heap.size w (wr.alloc (.cells #[.int .i64 ((d : Int) - (k : Int)), .int .i64 (k : Int)] 3))) := ⟨OI.step HR.out.1 bl, bstep HR.out.2 bl⟩
      have HT := Lib.hid (twoTo_succ gs k)
      have HA2 : Hid (countContents gs [(d : Int) - (k : Int), (k : Int)] = twoAt gs k) := by rw [HD.out]; rfl
      obtain ⟨z, hz⟩ : ∃ z, z = twoAt gs k := ⟨_, rfl⟩
      rw [← hz] at HA2 HT
      clear hlit bl hz
      go_wp2_with fail
      refine (specCountContents_any (HA.out.below HR2.out.2) HLI.out.reads).mono ?_
      rw [HA2.out]
      rintro e w2 ⟨rfl, b⟩
      have H2 := Lib.hid (And.intro (OI.step HR2.out.1 b) (bstep HR2.out.2 b))
      clear b e1
      go_wp2_with (at_builtin; refine wpList_appInt _ rfl (.tmp 19) (.tmp 27) rfl w.heap.size _ (twoTo gs k) z rfl rfl rfl H2.out.1 (by rw [twoTo_len]; omega) H2.out.2.size ?_; intro v3 w3 ho hb _)
      have HN : Hid (OI w3 w.heap.size v3 (twoTo gs (k + 1)) ∧ Below w.heap.size w w3) := by rw [HT.out]; exact ⟨ho, H2.out.2.trans hb⟩
      clear ho hb
      go_wp2_with fail
      go_roundw
      case rel => exact ⟨k + 1, by omega, by go_num, HN.out⟩
      case measure => simp [intOf]; omega
    · go_wp2_with fail
      go_ret
      obtain rfl : k = d + 1 := by omega
      exact ⟨_, rfl, by rw [HC.out, ← HD.out]; exact HR.out.1, HR.out.2⟩
end Go.Proofs.Ytfanohebejemmaa
