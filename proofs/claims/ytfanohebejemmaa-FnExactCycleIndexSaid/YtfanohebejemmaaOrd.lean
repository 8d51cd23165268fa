/-
  Comparing lists and searching in an ascending list of lists, of the library, the program and the reference.
-/
import Derived.Test.YtfanohebejemmaaOrdFn
import Derived.Test.YtfanohebejemmaaMem2
import Derived.Test.YtfanohebejemmaaSame
namespace Go.Proofs.Ytfanohebejemmaa
open Go.RowKit Go.Deep

def cmpI (x y : Int) : Int := if x < y then -1 else if y < x then 1 else 0

theorem cmpCompare_any (x y : Int) (w : World) : Calls Try.prog 84 #[.int .i64 x, .int .i64 y] w fun e w' => e = .returned (.int .i64 (cmpI x y)) ∧ w = w' := by
  have hx : (x != x) = false := by simp
  have hy : (y != y) = false := by simp
  by_cases h1 : x < y
  · have HE : Hid (cmpI x y = -1) := by unfold cmpI Hid; rw [if_pos h1]
    go_enter Try.func84, Try.ntmps84
    go_wp2
    go_ret
    exact ⟨retI HE.out.symm, rfl⟩
  · by_cases h2 : y < x
    · have HE : Hid (cmpI x y = 1) := by unfold cmpI Hid; rw [if_neg h1, if_pos h2]
      go_enter Try.func84, Try.ntmps84
      go_wp2
      go_ret
      exact ⟨retI HE.out.symm, rfl⟩
    · have HE : Hid (cmpI x y = 0) := by unfold cmpI Hid; rw [if_neg h1, if_neg h2]
      go_enter Try.func84, Try.ntmps84
      go_wp2
      go_ret
      exact ⟨retI HE.out.symm, rfl⟩

set_option maxHeartbeats 800000 in
theorem slicesCompare_any {w : World} {a b : Value} {xs ys : List Int} (ha : RI w a xs) (hb : RI w b ys) :
    Calls Try.prog 59 #[a, b] w fun e w' => e = .returned (.int .i64 (cmpL xs ys)) ∧ w = w' := by
  have hlx := ha.lenle
  have hly := hb.lenle
  obtain ⟨A, c, rfl, -, hx⟩ := ha
  obtain ⟨B, d, rfl, -, hy⟩ := hb
  obtain ⟨n, hn⟩ : ∃ n, n = xs.length := ⟨_, rfl⟩
  obtain ⟨m, hm⟩ : ∃ m, m = ys.length := ⟨_, rfl⟩
  rw [← hn] at hx hlx ⊢
  rw [← hm] at hy hly ⊢
  have HL := Lib.hid (And.intro hn hm)
  have HX := Lib.hid hx
  have HY := Lib.hid hy
  clear hn hm hx hy
  go_enter Try.func59, Try.ntmps59
  go_wp2
  go_loop [11] (fun i => ∃ k : Nat, k ≤ n ∧ k ≤ m ∧ i = .int .i64 k ∧ Hid (xs.take k = ys.take k)) (fun i => n - (intOf i).toNat)
  case atStart => exact ⟨0, Nat.zero_le _, Nat.zero_le _, rfl, by simp [Hid]⟩
  case round =>
    obtain ⟨k, hk, hkm, rfl, HT⟩ := hrel
    by_cases hlt : k < n
    · by_cases hltm : k < m
      · obtain ⟨b1, o1, rfl, hb1, hc1⟩ := HX.out (by omega)
        obtain ⟨b2, o2, rfl, hb2, hc2⟩ := HY.out (by omega)
        have c1 := hc1 k hlt
        have c2 := hc2 k hltm
        generalize hx : xs.getD k 0 = x at c1
        generalize hy : ys.getD k 0 = y at c2
        have HE : Hid (xs.getD k 0 = x ∧ ys.getD k 0 = y) := ⟨hx, hy⟩
        clear hc1 hc2 hx hy
        by_cases he : x = y
        · have HI : Hid (cmpI x y = 0) := by subst he; unfold cmpI Hid; rw [if_neg (by omega), if_neg (by omega)]
          have HE2 := Lib.hid he
          clear he
          go_wp2_with fail
          refine (cmpCompare_any x y _).mono ?_
          rw [HI.out]
          rintro e w' ⟨rfl, rfl⟩
          go_wp2
          go_round
          case rel => exact ⟨k + 1, by omega, by omega, by go_num, by
            have hL := HL.out
            show xs.take (k + 1) = ys.take (k + 1)
            rw [take_succ_getD (by omega), take_succ_getD (by omega), HT.out, HE.out.1, HE.out.2, HE2.out]⟩
          case measure => simp [intOf]; omega
        · have HI : Hid (cmpL xs ys = cmpI x y) := by
            have hL := HL.out
            rw [Hid, cmpL_diff (k := k) (by omega) (by omega) HT.out (by rw [HE.out.1, HE.out.2]; exact he), HE.out.1, HE.out.2]
            unfold cmpI
            by_cases h1 : x < y
            · rw [if_pos h1, if_pos h1]
            · rw [if_neg h1, if_neg h1, if_pos (by omega)]
          have hz : (cmpI x y != 0) = true := by
            unfold cmpI
            by_cases h1 : x < y
            · rw [if_pos h1]; rfl
            · rw [if_neg h1, if_pos (by omega)]; rfl
          obtain ⟨z, hzz⟩ : ∃ z, z = cmpI x y := ⟨_, rfl⟩
          rw [← hzz] at HI hz
          have HZ := Lib.hid hzz
          clear hzz he
          go_wp2_with fail
          refine (cmpCompare_any x y _).mono ?_
          rw [← HZ.out]
          rintro e w' ⟨rfl, rfl⟩
          go_wp2
          go_ret
          exact ⟨retI HI.out.symm, rfl⟩
      · have HI : Hid (cmpL xs ys = 1) := by
          have hL := HL.out
          have hT := HT.out
          rw [List.take_of_length_le (l := ys) (by omega)] at hT
          exact cmpL_longer (by omega) (by rw [← hT]; congr 1; rw [hT]; omega)
        obtain ⟨b1, o1, rfl, hb1, hc1⟩ := HX.out (by omega)
        have c1 := hc1 k hlt
        clear hc1
        go_wp2
        go_ret
        exact ⟨retI HI.out.symm, rfl⟩
    · have hP : xs.length ≤ ys.length ∧ xs = ys.take xs.length := by
        have hL := HL.out
        have hT := HT.out
        rw [List.take_of_length_le (l := xs) (by omega)] at hT
        refine ⟨by omega, ?_⟩
        rw [show xs.length = k by omega]; exact hT
      by_cases hnm : n < m
      · have HI : Hid (cmpL xs ys = -1) := by rw [Hid, cmpL_prefix hP.1 hP.2, if_pos (by have := HL.out; omega)]
        clear hP
        go_wp2
        go_ret
        exact ⟨retI HI.out.symm, rfl⟩
      · have HI : Hid (cmpL xs ys = 0) := by rw [Hid, cmpL_prefix hP.1 hP.2, if_neg (by have := HL.out; omega)]
        clear hP
        go_wp2
        go_ret
        exact ⟨retI HI.out.symm, rfl⟩

set_option maxHeartbeats 800000 in
theorem l03Less_any {w : World} {a b : Value} {xs ys : List Int} (ha : RI w a xs) (hb : RI w b ys) (hl : xs.length = ys.length) :
    Calls Try.prog 55 #[a, b] w fun e w' => e = .returned (.bool (ltL xs ys)) ∧ w = w' := by
  have hlx := ha.lenle
  obtain ⟨A, c, rfl, -, hx⟩ := ha
  obtain ⟨B, d, rfl, -, hy⟩ := hb
  rw [← hl] at hy ⊢
  obtain ⟨n, hn⟩ : ∃ n, n = xs.length := ⟨_, rfl⟩
  rw [← hn] at hx hy hlx ⊢
  have HL := Lib.hid (And.intro hn hl)
  have HX := Lib.hid hx
  have HY := Lib.hid hy
  clear hn hl hx hy
  go_enter Try.func55, Try.ntmps55
  go_wp2
  go_loop [9] (fun i => ∃ k : Nat, k ≤ n ∧ i = .int .i64 k ∧ Hid (xs.take k = ys.take k)) (fun i => n - (intOf i).toNat)
  case atStart => exact ⟨0, Nat.zero_le _, rfl, by simp [Hid]⟩
  case round =>
    obtain ⟨k, hk, rfl, HT⟩ := hrel
    by_cases hlt : k < n
    · obtain ⟨b1, o1, rfl, hb1, hc1⟩ := HX.out (by omega)
      obtain ⟨b2, o2, rfl, hb2, hc2⟩ := HY.out (by omega)
      have c1 := hc1 k hlt
      have c2 := hc2 k hlt
      generalize hx : xs.getD k 0 = x at c1
      generalize hy : ys.getD k 0 = y at c2
      have HE : Hid (xs.getD k 0 = x ∧ ys.getD k 0 = y) := ⟨hx, hy⟩
      clear hc1 hc2 hx hy
      by_cases he : x = y
      · have h1 : (x != y) = false := by simp [he]
        have HE2 := Lib.hid he
        clear he
        go_wp2
        go_round
        case rel => exact ⟨k + 1, by omega, by go_num, by
          have hL := HL.out
          show xs.take (k + 1) = ys.take (k + 1)
          rw [take_succ_getD (by omega), take_succ_getD (by omega), HT.out, HE.out.1, HE.out.2, HE2.out]⟩
        case measure => simp [intOf]; omega
      · have h1 : (x != y) = true := by simp [he]
        have HI : Hid (ltL xs ys = decide (x < y)) := by
          have hL := HL.out
          unfold ltL Hid
          rw [cmpL_diff (k := k) (by omega) (by omega) HT.out (by rw [HE.out.1, HE.out.2]; exact he), HE.out.1, HE.out.2]
          by_cases h1 : x < y
          · rw [if_pos h1]; simp [h1]
          · rw [if_neg h1]; simp [h1]
        clear he
        go_wp2
        go_ret
        exact ⟨retB HI.out.symm, rfl⟩
    · have HI : Hid (ltL xs ys = false) := by
        have hL := HL.out
        have hT := HT.out
        rw [List.take_of_length_le (by omega), List.take_of_length_le (by omega)] at hT
        rw [Hid, hT, ltL_irrefl]
      go_wp2
      go_ret
      exact ⟨retB HI.out.symm, rfl⟩

theorem RII.at {w : World} {b off k n : Nat} {gs : List (List Int)} (hx : ∀ k, k < n → ∃ u, w.cell? ⟨b, off + k, none⟩ = some u ∧ RI w u (gs.getD k [])) (hk : k < n) : ∃ A c, w.cell? ⟨b, off + k, none⟩ = some (.slice A (gs.getD k []).length c) ∧ RI w (.slice A (gs.getD k []).length c) (gs.getD k []) := by
  obtain ⟨u, hc, hr⟩ := hx k hk
  obtain ⟨A, c, rfl⟩ := hr.shape
  exact ⟨A, c, hc, hr⟩

/-- What a search by halves knows. -/
def Halves (gs : List (List Int)) (p : List Int) (i j : Nat) : Prop := (∀ k, k < i → k < gs.length → ltL (gs.getD k []) p = true) ∧ ∀ k, j ≤ k → k < gs.length → ltL (gs.getD k []) p = false
theorem Halves.start (gs : List (List Int)) (p : List Int) : Halves gs p 0 gs.length := ⟨fun k h => by omega, fun k h h' => by omega⟩
theorem Halves.up {gs : List (List Int)} {p : List Int} {i j h : Nat} (hh : Halves gs p i j) (ha : Asc gs) (hl : h < gs.length) (hlt : ltL (gs.getD h []) p = true) : Halves gs p (h + 1) j :=
  ⟨fun k hk hkl => by
    rcases Nat.lt_or_ge k h with h1 | h1
    · exact ltL_trans (ha k h h1 hl) hlt
    · obtain rfl : k = h := by omega
      exact hlt, hh.2⟩
theorem Halves.down {gs : List (List Int)} {p : List Int} {i j h : Nat} (hh : Halves gs p i j) (ha : Asc gs) (hlt : ltL (gs.getD h []) p = false) : Halves gs p i h :=
  ⟨hh.1, fun k hk hkl => by
    rcases Nat.lt_or_ge h k with h1 | h1
    · cases e : ltL (gs.getD k []) p with
      | false => rfl
      | true => rw [ltL_trans (ha h k h1 hkl) e] at hlt; cases hlt
    · obtain rfl : k = h := by omega
      exact hlt⟩

set_option maxHeartbeats 1600000 in
theorem l03Find_any {w : World} {a b : Value} {gs : List (List Int)} {p : List Int} (ha : RII w a gs) (hb : RI w b p) (hs : Asc gs) (hd : ∀ q ∈ gs, q.length = p.length) (hl : gs.length ≤ 1048576) :
    Calls Try.prog 56 #[a, b] w fun e w' => e = .returned (.int .i64 (findIdx gs p)) ∧ Still w w' := by
  have HB := Lib.hid hb
  obtain ⟨A, c, rfl, -, hx⟩ := ha
  obtain ⟨B, d, rfl⟩ := hb.shape
  obtain ⟨n, hn⟩ : ∃ n, n = gs.length := ⟨_, rfl⟩
  rw [← hn] at hx hl ⊢
  have HL := Lib.hid hn
  have HX := Lib.hid hx
  have HS := Lib.hid hs
  have HD := Lib.hid hd
  clear hn hx hs hd hb
  go_enter Try.func56, Try.ntmps56
  go_wp2
  go_loop [5, 6] (fun v5 v6 => ∃ i j : Nat, i ≤ j ∧ j ≤ n ∧ v5 = .int .i64 i ∧ v6 = .int .i64 j ∧ Hid (Halves gs p i j)) (fun v5 v6 => (intOf v6).toNat - (intOf v5).toNat)
  case atStart => exact ⟨0, n, Nat.zero_le _, Nat.le_refl _, rfl, rfl, by rw [HL.out]; exact Halves.start _ _⟩
  case round =>
    obtain ⟨i, j, hij, hjn, rfl, rfl, HH⟩ := hrel
    by_cases hlt : i < j
    · obtain ⟨b1, o1, rfl, hb1, hc1⟩ := HX.out (by omega)
      obtain ⟨h, hh⟩ : ∃ h, h = (i + j) / 2 := ⟨_, rfl⟩
      have hh1 : i ≤ h := by omega
      have hh2 : h < j := by omega
      have hhi : ((i : Int) + j) / 2 = (h : Int) := by omega
      obtain ⟨A1, c1, cc, rr⟩ := RII.at hc1 (k := h) (by omega)
      have hlen := HD.out _ (getD_memS (g := gs) (k := h) (by have := HL.out; omega))
      have HR := Lib.hid (And.intro rr hlen)
      clear hc1 rr hlen hh
      cases hlt2 : ltL (gs.getD h []) p with
      | true =>
        have HN := Lib.hid (HH.out.up HS.out (by have := HL.out; omega) hlt2)
        have HT := Lib.hid hlt2
        clear hlt2
        go_wp2_with fail
        refine (l03Less_any HR.out.1 HB.out HR.out.2).mono ?_
        rw [HT.out]
        rintro e w' ⟨rfl, rfl⟩
        go_wp2
        go_round
        case rel => exact ⟨h + 1, j, by omega, hjn, by go_num, rfl, HN.out⟩
        case measure => simp [intOf]; omega
      | false =>
        have HN := Lib.hid (HH.out.down HS.out hlt2)
        have HT := Lib.hid hlt2
        clear hlt2
        go_wp2_with fail
        refine (l03Less_any HR.out.1 HB.out HR.out.2).mono ?_
        rw [HT.out]
        rintro e w' ⟨rfl, rfl⟩
        go_wp2
        go_round
        case rel => exact ⟨i, h, by omega, by omega, rfl, rfl, HN.out⟩
        case measure => simp [intOf]; omega
    · obtain rfl : i = j := by omega
      have hsp := findIdx_split HS.out (p := p) (a := i) HH.out.1 HH.out.2
      rw [← HL.out] at hsp
      by_cases hin : i < n
      · obtain ⟨b1, o1, rfl, hb1, hc1⟩ := HX.out (by omega)
        obtain ⟨A1, c1, cc, rr⟩ := RII.at hc1 (k := i) hin
        have HR := Lib.hid rr
        clear hc1 rr
        by_cases he : gs.getD i [] = p
        · have HF := Lib.hid (hsp.1 hin he)
          have HE := Lib.hid he
          clear hsp he
          go_wp2_with fail
          refine (l03Same_any HR.out HB.out).mono ?_
          rw [decide_eq_true HE.out]
          rintro e w1 ⟨rfl, s1⟩
          go_wp2
          go_ret
          exact ⟨retI HF.out.symm, s1⟩
        · have HF := Lib.hid (hsp.2 (fun _ => he))
          have HE := Lib.hid he
          clear hsp he
          go_wp2_with fail
          refine (l03Same_any HR.out HB.out).mono ?_
          rw [decide_eq_false HE.out]
          rintro e w1 ⟨rfl, s1⟩
          go_wp2
          go_ret
          exact ⟨retI HF.out.symm, s1⟩
      · have HF := Lib.hid (hsp.2 (fun h => absurd h hin))
        clear hsp
        go_wp2
        go_ret
        exact ⟨retI HF.out.symm, Still.refl _⟩
end Go.Proofs.Ytfanohebejemmaa
