/-
  indexOf of the program: the library's search by halves with slices.Compare.
-/
import Derived.Test.YtfanohebejemmaaOrd
namespace Go.Proofs.Ytfanohebejemmaa
open Go.RowKit Go.Deep

theorem ltL_iff {a b : List Int} : ltL a b = decide (cmpL a b < 0) := rfl

def BSPost (gs : List (List Int)) (p : List Int) (w : World) (e : Ending) (w' : World) : Prop := ∃ (i : Nat) (ok : Bool), e = .returned (.tuple #[.int .i64 i, .bool ok]) ∧ findIdx gs p = (if ok = true then (i : Int) else -1) ∧ w = w'

set_option maxHeartbeats 1600000 in
theorem binarySearch_any {w : World} {a b : Value} {gs : List (List Int)} {p : List Int} (ha : RII w a gs) (hb : RI w b p) (hs : Asc gs) (hl : gs.length ≤ 1048576) :
    Calls Try.prog 85 #[a, b, .func (.func 59) #[] #[]] w (BSPost gs p w) := by
  have HB := Lib.hid hb
  obtain ⟨A, c, rfl, -, hx⟩ := ha
  obtain ⟨B, d, rfl⟩ := hb.shape
  obtain ⟨n, hn⟩ : ∃ n, n = gs.length := ⟨_, rfl⟩
  rw [← hn] at hx hl ⊢
  have HL := Lib.hid hn
  have HX := Lib.hid hx
  have HS := Lib.hid hs
  clear hn hx hs hb
  go_enter Try.func85, Try.ntmps85
  go_wp2
  go_loop [9, 10] (fun v5 v6 => ∃ i j : Nat, i ≤ j ∧ j ≤ n ∧ v5 = .int .i64 i ∧ v6 = .int .i64 j ∧ Hid (Halves gs p i j)) (fun v5 v6 => (intOf v6).toNat - (intOf v5).toNat)
  case atStart => exact ⟨0, n, Nat.zero_le _, Nat.le_refl _, rfl, rfl, by rw [HL.out]; exact Halves.start _ _⟩
  case round =>
    obtain ⟨i, j, hij, hjn, rfl, rfl, HH⟩ := hrel
    by_cases hlt : i < j
    · obtain ⟨b1, o1, rfl, hb1, hc1⟩ := HX.out (by omega)
      obtain ⟨h, hh⟩ : ∃ h, h = (i + j) / 2 := ⟨_, rfl⟩
      have hh1 : i ≤ h := by omega
      have hh2 : h < j := by omega
      have hhi : ((i : Int) + j) / 2 = (h : Int) := by omega
      obtain ⟨A1, c1, cc, rr⟩ := RII.at hc1 (k := h) (by omega)
      have HR := Lib.hid rr
      clear hc1 rr hh
      obtain ⟨z, hz⟩ : ∃ z, z = cmpL (gs.getD h []) p := ⟨_, rfl⟩
      by_cases hlt2 : z < 0
      · have HN := Lib.hid (HH.out.up (h := h) HS.out (by have := HL.out; omega) (by rw [ltL_iff, ← hz]; exact decide_eq_true hlt2))
        have HZ := Lib.hid hz
        clear hz
        go_wp2_with fail
        refine (slicesCompare_any HR.out HB.out).mono ?_
        rw [← HZ.out]
        rintro e w' ⟨rfl, rfl⟩
        go_wp2
        go_round
        case rel => exact ⟨h + 1, j, by omega, hjn, by go_num, rfl, HN.out⟩
        case measure => simp [intOf]; omega
      · have HN := Lib.hid (HH.out.down (h := h) HS.out (by rw [ltL_iff, ← hz]; exact decide_eq_false hlt2))
        have HZ := Lib.hid hz
        clear hz
        go_wp2_with fail
        refine (slicesCompare_any HR.out HB.out).mono ?_
        rw [← HZ.out]
        rintro e w' ⟨rfl, rfl⟩
        go_wp2
        go_round
        case rel => exact ⟨i, h, by omega, by omega, rfl, rfl, HN.out⟩
        case measure => simp [intOf]; omega
    · obtain rfl : i = j := by omega
      have hsp := findIdx_split HS.out (p := p) (a := i) HH.out.1 HH.out.2
      rw [← HL.out] at hsp
      by_cases hin : i < n
      · obtain ⟨b1, o1, rfl, hb1, hc1⟩ := HX.out (by omega)
        obtain ⟨A1, c1, cc, rr⟩ := RII.at hc1 (k := i) hin
        have HR := Lib.hid rr
        clear hc1 rr
        obtain ⟨z, hz⟩ : ∃ z, z = cmpL (gs.getD i []) p := ⟨_, rfl⟩
        by_cases he : z = 0
        · have HF := Lib.hid (hsp.1 hin (cmpL_zero (by rw [← hz, he])))
          have hz0 : (z == 0) = true := by simp [he]
          have HZ := Lib.hid hz
          clear hsp he hz
          go_wp2_with fail
          refine (slicesCompare_any HR.out HB.out).mono ?_
          rw [← HZ.out]
          rintro e w1 ⟨rfl, rfl⟩
          go_wp2
          go_ret2
          exact ⟨i, true, rfl, HF.out, rfl⟩
        · have HF := Lib.hid (hsp.2 (fun _ e => he (by rw [hz, e, cmpL_self])))
          have hz0 : (z == 0) = false := by simp [he]
          have HZ := Lib.hid hz
          clear hsp he hz
          go_wp2_with fail
          refine (slicesCompare_any HR.out HB.out).mono ?_
          rw [← HZ.out]
          rintro e w1 ⟨rfl, rfl⟩
          go_wp2
          go_ret2
          exact ⟨i, false, rfl, HF.out, rfl⟩
      · have HF := Lib.hid (hsp.2 (fun h => absurd h hin))
        clear hsp
        go_wp2
        go_ret2
        exact ⟨i, false, rfl, HF.out, rfl⟩

set_option maxHeartbeats 800000 in
theorem indexOf_any {w : World} {a b : Value} {gs : List (List Int)} {p : List Int} (ha : RII w a gs) (hb : RI w b p) (hs : Asc gs) (hl : gs.length ≤ 1048576) :
    Calls Try.prog 60 #[a, b] w fun e w' => e = .returned (.int .i64 (findIdx gs p)) ∧ w = w' := by
  have HA := Lib.hid ha
  have HB := Lib.hid hb
  have HS := Lib.hid hs
  obtain ⟨A, c, rfl⟩ := ha.shape
  obtain ⟨B, d, rfl⟩ := hb.shape
  clear ha hb hs
  go_enter Try.func60, Try.ntmps60
  go_wp2_with fail
  refine (binarySearch_any HA.out HB.out HS.out hl).mono ?_
  rintro e w1 ⟨i, ok, rfl, hf, rfl⟩
  have HF := Lib.hid hf
  clear hf
  cases ok with
  | true =>
    go_wp2
    go_ret
    exact ⟨retI (by rw [HF.out]; rfl), rfl⟩
  | false =>
    go_wp2
    go_ret
    exact ⟨retI (by rw [HF.out]; rfl), rfl⟩
end Go.Proofs.Ytfanohebejemmaa
