/-
  ColoringOk and PermOk, of the program and of the reference.
-/
import Derived.Test.YtfanohebejemmaaPermFn
import Derived.Test.YtfanohebejemmaaIn
namespace Go.Proofs.Ytfanohebejemmaa
open Go.RowKit Go.Deep

theorem bool_info : (Try.prog.info? 4).map (fun i => (i.zero, i.size, i.bytes)) = some (some (.bool false), 1, 1) := by kernel_rfl

theorem rowIs_seen {w : World} {g T n : Nat} {p : List Int} {k : Nat} (h : w.rowIs g T n (fun j => .bool (seen p k j))) (hk : k < p.length) {m : Nat} (hm : p.getD k 0 = (m : Int)) :
    (w.setCell ⟨g, m, none⟩ (.bool true)).rowIs g T n (fun j => .bool (seen p (k + 1) j)) := by
  refine (h.set m (.bool true)).congr fun j _ => ?_
  rw [seen_succ hk (by omega), hm, Int.toNat_natCast]
  split <;> rfl

set_option maxHeartbeats 800000 in
theorem specPermOk_any {w : World} {a : Value} {xs : List Int} (ha : RI w a xs) :
    Calls Try.prog 54 #[a] w fun e w' => e = .returned (.bool (permOk xs)) ∧ Below w.heap.size w w' := by
  have hl := ha.lenle
  obtain ⟨A, c, rfl, _, hx⟩ := ha
  obtain ⟨n, hn⟩ : ∃ n, n = xs.length := ⟨_, rfl⟩
  rw [← hn] at hx hl ⊢
  by_cases hsz : n < 1 ∨ 10 < n
  · have HN := Lib.hid (permOk_size (p := xs) (by omega))
    clear hx hn
    have hd2 : (n : Int) < 1 ∨ 10 < (n : Int) := by omega
    clear hsz
    rcases hd2 with hd2 | hd2
    all_goals
      go_enter Try.func54, Try.ntmps54
      go_wp2_with (go_at_call 53; refine (l01In_no _ _ _ _ (by omega)).mono ?_; rintro e w' ⟨rfl, rfl⟩)
      go_ret
      exact ⟨retB HN.out.symm, Below.refl _ _⟩
  · have h1 : 1 ≤ n := by omega
    have h2 : n ≤ 10 := by omega
    have hmk := run_make_row' (P := Try.prog) 53 4 (.bool false) 1 Try.underlying53 bool_info rfl .i64 .i64 n (by omega) (by omega)
    have HL := Lib.hid hn
    have HX := Lib.hid hx
    obtain ⟨g, hg⟩ : ∃ g, g = w.heap.size := ⟨_, rfl⟩
    have HG := Lib.hid hg
    clear hn hx hsz hg
    go_enter Try.func54, Try.ntmps54
    go_wp2_with (go_at_call 53; refine (l01In_yes _ _ _ _ (by omega) (by omega)).mono ?_; rintro e w' ⟨rfl, rfl⟩)
    have hb0 : Below w.heap.size w (w.alloc (.cells (madeCells #[.bool false] n) 4)) := (Below.refl _ _).alloc (Nat.le_refl _) _
    have hr0 := (World.rowIs_made w (.bool false) n 4).congr (g := fun j => .bool (seen xs 0 j)) (fun j _ => by rw [seen_zero])
    rw [← HG.out] at hr0 ⊢
    have HR0 := Lib.hid hr0
    have HB0 := Lib.hid hb0
    clear hr0 hb0 hmk
    go_loopw [15] (fun i wr => ∃ k : Nat, k ≤ n ∧ i = .int .i64 k ∧ Hid (PermTo xs k ∧ wr.rowIs g 4 n (fun j => .bool (seen xs k j)) ∧ Below w.heap.size w wr)) (fun i _ => n - (intOf i).toNat)
    case atStart => exact ⟨0, Nat.zero_le _, rfl, PermTo.zero _, HR0.out, HB0.out⟩
    case round =>
      obtain ⟨k, hk, rfl, HR⟩ := hrel
      by_cases hlt : k < n
      · obtain ⟨b, o, rfl, hb, hc⟩ := HX.out (by omega)
        have c1 := (HR.out.2.2.cell (p := ⟨b, o + k, none⟩) hb).trans (hc k hlt)
        have hkl : k < xs.length := by have := HL.out; omega
        clear hc
        obtain ⟨x, hx⟩ : ∃ x, x = xs.getD k 0 := ⟨_, rfl⟩
        rw [← hx] at c1
        by_cases hrg : 0 ≤ x ∧ x < (n : Int)
        · obtain ⟨h3, h4⟩ := hrg
          obtain ⟨m, rfl⟩ := Int.eq_ofNat_of_zero_le h3
          have hmn : m < n := by omega
          have c2 := HR.out.2.1.cell (i := m) hmn
          have f2 := HR.out.2.1.frozen m
          by_cases hs : seen xs k m = true
          · have HN := Lib.hid (permOk_dup hkl (by rw [← hx]; exact of_decide_eq_true hs))
            rw [hs] at c2
            have HX2 := Lib.hid hx
            have HBE := Lib.hid HR.out.2.2
            clear hs hkl hx
            go_wp2_with (go_at_call 53; refine (l01In_yes _ _ _ _ (by omega) (by omega)).mono ?_; rintro e w' ⟨rfl, rfl⟩)
            go_ret
            exact ⟨retB HN.out.symm, HBE.out⟩
          · rw [Bool.not_eq_true] at hs
            have hP : PermTo xs (k + 1) := HR.out.1.succ hkl (by omega) (by have := HL.out; omega) (by rw [← hx]; exact of_decide_eq_false hs)
            have hrow := rowIs_seen HR.out.2.1 hkl hx.symm
            have hbel := HR.out.2.2.setCell (p := ⟨g, m, none⟩) (by have := HG.out; simp; omega) (.bool true)
            rw [hs] at c2
            have HF := Lib.hid (And.intro hP (And.intro hrow hbel))
            have HX2 := Lib.hid hx
            clear hP hrow hbel hs hkl hx
            go_wp2_with (go_at_call 53; refine (l01In_yes _ _ _ _ (by omega) (by omega)).mono ?_; rintro e w' ⟨rfl, rfl⟩)
            go_roundw
            case rel => exact ⟨k + 1, by omega, by go_num, HF.out⟩
            case measure => simp [intOf]; omega
        · have HN := Lib.hid (permOk_range hkl (by rw [← hx]; have := HL.out; omega))
          have HBE := Lib.hid HR.out.2.2
          have HX2 := Lib.hid hx
          clear hkl hx
          go_wp2_with (go_at_call 53; refine (l01In_no _ _ _ _ (by omega)).mono ?_; rintro e w' ⟨rfl, rfl⟩)
          go_ret
          exact ⟨retB HN.out.symm, HBE.out⟩
      · go_wp2
        go_ret
        obtain rfl : k = n := by omega
        have hL := HL.out
        have hP := HR.out.1
        rw [hL] at hP
        exact ⟨retB (hP.all (by omega) (by omega)).symm, HR.out.2.2⟩

theorem ten_false {xs : List Int} : ∀ i, i < (#[Value.bool false, .bool false, .bool false, .bool false, .bool false, .bool false, .bool false, .bool false, .bool false, .bool false] : Array Value).size →
    (#[Value.bool false, .bool false, .bool false, .bool false, .bool false, .bool false, .bool false, .bool false, .bool false, .bool false] : Array Value)[i]? = some (.bool (seen xs 0 i)) := by
  intro i hi
  rw [seen_zero]
  match i, hi with
  | 0, _ => rfl
  | 1, _ => rfl
  | 2, _ => rfl
  | 3, _ => rfl
  | 4, _ => rfl
  | 5, _ => rfl
  | 6, _ => rfl
  | 7, _ => rfl
  | 8, _ => rfl
  | 9, _ => rfl
  | n + 10, h => exact absurd h (by simp)

set_option maxHeartbeats 800000 in
theorem implPermOk_any {w : World} {a : Value} {xs : List Int} (ha : RI w a xs) :
    Calls Try.prog 58 #[a] w fun e w' => e = .returned (.bool (permOk xs)) ∧ Below w.heap.size w w' := by
  have hl := ha.lenle
  obtain ⟨A, c, rfl, _, hx⟩ := ha
  obtain ⟨n, hn⟩ : ∃ n, n = xs.length := ⟨_, rfl⟩
  rw [← hn] at hx hl ⊢
  by_cases hsz : n < 1 ∨ 10 < n
  · have HN := Lib.hid (permOk_size (p := xs) (by omega))
    clear hx hn
    rcases hsz with hd2 | hd2
    all_goals
      go_enter Try.func58, Try.ntmps58
      go_wp2
      go_ret
      exact ⟨retB HN.out.symm, Below.refl _ _⟩
  · have h1 : 1 ≤ n := by omega
    have h2 : n ≤ 10 := by omega
    have HL := Lib.hid hn
    have HX := Lib.hid hx
    obtain ⟨g, hg⟩ : ∃ g, g = w.heap.size := ⟨_, rfl⟩
    have HG := Lib.hid hg
    clear hn hx hsz hg
    go_enter Try.func58, Try.ntmps58
    go_wp2
    have hb0 : Below w.heap.size w (w.alloc (.cells #[.bool false, .bool false, .bool false, .bool false, .bool false, .bool false, .bool false, .bool false, .bool false, .bool false] 66)) := (Below.refl _ _).alloc (Nat.le_refl _) _
    have hr0 := World.rowIs_alloc w #[.bool false, .bool false, .bool false, .bool false, .bool false, .bool false, .bool false, .bool false, .bool false, .bool false] 66 (fun j => .bool (seen xs 0 j)) ten_false
    rw [← HG.out] at hr0 ⊢
    have HR0 := Lib.hid hr0
    have HB0 := Lib.hid hb0
    clear hr0 hb0
    go_loopw [17] (fun i wr => ∃ k : Nat, k ≤ n ∧ i = .int .i64 k ∧ Hid (PermTo xs k ∧ wr.rowIs g 66 10 (fun j => .bool (seen xs k j)) ∧ Below w.heap.size w wr)) (fun i _ => n - (intOf i).toNat)
    case atStart => exact ⟨0, Nat.zero_le _, rfl, PermTo.zero _, HR0.out, HB0.out⟩
    case round =>
      obtain ⟨k, hk, rfl, HR⟩ := hrel
      by_cases hlt : k < n
      · obtain ⟨b, o, rfl, hb, hc⟩ := HX.out (by omega)
        have c1 := (HR.out.2.2.cell (p := ⟨b, o + k, none⟩) hb).trans (hc k hlt)
        have hkl : k < xs.length := by have := HL.out; omega
        clear hc
        obtain ⟨x, hx⟩ : ∃ x, x = xs.getD k 0 := ⟨_, rfl⟩
        rw [← hx] at c1
        by_cases hrg : 0 ≤ x ∧ x < (n : Int)
        · obtain ⟨h3, h4⟩ := hrg
          obtain ⟨m, rfl⟩ := Int.eq_ofNat_of_zero_le h3
          have hmn : m < 10 := by omega
          have c2 := HR.out.2.1.cell (i := m) hmn
          have f2 := HR.out.2.1.frozen m
          by_cases hs : seen xs k m = true
          · have HN := Lib.hid (permOk_dup hkl (by rw [← hx]; exact of_decide_eq_true hs))
            rw [hs] at c2
            have HX2 := Lib.hid hx
            have HBE := Lib.hid HR.out.2.2
            clear hs hkl hx
            go_wp2
            go_ret
            exact ⟨retB HN.out.symm, HBE.out⟩
          · rw [Bool.not_eq_true] at hs
            have hP : PermTo xs (k + 1) := HR.out.1.succ hkl (by omega) (by have := HL.out; omega) (by rw [← hx]; exact of_decide_eq_false hs)
            have hrow := rowIs_seen HR.out.2.1 hkl hx.symm
            have hbel := HR.out.2.2.setCell (p := ⟨g, m, none⟩) (by have := HG.out; simp; omega) (.bool true)
            rw [hs] at c2
            have HF := Lib.hid (And.intro hP (And.intro hrow hbel))
            have HX2 := Lib.hid hx
            clear hP hrow hbel hs hkl hx
            go_wp2
            go_roundw
            case rel => exact ⟨k + 1, by omega, by go_num, HF.out⟩
            case measure => simp [intOf]; omega
        · have HN := Lib.hid (permOk_range hkl (by rw [← hx]; have := HL.out; omega))
          have HBE := Lib.hid HR.out.2.2
          have HX2 := Lib.hid hx
          have hd2 : x < 0 ∨ (0 ≤ x ∧ (n : Int) ≤ x) := by omega
          clear hkl hx hrg
          rcases hd2 with hd2 | ⟨hd3, hd2⟩
          all_goals
            go_wp2
            go_ret
            exact ⟨retB HN.out.symm, HBE.out⟩
      · go_wp2
        go_ret
        obtain rfl : k = n := by omega
        have hL := HL.out
        have hP := HR.out.1
        rw [hL] at hP
        exact ⟨retB (hP.all (by omega) (by omega)).symm, HR.out.2.2⟩
end Go.Proofs.Ytfanohebejemmaa
