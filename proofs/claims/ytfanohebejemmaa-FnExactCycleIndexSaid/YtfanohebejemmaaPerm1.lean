/-
  IdentityPerm, the composing helpers and ComposePerm, InversePerm, of the program and of the reference.
-/
import Derived.Test.YtfanohebejemmaaPermOk
namespace Go.Proofs.Ytfanohebejemmaa
open Go.RowKit Go.Deep

set_option maxHeartbeats 400000 in
theorem specIdentityPerm_any {w : World} (n : Int) :
    Calls Try.prog 127 #[.int .i64 n] w fun e w' => ∃ v, e = .returned v ∧ OI w' w.heap.size v (identityPerm n) ∧ Below w.heap.size w w' := by
  by_cases hr : 1 ≤ n ∧ n ≤ 10
  · obtain ⟨h1, h2⟩ := hr
    obtain ⟨m, rfl⟩ := Int.eq_ofNat_of_zero_le (show 0 ≤ n by omega)
    have HI : Hid (identityPerm (m : Int) = identity m) := by unfold identityPerm Hid; rw [if_pos ⟨h1, h2⟩, Int.toNat_natCast]
    go_enter Try.func127, Try.ntmps127
    go_wp2_with (go_at_call 53; refine (l01In_yes _ _ _ _ (by omega) (by omega)).mono ?_; rintro e w' ⟨rfl, rfl⟩)
    have h0 : OI (w.alloc (.cells #[] 3)) w.heap.size (.slice (some ⟨w.heap.size, 0, none⟩) 0 0) [] := World.ownsRow_lit w #[] 0 (Nat.le_refl _) (by simp) rfl
    have hb0 : Below w.heap.size w (w.alloc (.cells #[] 3)) := (Below.refl _ _).alloc (Nat.le_refl _) _
    have H0 := Lib.hid (And.intro h0 hb0)
    clear h0 hb0
    go_loopw [3, 4] (fun v i wr => ∃ k : Nat, k ≤ m ∧ i = .int .i64 k ∧ Hid (OI wr w.heap.size v (identity k) ∧ Below w.heap.size w wr)) (fun _ i _ => m - (intOf i).toNat)
    case atStart => exact ⟨0, Nat.zero_le _, rfl, H0.out⟩
    case round =>
      obtain ⟨k, hk, rfl, HR⟩ := hrel
      by_cases hlt : k < m
      · go_wp2_with (at_builtin; refine wpList_appInt _ rfl (.tmp 14) (.tmp 16) rfl w.heap.size _ (identity k) (k : Int) rfl rfl rfl HR.out.1 (by rw [identity_len]; omega) HR.out.2.size ?_; intro v1 w1 ho hb _)
        have HN := Lib.hid (And.intro (identity_succ k ▸ ho) (HR.out.2.trans hb))
        clear ho hb
        go_wp2
        go_roundw
        case rel => exact ⟨k + 1, by omega, by go_num, HN.out⟩
        case measure => simp [intOf]; omega
      · go_wp2
        go_ret
        obtain rfl : k = m := by omega
        exact ⟨_, rfl, by rw [HI.out]; exact HR.out.1, HR.out.2⟩
  · have HI : Hid (identityPerm n = []) := by unfold identityPerm Hid; rw [if_neg hr]
    have hd : n < 1 ∨ 10 < n := by omega
    clear hr
    go_enter Try.func127, Try.ntmps127
    go_wp2_with (go_at_call 53; refine (l01In_no _ _ _ _ (by omega)).mono ?_; rintro e w' ⟨rfl, rfl⟩)
    go_ret
    exact ⟨_, rfl, by rw [HI.out]; exact World.ownsRow_nil _ _ _ _, Below.refl _ _⟩

/-- Each element of p is an index of q. -/
def Into (p q : List Int) : Prop := ∀ x ∈ p, 0 ≤ x ∧ x < (q.length : Int)

set_option maxHeartbeats 400000 in
theorem l02Compose_any {w : World} {a b : Value} {p q : List Int} (ha : RI w a p) (hb : RI w b q) (hp : p.length ≤ 1048576) (hi : Into p q) :
    Calls Try.prog 57 #[a, b] w fun e w' => ∃ v, e = .returned v ∧ OI w' w.heap.size v (compose p q) ∧ Below w.heap.size w w' := by
  obtain ⟨A, c, rfl, _, hx⟩ := ha
  obtain ⟨B, d, rfl, hl2, hy⟩ := hb
  obtain ⟨n, hn⟩ : ∃ n, n = p.length := ⟨_, rfl⟩
  obtain ⟨l, hl⟩ : ∃ l, l = q.length := ⟨_, rfl⟩
  unfold maxLen at hl2
  rw [← hn] at hx hp ⊢
  rw [← hl] at hy hl2 ⊢
  have HL := Lib.hid (And.intro hn hl)
  have HX := Lib.hid hx
  have HY := Lib.hid hy
  have HI := Lib.hid hi
  have hl3 : l ≤ 9223372036854775807 := by omega
  clear hn hl hx hy hi hl2
  go_enter Try.func57, Try.ntmps57
  go_wp2
  have h0 : OI (w.alloc (.cells #[] 3)) w.heap.size (.slice (some ⟨w.heap.size, 0, none⟩) 0 0) [] := World.ownsRow_lit w #[] 0 (Nat.le_refl _) (by simp) rfl
  have hb0 : Below w.heap.size w (w.alloc (.cells #[] 3)) := (Below.refl _ _).alloc (Nat.le_refl _) _
  have H0 := Lib.hid (And.intro h0 hb0)
  clear h0 hb0
  go_loopw [5, 11] (fun v i wr => ∃ k : Nat, k ≤ n ∧ i = .int .i64 k ∧ Hid (OI wr w.heap.size v (compose (p.take k) q) ∧ Below w.heap.size w wr)) (fun _ i _ => n - (intOf i).toNat)
  case atStart => exact ⟨0, Nat.zero_le _, rfl, H0.out⟩
  case round =>
    obtain ⟨k, hk, rfl, HR⟩ := hrel
    by_cases hlt : k < n
    · have hkl : k < p.length := by have := HL.out; omega
      obtain ⟨x, hx⟩ : ∃ x, x = p.getD k 0 := ⟨_, rfl⟩
      obtain ⟨hx0, hx1⟩ := HI.out x (by rw [hx]; exact getD_mem hkl)
      obtain ⟨m, rfl⟩ := Int.eq_ofNat_of_zero_le hx0
      have hml : m < l := by have := HL.out; omega
      obtain ⟨b1, o1, rfl, hb1, hc1⟩ := HX.out (by omega)
      obtain ⟨b2, o2, rfl, hb2, hc2⟩ := HY.out (by omega)
      have c1 := (HR.out.2.cell (p := ⟨b1, o1 + k, none⟩) hb1).trans (hc1 k hlt)
      rw [← hx] at c1
      have c2 := (HR.out.2.cell (p := ⟨b2, o2 + m, none⟩) hb2).trans (hc2 m hml)
      obtain ⟨y, hy⟩ : ∃ y, y = q.getD m 0 := ⟨_, rfl⟩
      rw [← hy] at c2
      have HE : Hid (compose (p.take (k + 1)) q = compose (p.take k) q ++ [y]) := by rw [Hid, compose_take_succ hkl, ← hx, Int.toNat_natCast, hy]
      have HZ := Lib.hid (And.intro hx hy)
      clear hx hy hc1 hc2 hx0 hx1 hkl
      have hm2 : (m : Int) < l := by omega
      go_wp2_with (at_builtin; refine wpList_appInt _ rfl (.tmp 15) (.tmp 20) rfl w.heap.size _ (compose (p.take k) q) y rfl rfl rfl HR.out.1 (by rw [compose_len, List.length_take]; omega) HR.out.2.size ?_; intro v1 w1 ho hb _)
      have HN := Lib.hid (And.intro (HE.out ▸ ho) (HR.out.2.trans hb))
      clear ho hb
      go_wp2
      go_roundw
      case rel => exact ⟨k + 1, by omega, by go_num, HN.out⟩
      case measure => simp [intOf]; omega
    · go_wp2
      go_ret
      have hL := HL.out.1
      obtain rfl : k = n := by omega
      have ho := HR.out.1
      rw [List.take_of_length_le (by omega)] at ho
      exact ⟨_, rfl, ho, HR.out.2⟩
set_option maxHeartbeats 400000 in
theorem compose_any {w : World} {a b : Value} {p q : List Int} (ha : RI w a p) (hb : RI w b q) (hp : p.length ≤ 1048576) (hi : Into p q) :
    Calls Try.prog 61 #[a, b] w fun e w' => ∃ v, e = .returned v ∧ OI w' w.heap.size v (compose p q) ∧ Below w.heap.size w w' := by
  obtain ⟨A, c, rfl, _, hx⟩ := ha
  obtain ⟨B, d, rfl, hl2, hy⟩ := hb
  obtain ⟨n, hn⟩ : ∃ n, n = p.length := ⟨_, rfl⟩
  obtain ⟨l, hl⟩ : ∃ l, l = q.length := ⟨_, rfl⟩
  unfold maxLen at hl2
  rw [← hn] at hx hp ⊢
  rw [← hl] at hy hl2 ⊢
  have hmk := run_make_row' (P := Try.prog) 27 3 (.int .i64 0) 8 Try.underlying27 int_info rfl .i64 .i64 n (by omega) (by omega)
  obtain ⟨g, hg⟩ : ∃ g, g = w.heap.size := ⟨_, rfl⟩
  have HG := Lib.hid hg
  have HL := Lib.hid (And.intro hn hl)
  have HX := Lib.hid hx
  have HY := Lib.hid hy
  have HI := Lib.hid hi
  have hl3 : l ≤ 9223372036854775807 := by omega
  clear hn hl hx hy hi hl2 hg
  go_enter Try.func61, Try.ntmps61
  go_wp2
  have h0 := OI.made w n (by unfold maxLen; omega)
  have hb0 : Below w.heap.size w (w.alloc (.cells (madeCells #[.int .i64 0] n) 3)) := (Below.refl _ _).alloc (Nat.le_refl _) _
  have H0 := Lib.hid (And.intro h0 hb0)
  rw [← HG.out] at H0 ⊢
  clear h0 hb0 hmk
  go_loopw [13] (fun i wr => ∃ k : Nat, k ≤ n ∧ i = .int .i64 k ∧ Hid (OI wr g (.slice (some ⟨g, 0, none⟩) n n) (compose (p.take k) q ++ List.replicate (n - k) 0) ∧ Below g w wr)) (fun i _ => n - (intOf i).toNat)
  case atStart => exact ⟨0, Nat.zero_le _, rfl, by simpa [compose, Hid] using H0.out⟩
  case round =>
    obtain ⟨k, hk, rfl, HR⟩ := hrel
    by_cases hlt : k < n
    · have hkl : k < p.length := by have := HL.out; omega
      obtain ⟨x, hx⟩ : ∃ x, x = p.getD k 0 := ⟨_, rfl⟩
      obtain ⟨hx0, hx1⟩ := HI.out x (by rw [hx]; exact getD_mem hkl)
      obtain ⟨m, rfl⟩ := Int.eq_ofNat_of_zero_le hx0
      have hml : m < l := by have := HL.out; omega
      obtain ⟨b1, o1, rfl, hb1, hc1⟩ := HX.out (by omega)
      obtain ⟨b2, o2, rfl, hb2, hc2⟩ := HY.out (by omega)
      have c1 := (HR.out.2.cell (p := ⟨b1, o1 + k, none⟩) (by have := HG.out; simp; omega)).trans (hc1 k hlt)
      rw [← hx] at c1
      have c2 := (HR.out.2.cell (p := ⟨b2, o2 + m, none⟩) (by have := HG.out; simp; omega)).trans (hc2 m hml)
      obtain ⟨y, hy⟩ : ∃ y, y = q.getD m 0 := ⟨_, rfl⟩
      rw [← hy] at c2
      have HE : Hid (compose (p.take (k + 1)) q = compose (p.take k) q ++ [y]) := by rw [Hid, compose_take_succ hkl, ← hx, Int.toNat_natCast, hy]
      have hcl : (compose (p.take k) q).length = k := by rw [compose_len, List.length_take]; omega
      have hlen : (compose (p.take k) q ++ List.replicate (n - k) 0).length = n := by rw [List.length_append, hcl, List.length_replicate]; omega
      have c3 := HR.out.1.cell hlen k hlt
      have f3 := HR.out.1.frozen hlen k
      have hs := (HR.out.1.set hlen k y).1
      rw [fill_set hcl hlt, ← HE.out] at hs
      have HS := Lib.hid (And.intro hs (HR.out.2.setCell (p := ⟨g, k, none⟩) (Nat.le_refl _) (.int .i64 y)))
      have HZ := Lib.hid (And.intro hx hy)
      clear hx hy hc1 hc2 hx0 hx1 hkl hs hlen hcl
      have hm2 : (m : Int) < l := by omega
      go_wp2
      go_roundw
      case rel => exact ⟨k + 1, by omega, by go_num, HS.out⟩
      case measure => simp [intOf]; omega
    · go_wp2
      go_ret
      have hL := HL.out.1
      obtain rfl : k = n := by omega
      have ho := HR.out.1
      rw [List.take_of_length_le (by omega), Nat.sub_self, List.replicate_zero, List.append_nil] at ho
      refine ⟨_, rfl, ?_, by rw [← HG.out]; exact HR.out.2⟩
      rw [← HG.out]
      exact ho

set_option maxHeartbeats 400000 in
theorem inverse_any {w : World} {a : Value} {p : List Int} (ha : RI w a p) (hp : p.length ≤ 1048576) (hi : p.Nodup ∧ Into p p) :
    Calls Try.prog 71 #[a] w fun e w' => ∃ v, e = .returned v ∧ OI w' w.heap.size v (inverse p) ∧ Below w.heap.size w w' := by
  obtain ⟨A, c, rfl, -, hx⟩ := ha
  obtain ⟨n, hn⟩ : ∃ n, n = p.length := ⟨_, rfl⟩
  rw [← hn] at hx hp ⊢
  have hmk := run_make_row' (P := Try.prog) 27 3 (.int .i64 0) 8 Try.underlying27 int_info rfl .i64 .i64 n (by omega) (by omega)
  obtain ⟨g, hg⟩ : ∃ g, g = w.heap.size := ⟨_, rfl⟩
  have HE := Lib.hid hg
  have HG : Hid (w.heap.size ≤ g) := by rw [hg]; exact Nat.le_refl _
  have HL := Lib.hid hn
  have HX := Lib.hid hx
  have HI := Lib.hid hi
  clear hn hx hi hg
  go_enter Try.func71, Try.ntmps71
  go_wp2
  have h0 := OI.made w n (by unfold maxLen; omega)
  have hb0 : Below w.heap.size w (w.alloc (.cells (madeCells #[.int .i64 0] n) 3)) := (Below.refl _ _).alloc (Nat.le_refl _) _
  rw [← HE.out] at h0 ⊢
  have H0 := Lib.hid (And.intro h0 hb0)
  clear h0 hb0 hmk
  go_loopw [11] (fun i wr => ∃ k : Nat, k ≤ n ∧ i = .int .i64 k ∧ Hid (OI wr g (.slice (some ⟨g, 0, none⟩) n n) (invTo p k) ∧ Below w.heap.size w wr)) (fun i _ => n - (intOf i).toNat)
  case atStart => exact ⟨0, Nat.zero_le _, rfl, by rw [invTo_zero, ← HL.out]; exact H0.out⟩
  case round =>
    obtain ⟨k, hk, rfl, HR⟩ := hrel
    by_cases hlt : k < n
    · have hkl : k < p.length := by have := HL.out; omega
      obtain ⟨x, hx⟩ : ∃ x, x = p.getD k 0 := ⟨_, rfl⟩
      obtain ⟨hx0, hx1⟩ := HI.out.2 x (by rw [hx]; exact getD_mem hkl)
      obtain ⟨m, rfl⟩ := Int.eq_ofNat_of_zero_le hx0
      have hml : m < n := by have := HL.out; omega
      obtain ⟨b1, o1, rfl, hb1, hc1⟩ := HX.out (by omega)
      have c1 := (HR.out.2.cell (p := ⟨b1, o1 + k, none⟩) hb1).trans (hc1 k hlt)
      rw [← hx] at c1
      have hlen : (invTo p k).length = n := by rw [invTo_len, HL.out]
      have c3 := HR.out.1.cell hlen m hml
      have f3 := HR.out.1.frozen hlen m
      have hs := (HR.out.1.set hlen m (k : Int)).1
      rw [invTo_set HI.out.1 hkl hx.symm] at hs
      have HS := Lib.hid (And.intro hs (HR.out.2.setCell (p := ⟨g, m, none⟩) HG.out (.int .i64 (k : Int))))
      have HZ := Lib.hid hx
      clear hx hc1 hx0 hx1 hkl hs hlen
      have hm2 : (m : Int) < n := by omega
      go_wp2
      go_roundw
      case rel => exact ⟨k + 1, by omega, by go_num, HS.out⟩
      case measure => simp [intOf]; omega
    · go_wp2
      go_ret
      obtain rfl : k = n := by omega
      have ho := HR.out.1
      rw [HL.out] at ho
      refine ⟨_, rfl, ?_, HR.out.2⟩
      rw [← HE.out]
      rw [← HL.out] at ho
      rw [show inverse p = invTo p k from by rw [HL.out]; rfl]
      exact ho

set_option maxHeartbeats 800000 in
theorem specInversePerm_any {w : World} {a : Value} {p : List Int} (ha : RI w a p) :
    Calls Try.prog 69 #[a] w fun e w' => ∃ v, e = .returned (.tuple #[v, .bool (inversePerm p).2]) ∧ OI w' w.heap.size v (inversePerm p).1 ∧ Below w.heap.size w w' := by
  have HA := Lib.hid ha
  obtain ⟨A, c, rfl, -, hx⟩ := ha
  cases hp : permOk p with
  | false =>
    have HC := Lib.hid (inversePerm_no hp)
    have HP := Lib.hid hp
    clear hp hx
    go_enter Try.func69, Try.ntmps69
    go_wp2_with fail
    refine (specPermOk_any HA.out).mono ?_
    rw [HP.out]
    rintro e w1 ⟨rfl, b1⟩
    go_wp2
    go_ret2
    exact ⟨_, ret2 (by rw [HC.out]), by rw [HC.out]; exact World.ownsRow_nil _ _ _ _, b1⟩
  | true =>
    have HC := Lib.hid (inversePerm_yes hp)
    have HP := Lib.hid hp
    obtain ⟨n, hn⟩ : ∃ n, n = p.length := ⟨_, rfl⟩
    have h10 : n ≤ 10 := by have := (permOk_le hp).2; omega
    have HI : Hid (p.Nodup ∧ Into p p) := ⟨permOk_nodup hp, permOk_mem hp⟩
    rw [← hn] at hx HA ⊢
    have hmk := run_make_row' (P := Try.prog) 27 3 (.int .i64 0) 8 Try.underlying27 int_info rfl .i64 .i64 n (by omega) (by omega)
    have HL := Lib.hid hn
    have HX := Lib.hid hx
    clear hp hn hx
    go_enter Try.func69, Try.ntmps69
    go_wp2_with fail
    refine (specPermOk_any HA.out).mono ?_
    rw [HP.out]
    rintro e w1 ⟨rfl, b1⟩
    obtain ⟨g, hg⟩ : ∃ g, g = w1.heap.size := ⟨_, rfl⟩
    have HE := Lib.hid hg
    have HG : Hid (w.heap.size ≤ g) := by rw [hg]; exact b1.size
    have HB1 := Lib.hid b1
    clear hg b1
    go_wp2
    have h0 := OI.made w1 n (by unfold maxLen; omega)
    have hb0 : Below w.heap.size w (w1.alloc (.cells (madeCells #[.int .i64 0] n) 3)) := HB1.out.alloc HB1.out.size _
    rw [← HE.out] at h0 ⊢
    have H0 := Lib.hid (And.intro h0 hb0)
    clear h0 hb0 hmk
    go_loopw [15] (fun i wr => ∃ k : Nat, k ≤ n ∧ i = .int .i64 k ∧ Hid (OI wr g (.slice (some ⟨g, 0, none⟩) n n) (invTo p k) ∧ Below w.heap.size w wr)) (fun i _ => n - (intOf i).toNat)
    case atStart => exact ⟨0, Nat.zero_le _, rfl, by rw [invTo_zero, ← HL.out]; exact H0.out⟩
    case round =>
      obtain ⟨k, hk, rfl, HR⟩ := hrel
      by_cases hlt : k < n
      · have hkl : k < p.length := by have := HL.out; omega
        obtain ⟨x, hx⟩ : ∃ x, x = p.getD k 0 := ⟨_, rfl⟩
        obtain ⟨hx0, hx1⟩ := HI.out.2 x (by rw [hx]; exact getD_mem hkl)
        obtain ⟨m, rfl⟩ := Int.eq_ofNat_of_zero_le hx0
        have hml : m < n := by have := HL.out; omega
        obtain ⟨b1, o1, rfl, hb1, hc1⟩ := HX.out (by omega)
        have c1 := (HR.out.2.cell (p := ⟨b1, o1 + k, none⟩) hb1).trans (hc1 k hlt)
        rw [← hx] at c1
        have hlen : (invTo p k).length = n := by rw [invTo_len, HL.out]
        have c3 := HR.out.1.cell hlen m hml
        have f3 := HR.out.1.frozen hlen m
        have hs := (HR.out.1.set hlen m (k : Int)).1
        rw [invTo_set HI.out.1 hkl hx.symm] at hs
        have HS := Lib.hid (And.intro hs (HR.out.2.setCell (p := ⟨g, m, none⟩) HG.out (.int .i64 (k : Int))))
        have HZ := Lib.hid hx
        clear hx hc1 hx0 hx1 hkl hs hlen
        have hm2 : (m : Int) < n := by omega
        go_wp2
        go_roundw
        case rel => exact ⟨k + 1, by omega, by go_num, HS.out⟩
        case measure => simp [intOf]; omega
      · go_wp2
        go_ret2
        obtain rfl : k = n := by omega
        have ho := HR.out.1
        refine ⟨_, ret2 (by rw [HC.out]), ?_, HR.out.2⟩
        rw [HC.out, show inverse p = invTo p k from by rw [HL.out]; rfl]
        exact OI.mono ho HG.out
end Go.Proofs.Ytfanohebejemmaa
