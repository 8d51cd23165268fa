/-
  The number of ways, of the program.
-/
import Derived.Test.YtfanohebejemmaaWaysFn
import Derived.Test.YtfanohebejemmaaGroupOkI
import Derived.Test.YtfanohebejemmaaCyc
import Derived.Test.YtfanohebejemmaaClone
import Derived.Test.YtfanohebejemmaaActFn
import Derived.StillTailTactics
import Derived.BigRegion
namespace Go.Proofs.Ytfanohebejemmaa
open Go.RowKit Go.Deep

theorem RII.tail {w : World} {b off m cp cp' : Nat} {A' : Option Addr} {x : List Int} {gs : List (List Int)} (h : RII w (.slice (some ⟨b, off, none⟩) m cp) (x :: gs)) (hA : gs = [] ∨ A' = some ⟨b, off + 1, none⟩) : RII w (.slice A' gs.length cp') gs := by
  obtain ⟨A, c, hv, hl, hx⟩ := h
  simp only [Value.slice.injEq] at hv
  obtain ⟨rfl, -, -⟩ := hv
  obtain ⟨b', off', he, hb, hc⟩ := hx (by simp)
  simp only [Option.some.injEq, Addr.mk.injEq, and_true] at he
  obtain ⟨rfl, rfl⟩ := he
  simp only [List.length_cons] at hl hc
  refine ⟨A', cp', rfl, by omega, fun h0 => ?_⟩
  rcases hA with rfl | rfl
  · simp at h0
  · refine ⟨b, off + 1, rfl, hb, fun k hk => ?_⟩
    obtain ⟨u, hu, hr⟩ := hc (k + 1) (by omega)
    exact ⟨u, by rw [show off + 1 + k = off + (k + 1) from by omega]; exact hu, by simpa using hr⟩
theorem OIIh.cap {w : World} {lo hi n c : Nat} {A : Option Addr} {xss : List (List Int)} (h : OIIh w lo hi (.slice A n c) xss) : n ≤ c := by
  obtain ⟨vs, h1, _⟩ := h
  rcases h1.2 with ⟨hv, h0⟩ | ⟨g, cap, cur, hv, hg, hh, hn, _⟩
  · cases hv; omega
  · cases hv; exact hn
theorem RII.len {w : World} {A : Option Addr} {m cp : Nat} {gs : List (List Int)} (h : RII w (.slice A m cp) gs) : m = gs.length := by
  obtain ⟨_, _, hv, _⟩ := h; cases hv; rfl
theorem setset {left : List Int} {j : Nat} (hj : j < left.length) (x : Int) : (left.set j x).set j (left.getD j 0) = left := by
  rw [List.set_set]; simp [hj]

theorem OI.stored {w : World} {lo g n c : Nat} {left : List Int} (h : OI w lo (.slice (some ⟨g, 0, none⟩) n c) left) (hn : n = left.length) (j : Nat) (x : Int) : OI (w.setCell ⟨g, j, none⟩ (.int .i64 x)).drew lo (.slice (some ⟨g, 0, none⟩) n c) (left.set j x) ∧ Turned g (g + 1) w (w.setCell ⟨g, j, none⟩ (.int .i64 x)).drew := by
  obtain ⟨h1, h2⟩ := OI.set h hn.symm j x
  have t : Turned g (g + 1) w (w.setCell ⟨g, j, none⟩ (.int .i64 x)) := Turned.of_grown h2 (by simp [World.setCell]) fun k hk => by cases hk; omega
  exact ⟨h1, ⟨t.os, t.tape, t.output, t.size, t.block⟩⟩
theorem Turned.drewN {lo hi : Nat} {w wr : World} (h : Turned lo hi w wr) (n : Nat) : Turned lo hi w (wr.drewN n) := ⟨h.os, h.tape, h.output, h.size, h.block⟩

set_option maxHeartbeats 1600000 in
theorem implWays_any : ∀ (gs : List (List Int)) (w0 w : World) (A : Option Addr) (m cp g n c : Nat) (left : List Int),
    RII w0 (.slice A m cp) gs → m ≤ cp → (∀ x ∈ gs, 1 ≤ x.length ∧ x.length ≤ 10) → gs.length ≤ 10 → Below w0.heap.size w0 w → OI w w0.heap.size (.slice (some ⟨g, 0, none⟩) n c) left → n = left.length → Left left →
    Calls Try.prog 91 #[.slice A m cp, .slice (some ⟨g, 0, none⟩) n c] w fun e w' => e = .returned (.int .i64 ((ways (gs.map List.length) left : Nat) : Int)) ∧ OI w' w0.heap.size (.slice (some ⟨g, 0, none⟩) n c) left ∧ Turned g (g + 1) w w' := by
  intro gs
  induction gs with
  | nil =>
    intro w0 w A m cp g n c left ha hm hx hl hb ho hn hleft
    obtain rfl : m = 0 := ha.len
    have HO := Lib.hid ho
    have HW := Lib.hid (ways_nil left)
    clear ha hx hl hb ho hn hleft
    go_enter Try.func91, Try.ntmps91
    go_wp2
    go_ret
    exact ⟨retI (by rw [List.map_nil, HW.out]; rfl), HO.out, Turned.refl _ _ _⟩
  | cons x gs ih =>
    intro w0 w A m cp g n c left ha hm hx hl hb ho hn hleft
    have hml := ha.len
    rw [List.length_cons] at hml hl
    have HA := Lib.hid ha
    obtain ⟨_, _, hv, -, hx0⟩ := ha
    simp only [Value.slice.injEq] at hv
    obtain ⟨rfl, -, -⟩ := hv
    obtain ⟨b, off, rfl, hbb, hc0⟩ := hx0 (by simp)
    obtain ⟨u, hcu, hru⟩ := hc0 0 (by simp)
    rw [show ((x :: gs).getD 0 []) = x from rfl] at hru
    obtain ⟨A1, c1, rfl⟩ := hru.shape
    obtain ⟨kx, hkx⟩ : ∃ kx, kx = x.length := ⟨_, rfl⟩
    rw [← hkx] at hcu
    obtain ⟨hk1, hk10⟩ := hx x (by simp)
    rw [← hkx] at hk1 hk10
    rw [Nat.add_zero] at hcu
    obtain ⟨A', hif⟩ : ∃ A', (if cp = 1 then (some ⟨b, off, none⟩ : Option Addr) else some ⟨b, off + 1, none⟩) = A' := ⟨_, rfl⟩
    have hta : RII w0 (.slice A' gs.length (cp - 1)) gs := by
      refine RII.tail HA.out ?_
      by_cases h : cp = 1
      · left; exact List.eq_nil_of_length_eq_zero (by omega)
      · right; rw [← hif, if_neg h]
    have HT := Lib.hid hta
    have HIH := Lib.hid ih
    have HX := Lib.hid fun y (hy : y ∈ gs) => hx y (List.mem_cons_of_mem x hy)
    have HW : Hid (ways ((x :: gs).map List.length) left = waysTo kx (gs.map List.length) left n) := by rw [Hid, List.map_cons, ways_cons, hkx, hn]
    obtain ⟨ks, hks⟩ : ∃ ks, ks = gs.map List.length := ⟨_, rfl⟩
    rw [← hks] at HW
    have hks9 : ks.length ≤ 9 := by rw [hks, List.length_map]; omega
    have HK := Lib.hid hks
    have HB := Lib.hid hb
    have HLF := Lib.hid hleft
    have hn4 : n ≤ 4 := by rw [hn]; exact hleft.2.1
    have HO := Lib.hid ho
    have HN := Lib.hid hn
    obtain ⟨m', rfl⟩ : ∃ m', m = m' + 1 := ⟨gs.length, hml⟩
    have hm' : m' = gs.length := by omega
    rw [← hm'] at HT hl
    have HM := Lib.hid hm'
    have hmi : (((m' : Int) + 1) == 0) = false := beq_eq_false_iff_ne.2 (by omega)
    clear ih hx hx0 hc0 hru hkx hta hks hb hleft ho hn hml hm'
    go_enter Try.func91, Try.ntmps91
    go_wp2_with fail
    go_loopw [5, 12] (fun v i wr => ∃ j t : Nat, j ≤ n ∧ i = .int .i64 j ∧ v = .int .i64 t ∧ t ≤ 1048576 ∧ Hid (t = waysTo kx ks left j) ∧ Hid (OI wr w0.heap.size (.slice (some ⟨g, 0, none⟩) n c) left ∧ Turned g (g + 1) w wr)) (fun _ i _ => n - (intOf i).toNat)
    case atStart => exact ⟨0, 0, Nat.zero_le _, rfl, rfl, by omega, rfl, HO.out, Turned.refl _ _ _⟩
    case round =>
      obtain ⟨j, t, hj, rfl, rfl, ht, HT2, HR⟩ := hrel
      by_cases hlt : j < n
      · have hgl : w0.heap.size ≤ g := (HO.out.lt g rfl).1
        have BW : Hid (Below w0.heap.size w0 wr) := HB.out.trans (HR.out.2.below hgl)
        have e1 := (BW.out.cell (p := ⟨b, off, none⟩) hbb).trans hcu
        have e2 := HR.out.1.cell HN.out.symm j hlt
        have f2 := HR.out.1.frozen HN.out.symm j
        obtain ⟨y, hy⟩ : ∃ y, y = left.getD j 0 := ⟨_, rfl⟩
        have hy10 : 0 ≤ y ∧ y ≤ 10 := by rw [hy]; exact HLF.out.2.2 j (by rw [← HN.out]; exact hlt)
        obtain ⟨hy0, hy10⟩ := hy10
        have HS := Lib.hid (waysTo_succ kx ks left j)
        rw [← hy] at HS e2
        have HY := Lib.hid hy
        clear hy
        by_cases hle : (kx : Int) ≤ y
        · rw [if_pos hle] at HS
          go_wp2_with fail
          go_quiet (fail)
          go_wp2_with fail
          obtain ⟨w1, hw1⟩ : ∃ w1, w1 = wr.drewN nq := ⟨_, rfl⟩
          rw [← hw1]
          have E1 : w1.cell? ⟨b, off, none⟩ = some (.slice A1 kx c1) := by rw [hw1]; exact e1
          have E2 : w1.cell? ⟨g, j, none⟩ = some (.int .i64 y) := by rw [hw1]; exact e2
          have F2 : w1.frozen? ⟨g, j, none⟩ = false := by rw [hw1]; exact f2
          have HW1 := Lib.hid hw1
          clear hw1 e1 e2 f2
          go_region
          have H1 : Hid (OI w1 w0.heap.size (.slice (some ⟨g, 0, none⟩) n c) left ∧ Turned g (g + 1) w w1) := by rw [HW1.out]; exact ⟨OI.drewN HR.out.1 _, HR.out.2.drewN _⟩
          have hst := OI.stored H1.out.1 HN.out j (y - (kx : Int))
          obtain ⟨w2, hw2⟩ : ∃ w2, w2 = (w1.setCell ⟨g, j, none⟩ (.int .i64 (y - (kx : Int)))).drew := ⟨_, rfl⟩
          rw [← hw2] at hst ⊢
          have H2 := Lib.hid hst
          have hgl2 : w0.heap.size ≤ g := (HO.out.lt g rfl).1
          have B2 : Hid (Below w0.heap.size w0 w2) := HB.out.trans ((H1.out.2.trans hst.2).below hgl2)
          clear hst hw2 E1 E2 F2
          have HL2 : Hid (Left (left.set j (y - (kx : Int)))) := HLF.out.set (by rw [← HN.out]; exact hlt) (by omega) (by omega)
          go_wp2_with fail
          refine (HIH.out w0 w2 A' m' (cp - 1) g n c _ HT.out (by omega) HX.out (by have := HM.out; omega) B2.out H2.out.1 (by rw [List.length_set]; exact HN.out) HL2.out).mono ?_
          rw [← HK.out]
          obtain ⟨z, hz⟩ : ∃ z, z = ways ks (left.set j (y - (kx : Int))) := ⟨_, rfl⟩
          rw [← hz] at HS ⊢
          rintro e w3 ⟨rfl, o3, t3⟩
          have T3 : Hid (Turned g (g + 1) w w3) := (H1.out.2.trans H2.out.2).trans t3
          have B3 : Hid (Below w0.heap.size w0 w3) := HB.out.trans (T3.out.below hgl2)
          have O3 := Lib.hid o3
          have e1 := (B3.out.cell (p := ⟨b, off, none⟩) hbb).trans hcu
          have e2 := o3.cell (by rw [List.length_set]; exact HN.out.symm) j hlt
          have f2 := o3.frozen (by rw [List.length_set]; exact HN.out.symm) j
          rw [show (left.set j (y - (kx : Int))).getD j 0 = y - (kx : Int) from by have : j < left.length := (by rw [← HN.out]; exact hlt); simp [this]] at e2
          have hzt : t + z ≤ 1048576 := by
            have h1 := waysTo_le (k := kx) (ks := ks) (left := left) (j := j + 1) (by rw [← HN.out]; exact hn4) (by omega) hks9
            rw [HS.out, ← HT2.out] at h1; exact h1
          have HZ : Hid (t + z = waysTo kx ks left (j + 1)) := by rw [Hid, HS.out, HT2.out]
          clear o3 t3 hz HS
          go_wp2_with fail
          go_region
          have hst := OI.stored O3.out (by rw [List.length_set]; exact HN.out) j y
          obtain ⟨w4, hw4⟩ : ∃ w4, w4 = (w3.setCell ⟨g, j, none⟩ (.int .i64 y)).drew := ⟨_, rfl⟩
          rw [← hw4] at hst ⊢
          rw [show (left.set j (y - (kx : Int))).set j y = left from by rw [HY.out]; exact setset (by rw [← HN.out]; exact hlt) _] at hst
          have H4 := Lib.hid (And.intro hst.1 (T3.out.trans hst.2))
          clear hst hw4 e1 e2 f2
          go_wp2_with fail
          go_roundw
          case rel => exact ⟨j + 1, t + z, by omega, by go_num, by go_num, hzt, HZ.out, H4.out⟩
          case measure => simp [intOf]; omega
        · rw [if_neg hle, Nat.add_zero, ← HT2.out] at HS
          have HN2 := Lib.hid HS.out.symm
          clear HS
          go_wp2_with fail
          go_quiet (fail)
          go_wp2_with fail
          go_roundw
          case rel => exact ⟨j + 1, t, by omega, by go_num, rfl, ht, HN2.out, OI.drewN HR.out.1 _, HR.out.2.drewN _⟩
          case measure => simp [intOf]; omega
      · go_wp2_with fail
        go_ret
        obtain rfl : j = n := by omega
        exact ⟨retI (by rw [HW.out, HT2.out]), HR.out.1, HR.out.2⟩
end Go.Proofs.Ytfanohebejemmaa
