/-
  Rows of strings: comparing, copying, measuring; a row that came in.
-/
import Derived.Test.YtkibbomfpklghaaJoin
import Derived.Test.YtkibbomfpklghaaParse
import Derived.Test.YtkibbomfpklghaaRow
import Derived.Deep.Strs
namespace Go.Proofs.Ytkibbomfpklghaa
open Go.RowKit Go.Deep Go.ChangeShapes Go.WideShapes

theorem OSS.frozen {w : World} {lo g n c : Nat} {xs : List ByteArray} (h : OSS w lo (.slice (some ⟨g, 0, none⟩) n c) xs) (hn : xs.length = n) (k : Nat) : w.frozen? ⟨g, k, none⟩ = false := by
  subst hn
  exact World.ownsRow.frozenAt h k
theorem OSS.set {w : World} {lo g n c : Nat} {xs : List ByteArray} (h : OSS w lo (.slice (some ⟨g, 0, none⟩) n c) xs) (hn : xs.length = n) (k : Nat) (x : ByteArray) :
    OSS (w.setCell ⟨g, k, none⟩ (.string x)) lo (.slice (some ⟨g, 0, none⟩) n c) (xs.set k x) ∧ w.grownBy (w.setCell ⟨g, k, none⟩ (.string x)) (some g) := by
  subst hn
  have hs := World.ownsRow.stored h k (.string x)
  refine ⟨?_, hs.2⟩
  have h1 := hs.1
  unfold OSS
  rw [List.length_set]
  simpa only [strs, List.map_set] using h1
theorem OSS.made (w : World) (n : Nat) (hn : n ≤ maxLen) : OSS (w.alloc (.cells (madeCells #[.string ⟨#[]⟩] n) 9)) w.heap.size (.slice (some ⟨w.heap.size, 0, none⟩) n n) (List.replicate n ⟨#[]⟩) := by
  have h := World.ownsRow_lit (base := w.heap.size) (e := 9) (size := 1) w (madeCells #[.string ⟨#[]⟩] n) n (Nat.le_refl _) hn (by simp [size_madeCells])
  unfold OSS
  rw [List.length_replicate]
  simpa [toList_madeCells_one, strs] using h
theorem copyB_set {xs : List ByteArray} {n i : Nat} (z : ByteArray) (hn : n = xs.length) (hi : i < n) : (xs.take i ++ List.replicate (n - i) z).set i (xs.getD i ByteArray.empty) = xs.take (i + 1) ++ List.replicate (n - (i + 1)) z := by
  have hl : (xs.take i).length = i := by simp; omega
  rw [List.set_append_right _ _ (by omega), hl, Nat.sub_self, show n - i = (n - (i + 1)) + 1 from by omega, List.replicate_succ, List.set_cons_zero, takeB_succ (by omega), List.append_assoc, List.singleton_append]

set_option maxHeartbeats 800000 in
theorem toStringS_any {w : World} {a : Value} {xs : List ByteArray} (h : RSS w a xs) (hx : xs.length ≤ 1048576 ∧ ∀ x ∈ xs, x.size ≤ 1048576) :
    Calls Try.prog 15 #[a] w fun e w' => ∃ v, e = .returned v ∧ OSS w' w.heap.size v xs ∧ Below w.heap.size w w' := by
  obtain ⟨A, c, rfl, _, hA⟩ := h
  obtain ⟨n, hn⟩ : ∃ n, n = xs.length := ⟨_, rfl⟩
  have hx1 : n ≤ 1048576 := by have := hx.1; omega
  rw [← hn] at hA ⊢
  have hmk := run_make_row' (P := Try.prog) 25 9 (.string ⟨#[]⟩) 16 Try.underlying25 string_info rfl .i64 .i64 n (by omega) (by omega)
  obtain ⟨g, hg⟩ : ∃ g, g = w.heap.size := ⟨_, rfl⟩
  have HG := Lib.hid hg
  have HL := Lib.hid hn
  have HA := Lib.hid hA
  clear hA hn hg hx
  go_enter Try.func15, Try.ntmps15
  go_wp2
  have h0 := OSS.made w n (by unfold maxLen; omega)
  have hb0 : Below w.heap.size w (w.alloc (.cells (madeCells #[.string ⟨#[]⟩] n) 9)) := (Below.refl _ _).alloc (Nat.le_refl _) _
  rw [← HG.out] at h0 ⊢
  have H0 := Lib.hid (And.intro h0 hb0)
  clear h0 hb0 hmk
  go_loopw [4] (fun i wr => ∃ j : Nat, j ≤ n ∧ i = .int .i64 j ∧ Hid (OSS wr g (.slice (some ⟨g, 0, none⟩) n n) (xs.take j ++ List.replicate (n - j) ⟨#[]⟩) ∧ Below w.heap.size w wr)) (fun i _ => n - (intOf i).toNat)
  case atStart => exact ⟨0, Nat.zero_le _, rfl, by simpa using H0.out.1, H0.out.2⟩
  case round =>
    obtain ⟨j, hj, rfl, HR⟩ := hrel
    by_cases hlt : j < n
    · have hjl : j < xs.length := by have := HL.out; omega
      obtain ⟨-, b, off, rfl, hb, hc⟩ := HA.out (by have := HL.out; omega)
      have c1 := (HR.out.2.cell (p := ⟨b, off + j, none⟩) hb).trans (hc j (by have := HL.out; omega))
      have hlen : (xs.take j ++ List.replicate (n - j) (⟨#[]⟩ : ByteArray)).length = n := by have := HL.out; simp; omega
      have c2 := HR.out.1.cell hlen j (by omega)
      have f2 := HR.out.1.frozen hlen j
      have hs := HR.out.1.set hlen j (xs.getD j ByteArray.empty)
      rw [copyB_set _ HL.out (by omega)] at hs
      have hb' := HR.out.2.setCell (p := ⟨g, j, none⟩) (by have := HG.out; simp; omega) (.string (xs.getD j ByteArray.empty))
      have HS := Lib.hid hs.1
      have HB' := Lib.hid hb'
      clear hlen hs hb' hc hjl
      generalize xs.getD j ByteArray.empty = x at *
      go_wp2
      go_roundw
      case rel => exact ⟨j + 1, by omega, by go_num, HS.out, HB'.out⟩
      case measure => simp [intOf]; omega
    · go_wp2
      go_ret
      obtain rfl : j = n := by omega
      have := HL.out
      refine ⟨_, rfl, ?_, HR.out.2⟩
      rw [← HG.out]
      have ho := HR.out.1
      rw [Nat.sub_self, List.replicate_zero, List.append_nil, List.take_of_length_le (by omega)] at ho
      exact ho

set_option maxHeartbeats 800000 in
theorem eqStringS_same {w : World} {a b : Value} {xs : List ByteArray} (ha : RSS w a xs) (hb : RSS w b xs) :
    Calls Try.prog 17 #[a, b] w fun e w' => e = .returned (.bool true) ∧ Below w.heap.size w w' := by
  have hlx := ha.lenle
  obtain ⟨A, c, rfl, -, hx⟩ := ha
  obtain ⟨B, d, rfl, -, hy⟩ := hb
  obtain ⟨n, hn⟩ : ∃ n, n = xs.length := ⟨_, rfl⟩
  rw [← hn] at hx hy hlx ⊢
  have HX := Lib.hid hx
  have HY := Lib.hid hy
  clear hn hx hy
  have h0 : ((n : Int) != n) = false := by simp
  have HB := Lib.hid (Below.refl w.heap.size w)
  go_enter Try.func17, Try.ntmps17
  go_wp2
  go_loopw [5] (fun i wr => ∃ k : Nat, k ≤ n ∧ i = .int .i64 k ∧ Hid (Below w.heap.size w wr)) (fun i _ => n - (intOf i).toNat)
  case atStart => exact ⟨0, Nat.zero_le _, rfl, HB.out⟩
  case round =>
    obtain ⟨k, hk, rfl, HR⟩ := hrel
    by_cases hlt : k < n
    · obtain ⟨-, b1, o1, rfl, hb1, hc1⟩ := HX.out (by omega)
      obtain ⟨-, b2, o2, rfl, hb2, hc2⟩ := HY.out (by omega)
      have c1 := (HR.out.cell (p := ⟨b1, o1 + k, none⟩) hb1).trans (hc1 k hlt)
      have c2 := (HR.out.cell (p := ⟨b2, o2 + k, none⟩) hb2).trans (hc2 k hlt)
      generalize xs.getD k ByteArray.empty = x at c1 c2
      have h1 : (x.toList == x.toList) = true := by simp
      clear hc1 hc2
      go_wp2
      go_quiet (fail)
      go_wp2
      go_roundw
      case rel => exact ⟨k + 1, by omega, by go_num, bstepN HR.out _⟩
      case measure => simp [intOf]; omega
    · go_wp2
      go_ret
      exact ⟨rfl, HR.out⟩

def SzS (xs : List ByteArray) (r : Int) : Prop := (0 ≤ r ∧ xs.length ≤ 1048576 ∧ (∀ x ∈ xs, x.size ≤ 1048576) ∧ totB xs ≤ 1048576) ∨ r = -1
theorem size_le_tot {xs : List ByteArray} {x : ByteArray} (h : x ∈ xs) : x.size ≤ totB xs := by
  induction xs with
  | nil => cases h
  | cons y xs ih =>
    simp only [totB, List.map_cons, List.sum_cons] at *
    rcases List.mem_cons.1 h with rfl | h
    · omega
    · have := ih h; omega
set_option maxHeartbeats 800000 in
theorem szStringS_any {w : World} {a : Value} {xs : List ByteArray} (ha : RSS w a xs) (hsz : ∀ x ∈ xs, x.size ≤ maxLen) :
    Calls Try.prog 13 #[a, .int .i64 1048576] w fun e w' => ∃ r, e = .returned (.int .i64 r) ∧ SzS xs r ∧ Below w.heap.size w w' := by
  have hl := ha.lenle
  obtain ⟨A, c, rfl, -, hA⟩ := ha
  obtain ⟨n, hn⟩ : ∃ n, n = xs.length := ⟨_, rfl⟩
  rw [← hn] at hA hl ⊢
  have HL := Lib.hid hn
  have HA := Lib.hid hA
  clear hA hn
  by_cases h : (1048576 : Int) - (n : Int) < 0
  · go_enter Try.func13, Try.ntmps13
    go_wp2
    go_ret
    exact ⟨_, rfl, .inr rfl, Below.refl _ _⟩
  · have hn2 : n ≤ 1048576 := by omega
    go_enter Try.func13, Try.ntmps13
    go_wp2
    go_loop [1, 5] (fun q i => ∃ (j : Nat) (l : Int), j ≤ n ∧ i = .int .i64 j ∧ q = .int .i64 l ∧ 0 ≤ l ∧ l ≤ 1048576 ∧ Hid (l + (totB (xs.take j) : Int) ≤ 1048576)) (fun _ i => n - (intOf i).toNat)
    case atStart => exact ⟨0, _, Nat.zero_le _, rfl, rfl, by omega, by omega, by simp [Hid, totB]; omega⟩
    case round =>
      obtain ⟨j, l, hj, rfl, rfl, hl0, hl1, HO⟩ := hrel
      by_cases hlt : j < n
      · have hjl : j < xs.length := by have := HL.out; omega
        obtain ⟨-, b, off, rfl, hb, hc⟩ := HA.out (by omega)
        have c1 := hc j hlt
        have hstep : totB (xs.take (j + 1)) = totB (xs.take j) + (xs.getD j ByteArray.empty).size := by rw [takeB_succ hjl, totB_snoc]
        have hxb := hsz (xs.getD j ByteArray.empty) (by simp [List.getElem?_eq_getElem hjl])
        obtain ⟨x, hx⟩ : ∃ x, x = xs.getD j ByteArray.empty := ⟨_, rfl⟩
        rw [← hx] at c1 hstep hxb
        obtain ⟨m, hm⟩ : ∃ m, m = x.size := ⟨_, rfl⟩
        have HST : Hid (totB (xs.take (j + 1)) = totB (xs.take j) + m) := by rw [hm]; exact hstep
        have hxm : (x.size : Int) = (m : Int) := by rw [hm]
        clear hc hjl hstep hx
        by_cases hneg : l - (m : Int) < 0
        · have z1 : decide (l - (m : Int) < 0) = true := decide_eq_true hneg
          by_cases hbig : m ≤ 9223372036854775807
          · rw [hm] at z1 hneg hbig
            clear hm
            go_wp2
            go_ret
            exact ⟨_, rfl, .inr rfl, Below.refl _ _⟩
          · exfalso
            have := hxb
            unfold maxLen at this
            omega
        · have z1 : decide (l - (m : Int) < 0) = false := decide_eq_false hneg
          have hm9 : m ≤ 1048576 := by omega
          have HF : Hid ((l - (m : Int)) + (totB (xs.take (j + 1)) : Int) ≤ 1048576) := by have h1 := HST.out; have h2 := HO.out; exact (by omega : (l - (m : Int)) + (totB (xs.take (j + 1)) : Int) ≤ 1048576)
          rw [hm] at z1 hneg hm9 HF
          clear hm
          go_wp2
          go_round
          case rel => exact ⟨j + 1, l - (x.size : Int), by omega, by go_num, by first | rfl | go_num, by omega, by omega, HF.out⟩
          case measure => simp [intOf]; omega
      · go_wp2
        go_ret
        have hL := HL.out
        have hO := HO.out
        rw [List.take_of_length_le (by omega)] at hO
        exact ⟨_, rfl, .inl ⟨hl0, by omega, fun x hx => by have := size_le_tot hx; omega, by omega⟩, Below.refl _ _⟩

/-- A slice of strings that came in. -/
theorem open_RSS {H : Type} {enc : TypeId × Value → H} {W : World} {base : Nat} {held : Bool} {A : Option Addr} {len cap : Nat} {d : DataW H} {p : List MemPlace}
    (h : DataW.Trod enc Try.prog W base (fun _ => true) held 25 (.slice A len cap) d p) : ∃ xs, RSS W (.slice A len cap) xs ∧ (∀ x ∈ xs, x.size ≤ maxLen) ∧ xs.length = len := by
  obtain ⟨fuel, hf⟩ := h
  rcases Go.Deep.open_strs Try.underlying25 Try.underlying9 (by kernel_rfl) hf with ⟨hcs, _⟩ | ⟨x, l, c, m, Sx, hcs, _, hl, hm, hmm, _, hcell⟩
  · simp [Value.cells] at hcs
    obtain ⟨rfl, rfl, rfl⟩ := hcs
    exact ⟨[], RSS.nil _ _ _, fun _ h => by simp at h, rfl⟩
  · simp [Value.cells] at hcs
    obtain ⟨rfl, rfl, rfl⟩ := hcs
    simp only [if_true] at hmm
    subst hmm
    refine ⟨(List.range len).map Sx, ⟨some x, m, by simp, by simp; omega, fun h0 => ?_⟩, fun y hy => ?_, by simp⟩
    rotate_left
    · obtain ⟨r, hr, rfl⟩ := List.mem_map.1 hy
      have hr' := List.mem_range.1 hr
      exact (hcell r (by omega)).2
    have h0' : 0 < len := by simpa using h0
    obtain ⟨b, off, spot⟩ := x
    have hc := (hcell 0 (by omega)).1
    have hspot : spot = none := by simpa [Addr.add] using World.cell?_spot hc
    subst hspot
    refine ⟨by simpa using hl, b, off, rfl, ?_, fun k hk => ?_⟩
    · have hb := block_lt hc
      simpa [Addr.add] using hb
    · have hk' : k < len := by simpa using hk
      have hc := (hcell k (by omega)).1
      rw [add_none] at hc
      rw [hc]
      simp [hk']

theorem implJoin_arg {w : World} {a : Value} {l : List ByteArray} (ha : RSS w a l) (sep : ByteArray) (hl : l.length ≤ 1048576) (hsz : sep.size * l.length + totB l ≤ 140737488355328) :
    Calls Try.prog 16 #[a, .string sep] w fun e w' => e = .returned (.string (joinB l sep)) ∧ Below w.heap.size w w' := implJoin_any sep ha hl hsz
theorem specJoin_arg {w : World} {a : Value} {l : List ByteArray} (ha : RSS w a l) (sep : ByteArray) (hl : l.length ≤ 1048576) (hsz : sep.size * l.length + totB l ≤ 140737488355328) :
    Calls Try.prog 14 #[a, .string sep] w fun e w' => e = .returned (.string (joinB l sep)) ∧ Below w.heap.size w w' := specJoin_any sep ha hl hsz
end Go.Proofs.Ytkibbomfpklghaa
