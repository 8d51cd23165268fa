/-
  Rows of strings: comparing, copying, measuring; a row that came in.
-/
import Derived.Test.YtodlkjfpahggmaaJoin
import Derived.Test.YtodlkjfpahggmaaRow
import Derived.Deep.Strs
namespace Go.Proofs.Ytodlkjfpahggmaa
open Go.RowKit Go.Deep Go.ChangeShapes Go.WideShapes

theorem OSS.frozen {w : World} {lo g n c : Nat} {xs : List ByteArray} (h : OSS w lo (.slice (some ⟨g, 0, none⟩) n c) xs) (hn : xs.length = n) (k : Nat) : w.frozen? ⟨g, k, none⟩ = false := by
  subst hn
  exact World.ownsRow.frozenAt h k
theorem OSS.set {w : World} {lo g n c : Nat} {xs : List ByteArray} (h : OSS w lo (.slice (some ⟨g, 0, none⟩) n c) xs) (hn : xs.length = n) (k : Nat) (x : ByteArray) :
    OSS (w.setCell ⟨g, k, none⟩ (.string x)) lo (.slice (some ⟨g, 0, none⟩) n c) (xs.set k x) ∧ w.grownBy (w.setCell ⟨g, k, none⟩ (.string x)) (some g) := by
  subst hn
  have hs := World.ownsRow.stored h k (.string x)
  refine ⟨?_, hs.2⟩
  have h1 := hs.1
  unfold OSS
  rw [List.length_set]
  simpa only [strs, List.map_set] using h1
theorem OSS.made (w : World) (n : Nat) (hn : n ≤ maxLen) : OSS (w.alloc (.cells (madeCells #[.string ⟨#[]⟩] n) 9)) w.heap.size (.slice (some ⟨w.heap.size, 0, none⟩) n n) (List.replicate n ⟨#[]⟩) := by
  have h := World.ownsRow_lit (base := w.heap.size) (e := 9) (size := 1) w (madeCells #[.string ⟨#[]⟩] n) n (Nat.le_refl _) hn (by simp [size_madeCells])
  unfold OSS
  rw [List.length_replicate]
  simpa [toList_madeCells_one, strs] using h
theorem copyB_set {xs : List ByteArray} {n i : Nat} (z : ByteArray) (hn : n = xs.length) (hi : i < n) : (xs.take i ++ List.replicate (n - i) z).set i (xs.getD i ByteArray.empty) = xs.take (i + 1) ++ List.replicate (n - (i + 1)) z := by
  have hl : (xs.take i).length = i := by simp; omega
  rw [List.set_append_right _ _ (by omega), hl, Nat.sub_self, show n - i = (n - (i + 1)) + 1 from by omega, List.replicate_succ, List.set_cons_zero, takeB_succ (by omega), List.append_assoc, List.singleton_append]

set_option maxHeartbeats 800000 in
theorem eqStringS_same {w : World} {a b : Value} {xs : List ByteArray} (ha : RSS w a xs) (hb : RSS w b xs) :
    Calls Try.prog 33 #[a, b] w fun e w' => e = .returned (.bool true) ∧ Below w.heap.size w w' := by
  have hlx := ha.lenle
  obtain ⟨A, c, rfl, -, hx⟩ := ha
  obtain ⟨B, d, rfl, -, hy⟩ := hb
  obtain ⟨n, hn⟩ : ∃ n, n = xs.length := ⟨_, rfl⟩
  rw [← hn] at hx hy hlx ⊢
  have HX := Lib.hid hx
  have HY := Lib.hid hy
  clear hn hx hy
  have h0 : ((n : Int) != n) = false := by simp
  have HB := Lib.hid (Below.refl w.heap.size w)
  go_enter Try.func33, Try.ntmps33
  go_wp2
  go_loopw [5] (fun i wr => ∃ k : Nat, k ≤ n ∧ i = .int .i64 k ∧ Hid (Below w.heap.size w wr)) (fun i _ => n - (intOf i).toNat)
  case atStart => exact ⟨0, Nat.zero_le _, rfl, HB.out⟩
  case round =>
    obtain ⟨k, hk, rfl, HR⟩ := hrel
    by_cases hlt : k < n
    · obtain ⟨-, b1, o1, rfl, hb1, hc1⟩ := HX.out (by omega)
      obtain ⟨-, b2, o2, rfl, hb2, hc2⟩ := HY.out (by omega)
      have c1 := (HR.out.cell (p := ⟨b1, o1 + k, none⟩) hb1).trans (hc1 k hlt)
      have c2 := (HR.out.cell (p := ⟨b2, o2 + k, none⟩) hb2).trans (hc2 k hlt)
      generalize xs.getD k ByteArray.empty = x at c1 c2
      have h1 : (x.toList == x.toList) = true := by simp
      clear hc1 hc2
      go_wp2
      go_quiet (fail)
      go_wp2
      go_roundw
      case rel => exact ⟨k + 1, by omega, by go_num, bstepN HR.out _⟩
      case measure => simp [intOf]; omega
    · go_wp2
      go_ret
      exact ⟨rfl, HR.out⟩

def SzS (xs : List ByteArray) (r : Int) : Prop := (0 ≤ r ∧ xs.length ≤ 1048576 ∧ (∀ x ∈ xs, x.size ≤ 1048576) ∧ totB xs ≤ 1048576) ∨ r = -1
theorem size_le_tot {xs : List ByteArray} {x : ByteArray} (h : x ∈ xs) : x.size ≤ totB xs := by
  induction xs with
  | nil => cases h
  | cons y xs ih =>
    simp only [totB, List.map_cons, List.sum_cons] at *
    rcases List.mem_cons.1 h with rfl | h
    · omega
    · have := ih h; omega
/-- A slice of strings that came in. -/
theorem open_RSS {H : Type} {enc : TypeId × Value → H} {W : World} {base : Nat} {held : Bool} {A : Option Addr} {len cap : Nat} {d : DataW H} {p : List MemPlace}
    (h : DataW.Trod enc Try.prog W base (fun _ => true) held 32 (.slice A len cap) d p) : ∃ xs, RSS W (.slice A len cap) xs ∧ (∀ x ∈ xs, x.size ≤ maxLen) ∧ xs.length = len := by
  obtain ⟨fuel, hf⟩ := h
  rcases Go.Deep.open_strs Try.underlying32 Try.underlying9 (by kernel_rfl) hf with ⟨hcs, _⟩ | ⟨x, l, c, m, Sx, hcs, _, hl, hm, hmm, _, hcell⟩
  · simp [Value.cells] at hcs
    obtain ⟨rfl, rfl, rfl⟩ := hcs
    exact ⟨[], RSS.nil _ _ _, fun _ h => by simp at h, rfl⟩
  · simp [Value.cells] at hcs
    obtain ⟨rfl, rfl, rfl⟩ := hcs
    simp only [if_true] at hmm
    subst hmm
    refine ⟨(List.range len).map Sx, ⟨some x, m, by simp, by simp; omega, fun h0 => ?_⟩, fun y hy => ?_, by simp⟩
    rotate_left
    · obtain ⟨r, hr, rfl⟩ := List.mem_map.1 hy
      have hr' := List.mem_range.1 hr
      exact (hcell r (by omega)).2
    have h0' : 0 < len := by simpa using h0
    obtain ⟨b, off, spot⟩ := x
    have hc := (hcell 0 (by omega)).1
    have hspot : spot = none := by simpa [Addr.add] using World.cell?_spot hc
    subst hspot
    refine ⟨by simpa using hl, b, off, rfl, ?_, fun k hk => ?_⟩
    · have hb := block_lt hc
      simpa [Addr.add] using hb
    · have hk' : k < len := by simpa using hk
      have hc := (hcell k (by omega)).1
      rw [add_none] at hc
      rw [hc]
      simp [hk']

end Go.Proofs.Ytodlkjfpahggmaa
