/-
  slices.Repeat of a slice of one integer.
-/
import Derived.Test.YtfanohebejemmaaMem
import Derived.Test.YtfanohebejemmaaShelf
import Derived.Laws.CopyOwn
namespace Go.Proofs.Ytfanohebejemmaa
open Go.RowKit Go.Deep

theorem mul_one_any {w : World} (n : Nat) (hn : n ≤ 1000) :
    Calls Try.prog 87 #[.int .u64 1, .int .u64 n] w fun e w' => e = .returned (.tuple #[.int .u64 0, .int .u64 n]) ∧ w' = w := by
  have h := Sh.bits_Mul 1 n (by omega) (by omega) w
  rw [Nat.one_mul, Nat.div_eq_of_lt (by omega), Nat.mod_eq_of_lt (by omega)] at h
  exact h
/-- The row while it is filled. -/
def rep (z : Int) (m n : Nat) : List Int := List.replicate m z ++ List.replicate (n - m) 0
theorem rep_len {z : Int} {m n : Nat} (h : m ≤ n) : (rep z m n).length = n := by simp [rep]; omega
theorem rep_splice {z : Int} {m k n : Nat} (h : m + k ≤ n) : splice (ints (rep z m n)) m (List.replicate k (.int .i64 z)) = ints (rep z (m + k) n) := by
  apply List.ext_getElem?
  intro i
  simp only [splice, ints, rep, List.map_append, List.map_replicate]
  by_cases h1 : i < m
  · rw [List.getElem?_append_left (by simp; omega), List.getElem?_take_of_lt h1, List.getElem?_append_left (by simp; omega), List.getElem?_append_left (by simp; omega)]
    simp [h1, show i < m + k by omega]
  · rw [List.getElem?_append_right (by simp; omega)]
    by_cases h2 : i < m + k
    · rw [List.getElem?_append_left (by simp; omega), List.getElem?_append_left (by simp; omega)]
      have h3 : i - m < k := by omega
      simp [h2, h3]
    · have e : List.take m (List.replicate m (Value.int .i64 z) ++ List.replicate (n - m) (Value.int .i64 0)) = List.replicate m (.int .i64 z) := by simp
      have hr : (List.replicate (m + k) (Value.int .i64 z) ++ List.replicate (n - (m + k)) (Value.int .i64 0))[i]? = if i < n then some (.int .i64 0) else none := by
        rw [List.getElem?_append_right (by rw [List.length_replicate]; omega), List.length_replicate, List.getElem?_replicate]
        by_cases h3 : i < n
        · rw [if_pos (by omega), if_pos h3]
        · rw [if_neg (by omega), if_neg h3]
      rw [hr, e]
      simp only [List.length_replicate]
      rw [List.getElem?_append_right (by rw [List.length_replicate]; omega)]
      simp only [List.length_replicate, List.getElem?_drop]
      rw [List.getElem?_append_right (by rw [List.length_replicate]; omega)]
      simp only [List.length_replicate]
      rw [List.getElem?_replicate]
      by_cases h3 : i < n
      · rw [if_pos (by omega), if_pos h3]
      · rw [if_neg (by omega), if_neg h3]

theorem below_heap {w w1 w2 : World} {B : Nat} (h : Below B w w1) (e1 : w2.heap = w1.heap := by rfl) (e2 : w2.os = w1.os := by rfl) (e3 : w2.tape = w1.tape := by rfl) (e4 : w2.output = w1.output := by rfl) : Below B w w2 := ⟨e2.trans h.os, e3.trans h.tape, e4.trans h.output, by rw [e1]; exact h.size, fun k hk => by rw [e1]; exact h.block k hk⟩
theorem new_row (w : World) (C : Array Value) (t : TypeId) : (w.alloc (.cells C t)).heap[w.heap.size]? = some (.cells C t (0, 0)) := by
  show (w.heap.push _)[w.heap.size]? = _
  simp

theorem step_copy45 {ops : Array Oper} {a : Act} {w : World} {K : Act → World → Prop} {Q : Exit → Act → World → Prop} {E : Prop} {ty : TypeId} {pos : String} {aft : Array Edge}
    (hsz : (Try.prog.info? 3).map (·.size) = some 1)
    {dp sp : Option Addr} {dLen dCap sLen sCap : Nat} (hd : a.eval (.tmp 41) = .slice dp dLen dCap) (hs : a.eval (.tmp 44) = .slice sp sLen sCap)
    {g off : Nat} {cur : List Value} (hg : w.heap[g]? = some (.cells cur.toArray 3 (0, 0))) {cs : List Value} (hn : cs.length = Nat.min sLen dLen)
    (hpos : 0 < cs.length → dp = some ⟨g, off, none⟩ ∧ ∃ ad, sp = some ad ∧ ∀ j v, cs[j]? = some v → w.cell? (ad.add j) = some v)
    (hfit : off + cs.length ≤ cur.length) (h1 : ∀ v ∈ cs, v.oneCell' = true) {B : Nat} {w0 : World} (hb : RowKit.Below B w0 w) (hBg : B ≤ g)
    (h : ∀ w', RowKit.Hid (w'.heap[g]? = some (.cells (splice cur off cs).toArray 3 (0, 0))) → RowKit.Below B w0 w' → K (a.put (some 45) (goInt cs.length)) w') :
    if Region.wanted { dst := some 45, op := .call { callee := .builtin .copy, args := #[.tmp 41, .tmp 44], argTypes := #[27, 27] }, type := ty, pos := pos, after := aft, guard := none } (yielded ops a.tmps) = true then
      Oper.wp Try.prog { dst := some 45, op := .call { callee := .builtin .copy, args := #[.tmp 41, .tmp 44], argTypes := #[27, 27] }, type := ty, pos := pos, after := aft, guard := none } a w K Q else E :=
  step_copy_splice rfl (.tmp 41) (.tmp 44) 27 27 rfl 3 Try.underlying27 hsz dp sp dLen dCap sLen sCap hd hs g off cur 3 hg cs hn hpos hfit h1 B w0 hb hBg h

set_option maxHeartbeats 1600000 in
set_option maxRecDepth 100000 in
theorem repeat1_any {w : World} {v : Value} {z : Int} (ha : RI w v [z]) (n : Nat) (h1 : 1 ≤ n) (hn : n ≤ 1000) :
    Calls Try.prog 70 #[v, .int .i64 n] w fun e w' => ∃ v', e = .returned v' ∧ OI w' w.heap.size v' (List.replicate n z) ∧ Below w.heap.size w w' := by
  obtain ⟨A, c, rfl, -, hx⟩ := ha
  obtain ⟨b, off, rfl, hb, hc⟩ := hx (by simp)
  have hc0 : w.cell? ⟨b, off, none⟩ = some (.int .i64 z) := hc 0 (by simp)
  have HC := Lib.hid hc0
  have hmk := run_make_row' (P := Try.prog) 27 3 (.int .i64 0) 8 Try.underlying27 int_info rfl .i64 .i64 n (by omega) (by omega)
  have hz1 : decide ((n : Int) < 0) = false := decide_eq_false (by omega)
  have hz2 : decide ((9223372036854775807 : Int) < (n : Int)) = false := decide_eq_false (by omega)
  clear hc hc0 hx
  go_enter Try.func70, Try.ntmps70
  go_wp2_with fail
  refine (mul_one_any n hn).mono ?_
  rintro e w1 ⟨rfl, rfl⟩
  have hrow : (w1.alloc (.cells (madeCells #[.int .i64 0] n) 3)).heap[w1.heap.size]? = some (.cells (ints (rep z 0 n)).toArray 3 (0, 0)) := by
    have e : (madeCells #[.int .i64 0] n) = (ints (rep z 0 n)).toArray := by
      apply Array.toList_inj.1
      rw [toList_madeCells_one]; simp [rep, ints]
    rw [e]; exact new_row _ _ _
  have HR := Lib.hid (And.intro hrow ((Below.refl w1.heap.size w1).alloc (Nat.le_refl _) (.cells (madeCells #[.int .i64 0] n) 3)))
  have hsi : (Try.prog.info? 3).map (·.size) = some 1 := by kernel_rfl
  have HSI := Lib.hid hsi
  have HW : Hid (Below w1.heap.size w1 (w1.alloc (.cells (madeCells #[.int .i64 0] n) 3))) := HR.out.2
  have HSRC : Hid (∀ j v, [Value.int .i64 z][j]? = some v → (w1.alloc (.cells (madeCells #[.int .i64 0] n) 3)).cell? (Addr.add ⟨b, off, none⟩ j) = some v) := by
    intro j v hj
    match j, hj with
    | 0, hj =>
      simp at hj; subst hj
      have : (Addr.add ⟨b, off, none⟩ 0) = ⟨b, off, none⟩ := by simp [Addr.add]
      rw [this]; exact (HW.out.cell (p := ⟨b, off, none⟩) hb).trans HC.out
  clear hrow hsi
  have HN1 : Hid ([Value.int .i64 z].length = Nat.min 1 n) := (show 1 = min 1 n from (Nat.min_eq_left h1).symm)
  have HFI : Hid (0 + [Value.int .i64 z].length ≤ (ints (rep z 0 n)).length) := by rw [Hid, List.length_map, rep_len (by omega)]; exact h1
  have HON : Hid (∀ v ∈ [Value.int .i64 z], v.oneCell' = true) := fun v hv => by rw [List.mem_singleton.1 hv]; rfl
  go_wp2_with (refine wpList_copy_splice rfl (.tmp 31) (.tmp 32) 27 27 rfl 3 Try.underlying27 HSI.out _ _ _ _ _ _ rfl rfl w1.heap.size 0 (ints (rep z 0 n)) 3 HR.out.1 [.int .i64 z] HN1.out (fun _ => ⟨rfl, _, rfl, HSRC.out⟩) HFI.out HON.out w1.heap.size w1 HW.out (Nat.le_refl _) ?_; intro w2 hg2 hb2; rw [show goInt [Value.int .i64 z].length = Value.int .i64 1 from rfl])
  have h0 : Hid (w2.heap[w1.heap.size]? = some (.cells (ints (rep z 1 n)).toArray 3 (0, 0)) ∧ Below w1.heap.size w1 w2) := by
    refine ⟨?_, hb2⟩
    have e := rep_splice (z := z) (m := 0) (k := 1) (n := n) (by omega)
    rw [List.replicate_one, Nat.zero_add] at e
    rw [hg2.out, e]
  clear hg2 hb2 HSRC HW HR
  go_loopw [8] (fun i wr => ∃ m : Nat, 1 ≤ m ∧ m ≤ n ∧ i = .int .i64 m ∧ Hid (wr.heap[w1.heap.size]? = some (.cells (ints (rep z m n)).toArray 3 (0, 0)) ∧ Below w1.heap.size w1 wr)) (fun i _ => n - (intOf i).toNat)
  case atStart => exact ⟨1, by omega, by omega, rfl, h0.out⟩
  case round =>
    obtain ⟨m, hm1, hm, rfl, HR⟩ := hrel
    by_cases hlt : m < n
    · obtain ⟨k, hk⟩ : ∃ k, k = min m (n - m) := ⟨_, rfl⟩
      have hne : ¬ n = m := by omega
      have hk1 : 1 ≤ k := by omega
      have hkm : k ≤ m := by omega
      have hkn : m + k ≤ n := by omega
      obtain ⟨cs, hcs⟩ : ∃ cs, cs = List.replicate k (Value.int .i64 z) := ⟨_, rfl⟩
      have HN1 : Hid (cs.length = Nat.min m (n - m)) := by rw [Hid, hcs, List.length_replicate, hk]
      have HFI : Hid (m + cs.length ≤ (ints (rep z m n)).length) := by rw [Hid, hcs, List.length_map, rep_len (by omega), List.length_replicate]; exact hkn
      have HON : Hid (∀ v ∈ cs, v.oneCell' = true) := fun v hv => by rw [hcs] at hv; rw [List.eq_of_mem_replicate hv]; rfl
      have HSRC : Hid (∀ j v, cs[j]? = some v → wr.cell? (Addr.add ⟨w1.heap.size, 0, none⟩ j) = some v) := by
        intro j v hj
        rw [hcs] at hj
        have hjk : j < k := by
          rcases Nat.lt_or_ge j k with h | h
          · exact h
          · rw [List.getElem?_eq_none (by simpa using h)] at hj; cases hj
        have e : (Addr.add ⟨w1.heap.size, 0, none⟩ j) = ⟨w1.heap.size, j, none⟩ := by unfold Addr.add; split <;> simp_all
        rw [e]
        simp only [World.cell?, HR.out.1, Option.isSome_none, Bool.false_eq_true, if_false]
        simp [hjk] at hj
        subst hj
        unfold ints rep
        rw [List.map_append, List.map_replicate, List.getElem?_toArray, List.getElem?_append_left (by rw [List.length_replicate]; omega)]
        exact List.getElem?_replicate_of_lt (by omega)
      have HL : Hid (cs.length = k) := by rw [Hid, hcs]; exact List.length_replicate
      have HCS := Lib.hid hcs
      obtain ⟨row, hrow⟩ : ∃ row, row = ints (rep z m n) := ⟨_, rfl⟩
      have HROW := Lib.hid hrow
      rw [← hrow] at HR HFI
      clear hk hcs hrow
      go_wp2_with fail
      go_region_law (refine step_copy_splice rfl (.tmp 41) (.tmp 44) 27 27 rfl 3 Try.underlying27 HSI.out (some ⟨w1.heap.size, m, none⟩) (some ⟨w1.heap.size, 0, none⟩) (n - m) (n - m) m n (by simp [Act.eval, Act.put]) (by simp [Act.eval, Act.put]) w1.heap.size m row 3 HR.out.1 cs HN1.out (fun _ => ⟨rfl, ⟨w1.heap.size, 0, none⟩, rfl, HSRC.out⟩) HFI.out HON.out w1.heap.size w1 (below_heap HR.out.2) (Nat.le_refl _) ?_; intro w4 hg4 hb4)
      have hfin : Hid (w4.heap[w1.heap.size]? = some (.cells (ints (rep z (m + k) n)).toArray 3 (0, 0)) ∧ Below w1.heap.size w1 w4) := by
        refine ⟨?_, hb4⟩
        rw [hg4.out, HROW.out, HCS.out, rep_splice hkn]
      clear hg4 hb4
      rw [HL.out]
      have hwr : IntKind.i64.wrap ((m : Int) + (k : Int)) = ((m + k : Nat) : Int) := by rw [IntKind.wrap_i64]; omega
      simp only [hwr]
      go_simp
      go_roundw
      case rel => exact ⟨_, _, _, _, _, _, _, _, _, _, _, _, _, _, ⟨m + k, by omega, by omega, by rw [Int.natCast_add], hfin⟩, rfl⟩
      case measure => simp [intOf]; omega
    · go_wp2_with fail
      go_ret
      obtain rfl : m = n := by omega
      have e : rep z m m = List.replicate m z := by unfold rep; rw [Nat.sub_self]; simp
      have h3 := HR.out.1
      rw [e] at h3
      refine ⟨_, rfl, ?_, HR.out.2⟩
      unfold OI
      rw [List.length_replicate]
      refine ⟨by simp, .inr ⟨w1.heap.size, m, _, rfl, Nat.le_refl _, h3, Nat.le_refl _, by unfold maxLen; omega, by simp, ?_⟩⟩
      simp
end Go.Proofs.Ytfanohebejemmaa
