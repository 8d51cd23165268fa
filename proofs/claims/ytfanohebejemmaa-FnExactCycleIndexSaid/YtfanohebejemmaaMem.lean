/-
  Words for memory, used by all walks of this seat: a slice that reads as a list of integers, a row of integers that the call owns, and how these stay as the world goes on.
-/
import Derived.Test.YtfanohebejemmaaRows
import Derived.WalkKit
import Derived.ProofKit
import Derived.Handy
import Derived.Lib.Hide
import Derived.BigQuiet
import Derived.Deep.QuietTactic
import Derived.Deep.DeepFit
import Derived.Deep.DeepCutAuto
import Derived.Deep.LoopGhost
import Derived.Deep.AppendLies
import Derived.Deep.OwnRows
import Derived.WalkSpells
import Derived.WalkLawsBesides
namespace Go.Proofs.Ytfanohebejemmaa
open Go.RowKit

abbrev ints (xs : List Int) : List Value := xs.map (Value.int .i64)

/-- A value that reads as the list xs of integers. -/
def RI (w : World) (v : Value) (xs : List Int) : Prop :=
  ∃ A c, v = .slice A xs.length c ∧ xs.length ≤ maxLen ∧ (0 < xs.length → ∃ b off, A = some ⟨b, off, none⟩ ∧ b < w.heap.size ∧ ∀ k, k < xs.length → w.cell? ⟨b, off + k, none⟩ = some (.int .i64 (xs.getD k 0)))

theorem RI.nil (w : World) (A : Option Addr) (c : Nat) : RI w (.slice A 0 c) [] := ⟨A, c, rfl, by simp, fun h => absurd h (by simp)⟩

theorem RI.keep {w w' : World} {v : Value} {xs : List Int} (h : RI w v xs) (hs : w.heap.size ≤ w'.heap.size) (hc : ∀ p : Addr, p.block < w.heap.size → w'.cell? p = w.cell? p) : RI w' v xs := by
  obtain ⟨A, c, hv, hl, hx⟩ := h
  refine ⟨A, c, hv, hl, fun h0 => ?_⟩
  obtain ⟨b, off, hA, hb, hx⟩ := hx h0
  exact ⟨b, off, hA, by omega, fun k hk => (hc ⟨b, off + k, none⟩ hb).trans (hx k hk)⟩

theorem RI.below {w w' : World} {v : Value} {xs : List Int} (h : RI w v xs) (hb : Below w.heap.size w w') : RI w' v xs :=
  h.keep hb.size fun _ hp => hb.cell hp
theorem RI.drewN {w : World} {v : Value} {xs : List Int} (h : RI w v xs) (n : Nat) : RI (w.drewN n) v xs := h
theorem RI.same {w w' : World} {v : Value} {xs : List Int} (h : RI w v xs) (hh : w'.heap = w.heap) : RI w' v xs :=
  h.keep (by rw [hh]; exact Nat.le_refl _) fun p _ => by simp [World.cell?, hh]
theorem RI.drew {w : World} {v : Value} {xs : List Int} (h : RI w v xs) : RI w.drew v xs := h
theorem RI.alloc {w : World} {v : Value} {xs : List Int} (h : RI w v xs) (o : Obj) : RI (w.alloc o) v xs :=
  h.below ((Below.refl _ _).alloc (Nat.le_refl _) o)

/-- A row of integers that the call owns, in a block from lo on. -/
abbrev OI (w : World) (lo : Nat) (v : Value) (xs : List Int) : Prop := w.ownsRow lo 3 1 v xs.length (ints xs)

theorem OI.reads {w : World} {lo : Nat} {v : Value} {xs : List Int} (h : OI w lo v xs) : RI w v xs := by
  obtain ⟨h1, h2⟩ := h
  rcases h2 with ⟨rfl, h0⟩ | ⟨g, cap, cur, rfl, hg, hh, hn, hm, hcs, ht⟩
  · obtain rfl : xs = [] := List.eq_nil_of_length_eq_zero h0
    exact RI.nil _ _ _
  · refine ⟨_, cap, rfl, by omega, fun h0 => ⟨g, 0, rfl, ?_, fun k hk => ?_⟩⟩
    · rcases Nat.lt_or_ge g w.heap.size with hlt | hge
      · exact hlt
      · rw [Array.getElem?_eq_none hge] at hh; cases hh
    · have hx : (ints xs)[k]? = some (.int .i64 (xs.getD k 0)) := by
        simp [ints, List.getElem?_map, List.getElem?_eq_getElem hk]
      have hc := World.ownsRow.cellAt (w := w) (base := lo) (e := 3) (size := 1) (g := g) (n := xs.length) (cap := cap) (xs := ints xs) ⟨h1, .inr ⟨g, cap, cur, rfl, hg, hh, hn, hm, hcs, ht⟩⟩ k (by omega)
      rw [Nat.zero_add, hc, hx]

theorem OI.lt {w : World} {lo : Nat} {v : Value} {xs : List Int} (h : OI w lo v xs) : ∀ k, v.ownBlock = some k → lo ≤ k ∧ k < w.heap.size := World.ownsRow.lt h

/-- What lies below block B stays owned. -/
theorem OI.below {w w' : World} {lo B : Nat} {v : Value} {xs : List Int} (h : OI w lo v xs) (hb : Below B w w') (hB : w.heap.size ≤ B) : OI w' lo v xs := by
  obtain ⟨h1, h2⟩ := h
  refine ⟨h1, ?_⟩
  rcases h2 with h2 | ⟨g, cap, cur, hv, hg, hh, r⟩
  · exact .inl h2
  · have hlt : g < w.heap.size := by
      rcases Nat.lt_or_ge g w.heap.size with hlt | hge
      · exact hlt
      · rw [Array.getElem?_eq_none hge] at hh; cases hh
    exact .inr ⟨g, cap, cur, hv, hg, (hb.block g (by omega)).trans hh, r⟩
theorem OI.drewN {w : World} {lo : Nat} {v : Value} {xs : List Int} (h : OI w lo v xs) (n : Nat) : OI (w.drewN n) lo v xs := h
theorem OI.mono {w : World} {lo lo' : Nat} {v : Value} {xs : List Int} (h : OI w lo v xs) (hl : lo' ≤ lo) : OI w lo' v xs := by
  obtain ⟨h1, h2⟩ := h
  refine ⟨h1, ?_⟩
  rcases h2 with h2 | ⟨g, cap, cur, hv, hg, hh, r⟩
  · exact .inl h2
  · exact .inr ⟨g, cap, cur, hv, by omega, hh, r⟩
theorem OI.len {w : World} {lo : Nat} {v : Value} {xs : List Int} (h : OI w lo v xs) : xs.length ≤ maxLen := by
  obtain ⟨_, h2⟩ := h
  rcases h2 with ⟨_, h0⟩ | ⟨g, cap, cur, hv, hg, hh, hn, hm, _⟩ <;> omega

/-- The shape of a value that owns a row. -/
theorem OI.form {w : World} {lo : Nat} {v : Value} {xs : List Int} (h : OI w lo v xs) : ∃ A c, v = .slice A xs.length c ∧ (0 < xs.length → ∃ g, A = some ⟨g, 0, none⟩ ∧ lo ≤ g ∧ g < w.heap.size) := by
  obtain ⟨h1, h2⟩ := h
  rcases h2 with ⟨hv, h0⟩ | ⟨g, cap, cur, rfl, hg, hh, _⟩
  · exact ⟨none, 0, by rw [hv, h0], fun h => absurd h (by omega)⟩
  · refine ⟨_, _, rfl, fun _ => ⟨g, rfl, hg, ?_⟩⟩
    rcases Nat.lt_or_ge g w.heap.size with hlt | hge
    · exact hlt
    · rw [Array.getElem?_eq_none hge] at hh; cases hh

/-- A store into a row of integers that the call owns. -/
theorem OI.set {w : World} {lo g n c : Nat} {xs : List Int} (h : OI w lo (.slice (some ⟨g, 0, none⟩) n c) xs) (hn : xs.length = n) (k : Nat) (x : Int) :
    OI (w.setCell ⟨g, k, none⟩ (.int .i64 x)) lo (.slice (some ⟨g, 0, none⟩) n c) (xs.set k x) ∧ w.grownBy (w.setCell ⟨g, k, none⟩ (.int .i64 x)) (some g) := by
  subst hn
  have hs := World.ownsRow.stored h k (.int .i64 x)
  refine ⟨?_, hs.2⟩
  have h1 := hs.1
  unfold OI
  rw [List.length_set]
  simpa only [ints, List.map_set] using h1
theorem OI.cell {w : World} {lo g n c : Nat} {xs : List Int} (h : OI w lo (.slice (some ⟨g, 0, none⟩) n c) xs) (hn : xs.length = n) (k : Nat) (hk : k < n) : w.cell? ⟨g, k, none⟩ = some (.int .i64 (xs.getD k 0)) := by
  subst hn
  rw [World.ownsRow.cellAt h k (by omega)]
  simp [ints, List.getElem?_map, List.getElem?_eq_getElem hk]
theorem OI.frozen {w : World} {lo g n c : Nat} {xs : List Int} (h : OI w lo (.slice (some ⟨g, 0, none⟩) n c) xs) (hn : xs.length = n) (k : Nat) : w.frozen? ⟨g, k, none⟩ = false := by
  subst hn
  exact World.ownsRow.frozenAt h k
theorem OI.kept {w w' : World} {lo : Nat} {v : Value} {xs : List Int} {row : Option Nat} (h : OI w lo v xs) (hg : w.grownBy w' row) (hne : v.ownBlock = none ∨ v.ownBlock ≠ row) : OI w' lo v xs := World.ownsRow.kept h hg hne
theorem grownBy.trans {w w1 w2 : World} {row : Option Nat} (h : w.grownBy w1 row) (k : w1.grownBy w2 row) : w.grownBy w2 row :=
  ⟨k.os.trans h.os, k.tape.trans h.tape, k.output.trans h.output, Nat.le_trans h.size k.size, fun i hi hr => (k.block i (Nat.lt_of_lt_of_le hi h.size) hr).trans (h.block i hi hr)⟩

/-- Blocks from lo up to hi may have turned; every other block is as it was. -/
structure Turned (lo hi : Nat) (w w' : World) : Prop where
  os : w'.os = w.os
  tape : w'.tape = w.tape
  output : w'.output = w.output
  size : w'.heap.size = w.heap.size
  block : ∀ k, (k < lo ∨ hi ≤ k) → w'.heap[k]? = w.heap[k]?

theorem Turned.refl (lo hi : Nat) (w : World) : Turned lo hi w w := ⟨rfl, rfl, rfl, rfl, fun _ _ => rfl⟩
theorem Turned.trans {lo hi : Nat} {a b c : World} (h : Turned lo hi a b) (k : Turned lo hi b c) : Turned lo hi a c :=
  ⟨k.os.trans h.os, k.tape.trans h.tape, k.output.trans h.output, k.size.trans h.size, fun i hi => (k.block i hi).trans (h.block i hi)⟩
theorem Turned.below {lo hi B : Nat} {w w' : World} (h : Turned lo hi w w') (hB : B ≤ lo) : Below B w w' :=
  ⟨h.os, h.tape, h.output, by rw [h.size]; exact Nat.le_refl _, fun k hk => h.block k (.inl (by omega))⟩
theorem Turned.of_grown {lo hi : Nat} {w w' : World} {row : Option Nat} (hg : w.grownBy w' row) (hs : w'.heap.size = w.heap.size) (hr : ∀ k, row = some k → lo ≤ k ∧ k < hi) : Turned lo hi w w' := by
  refine ⟨hg.os, hg.tape, hg.output, hs, fun k hk => ?_⟩
  by_cases hlt : k < w.heap.size
  · exact hg.block k hlt (fun e => by have := hr k e.symm; omega)
  · rw [Array.getElem?_eq_none (by omega), Array.getElem?_eq_none (by omega)]
theorem OI.above {w w' : World} {lo l hi : Nat} {v : Value} {xs : List Int} (h : OI w lo v xs) (t : Turned l hi w w') (hle : hi ≤ lo) : OI w' lo v xs := by
  obtain ⟨h1, h2⟩ := h
  refine ⟨h1, ?_⟩
  rcases h2 with h2 | ⟨g, cap, cur, hv, hg, hh, r⟩
  · exact .inl h2
  · exact .inr ⟨g, cap, cur, hv, hg, (t.block g (.inr (by omega))).trans hh, r⟩
theorem OI.bound {w : World} {lo : Nat} {v : Value} {xs : List Int} (h : OI w lo v xs) : ∀ k, v.ownBlock = some k → k < w.heap.size := fun k hk => (h.lt k hk).2
theorem OI.step {w w' : World} {lo : Nat} {v : Value} {xs : List Int} (h : OI w lo v xs) (b : Below w.heap.size w w') : OI w' lo v xs := h.below b (Nat.le_refl _)

/-- One step more. -/
theorem bstep {w w1 w2 : World} (h : Below w.heap.size w w1) (k : Below w1.heap.size w1 w2) : Below w.heap.size w w2 := h.trans (k.mono h.size)
theorem bstepN {w w1 : World} (h : Below w.heap.size w w1) (n : Nat) : Below w.heap.size w (w1.drewN n) := ⟨h.os, h.tape, h.output, h.size, h.block⟩

theorem retB {a b : Bool} (h : a = b) : Ending.returned (.bool a) = .returned (.bool b) := by rw [h]
theorem retI {k : IntKind} {a b : Int} (h : a = b) : Ending.returned (.int k a) = .returned (.int k b) := by rw [h]
theorem ret2 {v : Value} {b b' : Bool} (h : b = b') : Ending.returned (.tuple #[v, .bool b]) = .returned (.tuple #[v, .bool b']) := by rw [h]
theorem retV {a b : Value} (h : a = b) : Ending.returned a = .returned b := by rw [h]

theorem int_info : (Try.prog.info? 3).map (fun i => (i.zero, i.size, i.bytes)) = some (some (.int .i64 0), 1, 8) := by kernel_rfl

/-- 'out = append(out, y)', out a row of the call's own, y of one cell. -/
theorem wpList_app1 {ops : Array Oper} {rest : List Oper} {o : Oper} {a : Act} {Q : Exit → Act → World → Prop} (w : World) (hgd : o.guard = none) (s x : Operand) (t e : TypeId) (z : Value) (bytes : Nat)
    (ho : o.op = .call { callee := .builtin .append, args := #[s, x], argTypes := #[t, t] })
    (ht : Try.prog.underlying t = some (.slice e)) (hinfo : (Try.prog.info? e).map (fun i => (i.zero, i.size, i.bytes)) = some (some z, 1, bytes)) (hz1 : z.cells.size = 1)
    (lo : Nat) (v : Value) (n : Nat) (xs : List Value) (y : Value) (hs : a.eval s = v) {H : Nat} (hx : a.eval x = .slice (some ⟨H, 0, none⟩) 1 1) (hH : w.heap.size = H) (hy : y.oneCell' = true)
    (hown : w.ownsRow lo e 1 v n xs) (hlen : (n + 1) * bytes ≤ 140737488355328) (hb : 1 ≤ bytes) (hlo : lo ≤ w.heap.size)
    (h : ∀ v' w', w'.ownsRow lo e 1 v' (n + 1) (xs ++ [y]) → Below lo w w' → w.grownBy w' v.ownBlock → wpList Try.prog ops Q rest (a.put o.dst v') w') : wpList Try.prog ops Q (o :: rest) a (w.alloc (.cells #[y] e)) := by
  subst hH
  obtain ⟨i0, hi, hz0, hz1', hz2⟩ := info_parts hinfo
  have h63 : n + 1 ≤ maxLen := by
    have : (n + 1) * 1 ≤ (n + 1) * bytes := Nat.mul_le_mul_left _ hb
    unfold maxLen; omega
  refine wpList_append_own (w.alloc (.cells #[y] e)) hgd s x t ho lo e i0 z 1 bytes ht hi hz0 hz1' hz2 hz1 (by omega) v n xs hs (hown.alloc _) ⟨w.heap.size, 0, none⟩ 1 1 [y] hx rfl ?_ ?_ h63 hlen (by simp; omega) ?_
  · intro j u hj
    match j, hj with
    | 0, hj => simp at hj; subst hj; simp [Addr.add]
  · intro u hu; simp at hu; subst hu; exact hy
  · intro v' w' h1 h2 _
    have hg : w.grownBy w' v.ownBlock :=
      ⟨h2.os, h2.tape, h2.output, by have := h2.size; simp at this; omega, fun k hk hne => (h2.block k (by simp; omega) hne).trans (Below.heap_alloc w _ k hk)⟩
    exact h v' w' h1 ((Below.refl _ _).grown hg hlo fun k hk => (hown.lt k hk).1) hg

/-- The same for integers. -/
theorem wpList_appInt {ops : Array Oper} {rest : List Oper} {o : Oper} {a : Act} {Q : Exit → Act → World → Prop} (w : World) (hgd : o.guard = none) (s x : Operand)
    (ho : o.op = .call { callee := .builtin .append, args := #[s, x], argTypes := #[27, 27] })
    (lo : Nat) (v : Value) (xs : List Int) (y : Int) (hs : a.eval s = v) {H : Nat} (hx : a.eval x = .slice (some ⟨H, 0, none⟩) 1 1) (hH : w.heap.size = H)
    (hown : OI w lo v xs) (hlen : xs.length ≤ 1099511627776) (hlo : lo ≤ w.heap.size)
    (h : ∀ v' w', OI w' lo v' (xs ++ [y]) → Below lo w w' → w.grownBy w' v.ownBlock → wpList Try.prog ops Q rest (a.put o.dst v') w') : wpList Try.prog ops Q (o :: rest) a (w.alloc (.cells #[.int .i64 y] 3)) := by
  refine wpList_app1 w hgd s x 27 3 (.int .i64 0) 8 ho Try.underlying27 int_info rfl lo v xs.length (ints xs) (.int .i64 y) hs hx hH rfl hown (by omega) (by omega) hlo ?_
  intro v' w' h1 h2 h3
  refine h v' w' ?_ h2 h3
  unfold OI
  rw [List.length_append]
  simpa only [ints, List.map_append, List.map_cons, List.map_nil, List.length_cons, List.length_nil] using h1
/-- The next place of a row that is filled from its head on. -/
theorem fill_set {pre : List Int} {k m : Nat} (hp : pre.length = k) (hk : k < m) (y : Int) : (pre ++ List.replicate (m - k) 0).set k y = (pre ++ [y]) ++ List.replicate (m - (k + 1)) 0 := by
  rw [List.set_append_right _ _ (by omega), hp, Nat.sub_self, show m - k = (m - (k + 1)) + 1 from by omega, List.replicate_succ, List.set_cons_zero, List.append_assoc, List.singleton_append]

/-- 'make([]int, n)'. -/
theorem OI.made (w : World) (n : Nat) (hn : n ≤ maxLen) : OI (w.alloc (.cells (madeCells #[.int .i64 0] n) 3)) w.heap.size (.slice (some ⟨w.heap.size, 0, none⟩) n n) (List.replicate n 0) := by
  have h := World.ownsRow_lit (base := w.heap.size) (e := 3) (size := 1) w (madeCells #[.int .i64 0] n) n (Nat.le_refl _) hn (by simp [size_madeCells])
  unfold OI
  rw [List.length_replicate]
  simpa [toList_madeCells_one, ints] using h
/-- 'out = append(out, ys...)' onto a row of the call's own, ys not empty. -/
theorem wpList_appInts {ops : Array Oper} {rest : List Oper} {o : Oper} {a : Act} {Q : Exit → Act → World → Prop} (w : World) (hgd : o.guard = none) (s x : Operand)
    (ho : o.op = .call { callee := .builtin .append, args := #[s, x], argTypes := #[27, 27] })
    (lo : Nat) (v : Value) (xs ys : List Int) (hs : a.eval s = v) {b off c n : Nat} (hx : a.eval x = .slice (some ⟨b, off, none⟩) n c) (hn : n = ys.length) (hr : ∀ k, k < n → w.cell? ⟨b, off + k, none⟩ = some (.int .i64 (ys.getD k 0)))
    (hown : OI w lo v xs) (hlen : xs.length + ys.length ≤ 1099511627776) (hlo : lo ≤ w.heap.size)
    (h : ∀ v' w', OI w' lo v' (xs ++ ys) → Below lo w w' → w.grownBy w' v.ownBlock → wpList Try.prog ops Q rest (a.put o.dst v') w') : wpList Try.prog ops Q (o :: rest) a w := by
  subst hn
  obtain ⟨i0, hi, hz0, hz1', hz2⟩ := info_parts int_info
  refine wpList_append_own w hgd s x 27 ho lo 3 i0 (.int .i64 0) 1 8 Try.underlying27 hi hz0 hz1' hz2 rfl (by omega) v xs.length (ints xs) hs hown ⟨b, off, none⟩ ys.length c (ints ys) hx (by simp) ?_ ?_ (by unfold maxLen; omega) (by omega) hlo ?_
  · intro j u hj
    have hjl : j < ys.length := by
      rcases Nat.lt_or_ge j ys.length with h1 | h1
      · exact h1
      · rw [List.getElem?_eq_none (by simpa using h1)] at hj; cases hj
    have e : (Addr.add ⟨b, off, none⟩ j) = ⟨b, off + j, none⟩ := by unfold Addr.add; split <;> simp_all
    rw [e, hr j hjl]
    simp only [ints, List.getElem?_map, List.getElem?_eq_getElem hjl, Option.map_some, Option.some.injEq] at hj
    rw [← hj]; simp [List.getElem?_eq_getElem hjl]
  · intro u hu
    obtain ⟨y, _, rfl⟩ := List.mem_map.1 hu
    rfl
  · intro v' w' h1 h2 _
    refine h v' w' ?_ ((Below.refl _ _).grown h2 hlo fun k hk => (hown.lt k hk).1) h2
    unfold OI
    rw [List.length_append]
    simpa only [ints, List.map_append] using h1

theorem RI.shape {w : World} {v : Value} {xs : List Int} (h : RI w v xs) : ∃ A c, v = .slice A xs.length c := by obtain ⟨A, c, h, _⟩ := h; exact ⟨A, c, h⟩
theorem RI.lenle {w : World} {v : Value} {xs : List Int} (h : RI w v xs) : xs.length ≤ 9223372036854775807 := by
  obtain ⟨_, _, _, h, _⟩ := h
  unfold maxLen at h; omega
/-- Nothing in memory has turned. -/
structure Still (w wr : World) : Prop where
  below : Below w.heap.size w wr
  heap : wr.heap = w.heap
theorem Still.refl (w : World) : Still w w := ⟨Below.refl _ _, rfl⟩
theorem Still.drewN {w wr : World} (h : Still w wr) (n : Nat) : Still w (wr.drewN n) := ⟨bstepN h.below n, h.heap⟩
theorem Still.cell {w wr : World} (h : Still w wr) (p : Addr) : wr.cell? p = w.cell? p := by simp [World.cell?, h.heap]
end Go.Proofs.Ytfanohebejemmaa
