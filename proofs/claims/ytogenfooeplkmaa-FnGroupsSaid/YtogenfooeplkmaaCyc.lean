/-
  CyclesOf, of the program and of the reference; CountCycles.
-/
import Derived.Test.YtogenfooeplkmaaCycFn
import Derived.Test.YtogenfooeplkmaaPermOk
import Derived.Test.YtogenfooeplkmaaMem2
namespace Go.Proofs.Ytogenfooeplkmaa
open Go.RowKit Go.Deep

theorem rowIs_mem {w : World} {g T n m : Nat} {met : List Int} (h : w.rowIs g T n (fun j => .bool (memB met j))) :
    (w.setCell ⟨g, m, none⟩ (.bool true)).rowIs g T n (fun j => .bool (memB (met ++ [(m : Int)]) j)) := by
  refine (h.set m (.bool true)).congr fun j _ => ?_
  rw [memB_snoc]
  split <;> rfl
theorem grownBy_set {w wr : World} {g : Nat} (h : w.grownBy wr (some g)) (m : Nat) (u : Value) : w.grownBy (wr.setCell ⟨g, m, none⟩ u) (some g) :=
  grownBy.trans h ⟨rfl, rfl, rfl, by simp, fun k _ hk => Below.heap_setCell _ _ _ _ (by rintro rfl; exact hk rfl)⟩
theorem grownBy_below {w wr w' : World} {row : Option Nat} (h : w.grownBy wr row) (hb : Below w.heap.size wr w') : w.grownBy w' row :=
  ⟨hb.os.trans h.os, hb.tape.trans h.tape, hb.output.trans h.output, Nat.le_trans h.size hb.size, fun k hk hr => (hb.block k hk).trans (h.block k hk hr)⟩

/-- What the outer loop of CyclesOf knows. -/
structure CycOut (w wr : World) (p : List Int) (gm k : Nat) (v : Value) : Prop where
  below : Below w.heap.size w wr
  out : OII wr w.heap.size v (cyclesTo p k)
  met : wr.rowIs gm 4 p.length (fun j => .bool (memB (cyclesTo p k).flatten j))
/-- What the inner loop knows: wo is the world at the outer loop's head, c the cycle so far, x the next point. -/
structure CycIn (wo wi : World) (p : List Int) (gm k : Nat) (u : Value) (c : List Int) (x : Int) : Prop where
  grown : wo.grownBy wi (some gm)
  cyc : OI wi wo.heap.size u c
  met : wi.rowIs gm 4 p.length (fun j => .bool (memB ((cyclesTo p k).flatten ++ c) j))
  m : Met p.length ((cyclesTo p k).flatten ++ c)
  rest : cycFrom p (cyclesTo p k).flatten (k : Int) = c ++ cycFrom p ((cyclesTo p k).flatten ++ c) x
  x0 : 0 ≤ x
  x1 : x < (p.length : Int)

theorem CycIn.step {wo wi w1 : World} {p : List Int} {gm k m : Nat} {u v1 : Value} {c : List Int} (h : CycIn wo wi p gm k u c (m : Int)) (hp : permOk p = true) (hx : memB ((cyclesTo p k).flatten ++ c) m = false) (hgm : gm < wo.heap.size)
    (ho : OI w1 wo.heap.size v1 (c ++ [(m : Int)])) (hb : Below wo.heap.size (wi.setCell ⟨gm, m, none⟩ (.bool true)) w1) : CycIn wo w1 p gm k v1 (c ++ [(m : Int)]) (p.getD m 0) := by
  have hx' : (m : Int) ∉ (cyclesTo p k).flatten ++ c := of_decide_eq_false hx
  have hm : m < p.length := by have := h.x1; omega
  have hn := perm_next hp hm
  refine ⟨grownBy_below (grownBy_set h.grown m _) hb, ho, ?_, ?_, ?_, hn.1, hn.2⟩
  · rw [← List.append_assoc]
    exact (rowIs_mem h.met).of_block (hb.block gm hgm)
  · rw [← List.append_assoc]; exact h.m.snoc h.x0 h.x1 hx'
  · rw [h.rest, cycFrom_go h.m hx', Int.toNat_natCast]
    simp
theorem CycIn.start {w wo w1 : World} {p : List Int} {gm k : Nat} {v u : Value} (h : CycOut w wo p gm k v) (hp : permOk p = true) (hk : k < p.length) (ho : OI w1 wo.heap.size u []) (hb : Below wo.heap.size wo w1) : CycIn wo w1 p gm k u [] (k : Int) :=
  ⟨⟨hb.os, hb.tape, hb.output, hb.size, fun i hi _ => hb.block i hi⟩, ho, by rw [List.append_nil]; exact h.met.of_block (hb.block gm h.met.lt), by rw [List.append_nil]; exact cyclesTo_met hp k (by omega), by simp, by omega, by omega⟩
theorem CycIn.done {w wo wi : World} {p : List Int} {gm k m : Nat} {v u : Value} {c : List Int} (h : CycIn wo wi p gm k u c (m : Int)) (ho : CycOut w wo p gm k v) (hgm : w.heap.size ≤ gm) (hk : memB (cyclesTo p k).flatten k = false) (hx : memB ((cyclesTo p k).flatten ++ c) m = true) :
    cyclesTo p (k + 1) = cyclesTo p k ++ [c] ∧ Below w.heap.size w wi ∧ OIIh wi w.heap.size wo.heap.size v (cyclesTo p k) ∧ (cyclesTo p (k + 1)).flatten = (cyclesTo p k).flatten ++ c := by
  have hk' : (k : Int) ∉ (cyclesTo p k).flatten := of_decide_eq_false hk
  have hx' : (m : Int) ∈ (cyclesTo p k).flatten ++ c := of_decide_eq_true hx
  have e : cyclesTo p (k + 1) = cyclesTo p k ++ [c] := by
    rw [cyclesTo_succ, cycStep, if_neg hk', h.rest, cycFrom_stop hx', List.append_nil]
  exact ⟨e, ho.below.grown h.grown ho.below.size (fun g hg => by cases hg; exact hgm), OIIh.other ho.out ho.met (by decide) h.grown, by rw [e]; simp⟩

end Go.Proofs.Ytogenfooeplkmaa
