/-
  Words for memory, continued: where an appended row lies; a row of the call's own appended to another.
-/
import Derived.Test.YtogenfooeplkmaaMem2
import Derived.Maps.AppendAt
import Derived.Laws.AppendOwnNone
namespace Go.Proofs.Ytogenfooeplkmaa
open Go.RowKit Go.Deep

theorem wpList_app1_at {ops : Array Oper} {rest : List Oper} {o : Oper} {a : Act} {Q : Exit → Act → World → Prop} (w : World) (hgd : o.guard = none) (s x : Operand) (t e : TypeId) (z : Value) (bytes : Nat)
    (ho : o.op = .call { callee := .builtin .append, args := #[s, x], argTypes := #[t, t] })
    (ht : Try.prog.underlying t = some (.slice e)) (hinfo : (Try.prog.info? e).map (fun i => (i.zero, i.size, i.bytes)) = some (some z, 1, bytes)) (hz1 : z.cells.size = 1)
    (lo : Nat) (v : Value) (n : Nat) (xs : List Value) (y : Value) (hs : a.eval s = v) {H : Nat} (hx : a.eval x = .slice (some ⟨H, 0, none⟩) 1 1) (hH : w.heap.size = H) (hy : y.oneCell' = true)
    (hown : w.ownsRow lo e 1 v n xs) (hlen : (n + 1) * bytes ≤ 140737488355328) (hb : 1 ≤ bytes) (hlo : lo ≤ w.heap.size)
    (h : ∀ v' w', w'.ownsRow lo e 1 v' (n + 1) (xs ++ [y]) → Below lo w w' → w.grownBy w' v.ownBlock → (v'.ownBlock = v.ownBlock ∨ v'.ownBlock = some (w.heap.size + 1)) → wpList Try.prog ops Q rest (a.put o.dst v') w') : wpList Try.prog ops Q (o :: rest) a (w.alloc (.cells #[y] e)) := by
  subst hH
  obtain ⟨i0, hi, hz0, hz1', hz2⟩ := info_parts hinfo
  have h63 : n + 1 ≤ maxLen := by
    have : (n + 1) * 1 ≤ (n + 1) * bytes := Nat.mul_le_mul_left _ hb
    unfold maxLen; omega
  refine wpList_append_own_at (w.alloc (.cells #[y] e)) hgd s x t ho lo e i0 z 1 bytes ht hi hz0 hz1' hz2 hz1 (by omega) v n xs hs (hown.alloc _) ⟨w.heap.size, 0, none⟩ 1 1 [y] hx rfl ?_ ?_ h63 hlen (by simp; omega) ?_
  · intro j u hj
    match j, hj with
    | 0, hj => simp at hj; subst hj; simp [Addr.add]
  · intro u hu; simp at hu; subst hu; exact hy
  · intro v' w' h1 h2 _ hat
    have hg : w.grownBy w' v.ownBlock :=
      ⟨h2.os, h2.tape, h2.output, by have := h2.size; simp at this; omega, fun k hk hne => (h2.block k (by simp; omega) hne).trans (Below.heap_alloc w _ k hk)⟩
    exact h v' w' h1 ((Below.refl _ _).grown hg hlo fun k hk => (hown.lt k hk).1) hg (by simpa using hat)

/-- 'out = append(out, u)' at a slice of slices, and where the new one lies. -/
theorem wpList_appRow_at {ops : Array Oper} {rest : List Oper} {o : Oper} {a : Act} {Q : Exit → Act → World → Prop} (w : World) (hgd : o.guard = none) (s x : Operand)
    (ho : o.op = .call { callee := .builtin .append, args := #[s, x], argTypes := #[22, 22] })
    (lo hi mid hi' : Nat) (v u : Value) (xss : List (List Int)) (ys : List Int) (hs : a.eval s = v) {H : Nat} (hx : a.eval x = .slice (some ⟨H, 0, none⟩) 1 1) (hH : w.heap.size = H)
    (hown : OIIh w lo hi v xss) (hu : OI w mid u ys) (hm : hi ≤ mid) (hlm : lo ≤ mid) (hub : ∀ g, u.ownBlock = some g → g < hi') (hh : mid ≤ hi') (hlen : xss.length ≤ 1099511627776) (hlo : lo ≤ w.heap.size)
    (h : ∀ v' w', OIIh w' lo hi' v' (xss ++ [ys]) → Below lo w w' → w.grownBy w' v.ownBlock → (v'.ownBlock = v.ownBlock ∨ v'.ownBlock = some (w.heap.size + 1)) → wpList Try.prog ops Q rest (a.put o.dst v') w') : wpList Try.prog ops Q (o :: rest) a (w.alloc (.cells #[u] 33)) := by
  obtain ⟨vs, h1, _⟩ := id hown
  have hu1 : u.oneCell' = true := by
    rcases hu.2 with ⟨rfl, _⟩ | ⟨g, cap, cur, rfl, _⟩ <;> rfl
  refine wpList_app1_at w hgd s x 22 33 (.slice none 0 0) 24 ho Try.underlying22 intS_info rfl lo v xss.length vs u hs hx hH hu1 h1 (by omega) (by omega) hlo ?_
  intro v' w' h1' h2 h3 hat
  refine h v' w' (hown.app hu hm hlm hub hh (fun vs' hvs' => ?_) h3) h2 h3 hat
  have e : vs' = vs := by
    rcases h1.2 with ⟨rfl, h0⟩ | ⟨g, cap, cur, rfl, _, hh1, _, _, _, ht⟩
    · have a1 := h1.1; have a2 := hvs'.1
      rw [List.eq_nil_of_length_eq_zero (l := vs') (by omega), List.eq_nil_of_length_eq_zero (l := vs) (by omega)]
    · rcases hvs'.2 with ⟨hv, _⟩ | ⟨g', cap', cur', hv, _, hh2, _, _, _, ht'⟩
      · cases hv
      · simp only [Value.slice.injEq, Option.some.injEq, Addr.mk.injEq, and_true, true_and] at hv
        obtain ⟨rfl, rfl⟩ := hv
        rw [hh1] at hh2
        simp only [Option.some.injEq, Obj.cells.injEq] at hh2
        rw [← ht, ← ht', hh2.1]
  rw [e]; exact h1'

/-- 'append(out, u...)', u a row of the call's own. -/
theorem wpList_appOI {ops : Array Oper} {rest : List Oper} {o : Oper} {a : Act} {Q : Exit → Act → World → Prop} (w : World) (hgd : o.guard = none) (s x : Operand)
    (ho : o.op = .call { callee := .builtin .append, args := #[s, x], argTypes := #[33, 33] })
    (lo lo2 : Nat) (v u : Value) (xs ys : List Int) (hs : a.eval s = v) (hx : a.eval x = u) (hu : OI w lo2 u ys)
    (hown : OI w lo v xs) (hlen : xs.length + ys.length ≤ 1099511627776) (hlo : lo ≤ w.heap.size)
    (h : ∀ v' w', OI w' lo v' (xs ++ ys) → Below lo w w' → w.grownBy w' v.ownBlock → wpList Try.prog ops Q rest (a.put o.dst v') w') : wpList Try.prog ops Q (o :: rest) a w := by
  rcases hu.2 with ⟨rfl, h0⟩ | ⟨g, cap, cur, rfl, hg, hh, r⟩
  · obtain rfl : ys = [] := List.eq_nil_of_length_eq_zero h0
    obtain ⟨i0, hi, _⟩ := info_parts int_info
    refine wpList_append_own_none hgd s x 33 ho lo 3 i0 1 Try.underlying33 hi v xs.length (ints xs) hs hown hx (h v w ?_ (Below.refl _ _) ⟨rfl, rfl, rfl, Nat.le_refl _, fun _ _ _ => rfl⟩)
    rw [List.append_nil]; exact hown
  · exact wpList_appInts w hgd s x ho lo v xs ys hs hx rfl (fun k hk => by rw [Nat.zero_add]; exact OI.cell hu rfl k hk) hown hlen hlo h

/-- Rows that lie beside another row of rows stay when that one is written. -/
theorem OIIh.aside {w w' : World} {lo hi lo2 n : Nat} {v u : Value} {us : List Value} {xss : List (List Int)} (h : OIIh w lo hi v xss) (hu : w.ownsRow lo2 33 1 u n us) (hne : ∀ g, v.ownBlock = some g → u.ownBlock ≠ some g) (hg : w.grownBy w' u.ownBlock) : OIIh w' lo hi v xss := by
  obtain ⟨vs, h1, h2, h3, h4⟩ := h
  exact ⟨vs, own_reblock h1 fun g hg' => hg.block g (h1.lt g hg').2 fun e => hne g hg' e.symm, h2, fun k hk => ⟨own_reblock (h3 k hk).1 fun g hg' => hg.block g ((h3 k hk).1.lt g hg').2 fun e => own_ne hu (h3 k hk).1 (by decide) e.symm hg', (h3 k hk).2⟩, h4⟩
end Go.Proofs.Ytogenfooeplkmaa
