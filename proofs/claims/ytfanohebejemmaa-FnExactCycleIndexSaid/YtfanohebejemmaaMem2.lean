/-
  Words for memory, two levels: a slice of slices of integers that is read, and one that the call owns.
-/
import Derived.Test.YtfanohebejemmaaMem
namespace Go.Proofs.Ytfanohebejemmaa
open Go.RowKit Go.Deep

/-- A value that reads as the list xss of lists. -/
def RII (w : World) (v : Value) (xss : List (List Int)) : Prop :=
  ∃ A c, v = .slice A xss.length c ∧ xss.length ≤ maxLen ∧ (0 < xss.length → ∃ b off, A = some ⟨b, off, none⟩ ∧ b < w.heap.size ∧ ∀ k, k < xss.length → ∃ u, w.cell? ⟨b, off + k, none⟩ = some u ∧ RI w u (xss.getD k []))

theorem RII.nil (w : World) (A : Option Addr) (c : Nat) : RII w (.slice A 0 c) [] := ⟨A, c, rfl, by simp, fun h => absurd h (by simp)⟩
theorem RII.keep {w w' : World} {v : Value} {xss : List (List Int)} (h : RII w v xss) (hs : w.heap.size ≤ w'.heap.size) (hc : ∀ p : Addr, p.block < w.heap.size → w'.cell? p = w.cell? p) : RII w' v xss := by
  obtain ⟨A, c, hv, hl, hx⟩ := h
  refine ⟨A, c, hv, hl, fun h0 => ?_⟩
  obtain ⟨b, off, hA, hb, hx⟩ := hx h0
  refine ⟨b, off, hA, by omega, fun k hk => ?_⟩
  obtain ⟨u, hu, hr⟩ := hx k hk
  exact ⟨u, (hc ⟨b, off + k, none⟩ hb).trans hu, hr.keep hs hc⟩
theorem RII.below {w w' : World} {v : Value} {xss : List (List Int)} (h : RII w v xss) (hb : Below w.heap.size w w') : RII w' v xss :=
  h.keep hb.size fun _ hp => hb.cell hp
theorem RII.shape {w : World} {v : Value} {xss : List (List Int)} (h : RII w v xss) : ∃ A c, v = .slice A xss.length c := by obtain ⟨A, c, h, _⟩ := h; exact ⟨A, c, h⟩
theorem RII.lenle {w : World} {v : Value} {xss : List (List Int)} (h : RII w v xss) : xss.length ≤ 9223372036854775807 := by
  obtain ⟨_, _, _, h, _⟩ := h
  unfold maxLen at h; omega

/-- A slice of slices that the call owns: the rows lie in blocks from lo up to hi, no two of them in one block. -/
def OIIh (w : World) (lo hi : Nat) (v : Value) (xss : List (List Int)) : Prop :=
  ∃ vs : List Value, w.ownsRow lo 27 1 v xss.length vs ∧ vs.length = xss.length ∧ (∀ k, k < xss.length → OI w lo (vs.getD k undef) (xss.getD k []) ∧ ∀ g, (vs.getD k undef).ownBlock = some g → g < hi) ∧
    ∀ i j, i < j → j < xss.length → ∀ g, (vs.getD i undef).ownBlock = some g → (vs.getD j undef).ownBlock ≠ some g
/-- A slice of slices that the call owns. -/
def OII (w : World) (lo : Nat) (v : Value) (xss : List (List Int)) : Prop := OIIh w lo w.heap.size v xss

theorem OIIh.nil (w : World) (lo hi : Nat) : OIIh w lo hi (.slice none 0 0) [] :=
  ⟨[], World.ownsRow_nil _ _ _ _, rfl, fun k h => absurd h (by simp), fun i j _ h => absurd h (by simp)⟩
theorem OIIh.lit (w : World) : OIIh (w.alloc (.cells #[] 27)) w.heap.size w.heap.size (.slice (some ⟨w.heap.size, 0, none⟩) 0 0) [] :=
  ⟨[], World.ownsRow_lit w #[] 0 (Nat.le_refl _) (by simp) rfl, rfl, fun k h => absurd h (by simp), fun i j _ h => absurd h (by simp)⟩

theorem own_reblock {w w' : World} {lo size n : Nat} {e : TypeId} {v : Value} {xs : List Value} (h : w.ownsRow lo e size v n xs) (hb : ∀ g, v.ownBlock = some g → w'.heap[g]? = w.heap[g]?) : w'.ownsRow lo e size v n xs := by
  obtain ⟨h1, h2⟩ := h
  refine ⟨h1, ?_⟩
  rcases h2 with h2 | ⟨g, cap, cur, rfl, hg, hh, r⟩
  · exact .inl h2
  · exact .inr ⟨g, cap, cur, rfl, hg, (hb g rfl).trans hh, r⟩
/-- The block of an owned row is a block of its element type. -/
theorem own_type {w : World} {lo size n : Nat} {e : TypeId} {v : Value} {xs : List Value} (h : w.ownsRow lo e size v n xs) {g : Nat} (hg : v.ownBlock = some g) : ∃ cur, w.heap[g]? = some (.cells cur e (0, 0)) := by
  rcases h.2 with ⟨rfl, _⟩ | ⟨g', cap, cur, rfl, _, hh, _⟩
  · simp [Value.ownBlock] at hg
  · obtain rfl : g' = g := by simpa [Value.ownBlock] using hg
    exact ⟨cur, hh⟩
theorem own_ne {w : World} {lo lo' size size' n n' : Nat} {e e' : TypeId} {v v' : Value} {xs xs' : List Value} (h : w.ownsRow lo e size v n xs) (h' : w.ownsRow lo' e' size' v' n' xs') (hne : e ≠ e') {g : Nat} (hg : v.ownBlock = some g) : v'.ownBlock ≠ some g := by
  intro hg'
  obtain ⟨c, hc⟩ := own_type h hg
  obtain ⟨c', hc'⟩ := own_type h' hg'
  rw [hc] at hc'
  simp only [Option.some.injEq, Obj.cells.injEq] at hc'
  exact hne hc'.2.1

/-- All its blocks are as they were. -/
theorem OIIh.reblock {w w' : World} {lo hi : Nat} {v : Value} {xss : List (List Int)} (h : OIIh w lo hi v xss) (hb : ∀ g, lo ≤ g → g < w.heap.size → (∃ cur, w.heap[g]? = some (.cells cur 3 (0, 0)) ∨ w.heap[g]? = some (.cells cur 27 (0, 0))) → w'.heap[g]? = w.heap[g]?) : OIIh w' lo hi v xss := by
  obtain ⟨vs, h1, h2, h3, h4⟩ := h
  refine ⟨vs, own_reblock h1 fun g hg => hb g (h1.lt g hg).1 (h1.lt g hg).2 ?_, h2, fun k hk => ⟨own_reblock (h3 k hk).1 fun g hg => hb g ((h3 k hk).1.lt g hg).1 ((h3 k hk).1.lt g hg).2 ?_, (h3 k hk).2⟩, h4⟩
  · obtain ⟨c, hc⟩ := own_type h1 hg; exact ⟨c, .inr hc⟩
  · obtain ⟨c, hc⟩ := own_type (h3 k hk).1 hg; exact ⟨c, .inl hc⟩
theorem OIIh.below {w w' : World} {lo hi B : Nat} {v : Value} {xss : List (List Int)} (h : OIIh w lo hi v xss) (hb : Below B w w') (hB : w.heap.size ≤ B) : OIIh w' lo hi v xss :=
  h.reblock fun g _ hg _ => hb.block g (by omega)
theorem OIIh.above {w w' : World} {lo hi l h' : Nat} {v : Value} {xss : List (List Int)} (h : OIIh w lo hi v xss) (t : Turned l h' w w') (hle : h' ≤ lo) : OIIh w' lo hi v xss :=
  h.reblock fun g hg _ _ => t.block g (.inr (by omega))
/-- A row of another element type has been written. -/
theorem OIIh.other {w w' : World} {lo hi gm : Nat} {T : TypeId} {n : Nat} {f : Nat → Value} {v : Value} {xss : List (List Int)} (h : OIIh w lo hi v xss) (hr : w.rowIs gm T n f) (hT : T ≠ 3 ∧ T ≠ 27) (hg : w.grownBy w' (some gm)) : OIIh w' lo hi v xss :=
  h.reblock fun g _ hlt ⟨cur, hc⟩ => hg.block g hlt fun e => by
    obtain ⟨c, hc', _⟩ := hr
    cases e
    rcases hc with hc | hc
    · rw [hc] at hc'; simp only [Option.some.injEq, Obj.cells.injEq] at hc'; exact hT.1 hc'.2.1.symm
    · rw [hc] at hc'; simp only [Option.some.injEq, Obj.cells.injEq] at hc'; exact hT.2 hc'.2.1.symm
theorem OIIh.mono {w : World} {lo lo' hi hi' : Nat} {v : Value} {xss : List (List Int)} (h : OIIh w lo hi v xss) (hl : lo' ≤ lo) (hh : hi ≤ hi') : OIIh w lo' hi' v xss := by
  obtain ⟨vs, h1, h2, h3, h4⟩ := h
  refine ⟨vs, ?_, h2, fun k hk => ⟨OI.mono (h3 k hk).1 hl, fun g hg => by have := (h3 k hk).2 g hg; omega⟩, h4⟩
  obtain ⟨a, b⟩ := h1
  refine ⟨a, ?_⟩
  rcases b with b | ⟨g, cap, cur, hv, hg, r⟩
  · exact .inl b
  · exact .inr ⟨g, cap, cur, hv, by omega, r⟩
theorem OIIh.toOII {w : World} {lo hi : Nat} {v : Value} {xss : List (List Int)} (h : OIIh w lo hi v xss) : OII w lo v xss := by
  obtain ⟨vs, h1, h2, h3, h4⟩ := h
  exact ⟨vs, h1, h2, fun k hk => ⟨(h3 k hk).1, fun g hg => ((h3 k hk).1.lt g hg).2⟩, h4⟩
theorem OIIh.step {w w' : World} {lo hi : Nat} {v : Value} {xss : List (List Int)} (h : OIIh w lo hi v xss) (b : Below w.heap.size w w') : OIIh w' lo hi v xss := h.below b (Nat.le_refl _)
theorem OII.below {w w' : World} {lo B : Nat} {v : Value} {xss : List (List Int)} (h : OII w lo v xss) (hb : Below B w w') (hB : w.heap.size ≤ B) : OII w' lo v xss := (OIIh.below h hb hB).toOII
theorem OII.step {w w' : World} {lo : Nat} {v : Value} {xss : List (List Int)} (h : OII w lo v xss) (b : Below w.heap.size w w') : OII w' lo v xss := h.below b (Nat.le_refl _)
theorem OII.above {w w' : World} {lo l h' : Nat} {v : Value} {xss : List (List Int)} (h : OII w lo v xss) (t : Turned l h' w w') (hle : h' ≤ lo) : OII w' lo v xss := (OIIh.above h t hle).toOII
theorem OII.mono {w : World} {lo lo' : Nat} {v : Value} {xss : List (List Int)} (h : OII w lo v xss) (hl : lo' ≤ lo) : OII w lo' v xss := OIIh.mono h hl (Nat.le_refl _)
theorem OII.nil (w : World) (lo : Nat) : OII w lo (.slice none 0 0) [] := OIIh.nil w lo _

theorem own_cell {w : World} {lo n : Nat} {e : TypeId} {v : Value} {vs : List Value} (h : w.ownsRow lo e 1 v n vs) (hn : 0 < n) : ∃ g c, v = .slice (some ⟨g, 0, none⟩) n c ∧ lo ≤ g ∧ g < w.heap.size ∧ ∀ k, k < n → w.cell? ⟨g, k, none⟩ = some (vs.getD k undef) := by
  obtain ⟨g, c, rfl, h1, h2⟩ := h.form hn
  refine ⟨g, c, rfl, h1, h2, fun k hk => ?_⟩
  have hl : vs.length = n := by have := h.1; omega
  rw [World.ownsRow.cellAt h k (by omega), List.getElem?_eq_getElem (by omega)]
  simp [List.getElem?_eq_getElem (show k < vs.length by omega)]
theorem own_len {w : World} {lo n : Nat} {e : TypeId} {v : Value} {vs : List Value} (h : w.ownsRow lo e 1 v n vs) : n ≤ maxLen := by
  rcases h.2 with ⟨_, h0⟩ | ⟨g, cap, cur, hv, hg, hh, hn, hm, _⟩ <;> omega

theorem OIIh.reads {w : World} {lo hi : Nat} {v : Value} {xss : List (List Int)} (h : OIIh w lo hi v xss) : RII w v xss := by
  obtain ⟨vs, h1, h2, h3, h4⟩ := h
  by_cases h0 : 0 < xss.length
  · obtain ⟨g, c, rfl, _, hg, hc⟩ := own_cell h1 h0
    exact ⟨_, c, rfl, own_len h1, fun _ => ⟨g, 0, rfl, hg, fun k hk => ⟨vs.getD k undef, by rw [Nat.zero_add]; exact hc k hk, (h3 k hk).1.reads⟩⟩⟩
  · obtain rfl : xss = [] := List.eq_nil_of_length_eq_zero (by omega)
    rcases h1.2 with ⟨rfl, _⟩ | ⟨g, cap, cur, rfl, _⟩
    · exact RII.nil _ _ _
    · exact RII.nil _ _ _
theorem OII.reads {w : World} {lo : Nat} {v : Value} {xss : List (List Int)} (h : OII w lo v xss) : RII w v xss := OIIh.reads h

theorem getD_left {α : Type} {l r : List α} {k : Nat} {d : α} (h : k < l.length) : (l ++ r).getD k d = l.getD k d := by
  simp [List.getElem?_append_left h]
theorem getD_last {α : Type} {l : List α} {x d : α} {k : Nat} (h : k = l.length) : (l ++ [x]).getD k d = x := by
  subst h; simp

/-- One row more: what an append leaves. -/
theorem OIIh.app {w w' : World} {lo hi mid hi' : Nat} {v u v' : Value} {xss : List (List Int)} {ys : List Int} (h : OIIh w lo hi v xss) (hu : OI w mid u ys) (hm : hi ≤ mid) (hlo : lo ≤ mid) (hub : ∀ g, u.ownBlock = some g → g < hi') (hh : mid ≤ hi')
    (happ : ∀ vs, w.ownsRow lo 27 1 v xss.length vs → w'.ownsRow lo 27 1 v' (xss.length + 1) (vs ++ [u])) (hg : w.grownBy w' v.ownBlock) : OIIh w' lo hi' v' (xss ++ [ys]) := by
  obtain ⟨vs, h1, h2, h3, h4⟩ := h
  have stay : ∀ {lo2 : Nat} {x : Value} {zs : List Int}, OI w lo2 x zs → OI w' lo2 x zs := fun {lo2 x zs} hx =>
    own_reblock hx fun g hgx => hg.block g (hx.lt g hgx).2 fun e => own_ne h1 hx (by decide) e.symm hgx
  refine ⟨vs ++ [u], by rw [List.length_append]; exact happ vs h1, by simp [h2], fun k hk => ?_, fun i j hij hj g => ?_⟩
  · by_cases hk' : k < xss.length
    · rw [getD_left (by omega), getD_left hk']
      exact ⟨stay (h3 k hk').1, fun g hg => by have := (h3 k hk').2 g hg; omega⟩
    · have e : k = xss.length := by simp at hk; omega
      subst e
      rw [getD_last h2.symm, getD_last rfl]
      exact ⟨OI.mono (stay hu) hlo, hub⟩
  · rw [List.length_append] at hj
    simp only [List.length_cons, List.length_nil] at hj
    by_cases hj' : j < xss.length
    · rw [getD_left (by omega), getD_left (by omega)]
      exact h4 i j hij hj' g
    · have e : j = xss.length := by omega
      subst e
      rw [getD_left (by omega), getD_last h2.symm]
      intro hgi hgu
      have a := (h3 i hij).2 g hgi
      have b := (hu.lt g hgu).1
      omega

theorem intS_info : (Try.prog.info? 27).map (fun i => (i.zero, i.size, i.bytes)) = some (some (.slice none 0 0), 1, 24) := by kernel_rfl

/-- 'out = append(out, u)' at a slice of slices. -/
theorem wpList_appRow {ops : Array Oper} {rest : List Oper} {o : Oper} {a : Act} {Q : Exit → Act → World → Prop} (w : World) (hgd : o.guard = none) (s x : Operand)
    (ho : o.op = .call { callee := .builtin .append, args := #[s, x], argTypes := #[22, 22] })
    (lo hi mid hi' : Nat) (v u : Value) (xss : List (List Int)) (ys : List Int) (hs : a.eval s = v) {H : Nat} (hx : a.eval x = .slice (some ⟨H, 0, none⟩) 1 1) (hH : w.heap.size = H)
    (hown : OIIh w lo hi v xss) (hu : OI w mid u ys) (hm : hi ≤ mid) (hlm : lo ≤ mid) (hub : ∀ g, u.ownBlock = some g → g < hi') (hh : mid ≤ hi') (hlen : xss.length ≤ 1099511627776) (hlo : lo ≤ w.heap.size)
    (h : ∀ v' w', OIIh w' lo hi' v' (xss ++ [ys]) → Below lo w w' → w.grownBy w' v.ownBlock → wpList Try.prog ops Q rest (a.put o.dst v') w') : wpList Try.prog ops Q (o :: rest) a (w.alloc (.cells #[u] 27)) := by
  obtain ⟨vs, h1, _⟩ := id hown
  have hu1 : u.oneCell' = true := by
    rcases hu.2 with ⟨rfl, _⟩ | ⟨g, cap, cur, rfl, _⟩ <;> rfl
  refine wpList_app1 w hgd s x 22 27 (.slice none 0 0) 24 ho Try.underlying22 intS_info rfl lo v xss.length vs u hs hx hH hu1 h1 (by omega) (by omega) hlo ?_
  intro v' w' h1' h2 h3
  refine h v' w' (hown.app hu hm hlm hub hh (fun vs' hvs' => ?_) h3) h2 h3
  have e : vs' = vs := by
    rcases h1.2 with ⟨rfl, h0⟩ | ⟨g, cap, cur, rfl, _, hh1, _, _, _, ht⟩
    · have a1 := h1.1; have a2 := hvs'.1
      rw [List.eq_nil_of_length_eq_zero (l := vs') (by omega), List.eq_nil_of_length_eq_zero (l := vs) (by omega)]
    · rcases hvs'.2 with ⟨hv, _⟩ | ⟨g', cap', cur', hv, _, hh2, _, _, _, ht'⟩
      · cases hv
      · simp only [Value.slice.injEq, Option.some.injEq, Addr.mk.injEq, and_true, true_and] at hv
        obtain ⟨rfl, rfl⟩ := hv
        rw [hh1] at hh2
        simp only [Option.some.injEq, Obj.cells.injEq] at hh2
        rw [← ht, ← ht', hh2.1]
  rw [e]; exact h1'
theorem own_grow {w : World} {lo size n : Nat} {e : TypeId} {v : Value} {xs : List Value} (h : w.ownsRow lo e size v n xs) {g k : Nat} (hg : v.ownBlock ≠ some g) (u : Value) : (w.setCell ⟨g, k, none⟩ u).ownsRow lo e size v n xs :=
  own_reblock h fun g' hg' => Below.heap_setCell _ _ _ _ (by rintro rfl; exact hg hg')

/-- A row is stored into a place of the outer row. -/
theorem OIIh.put {w : World} {lo hi mid hi' g n c k : Nat} {u : Value} {yss : List (List Int)} {ys : List Int} (h : OIIh w lo hi (.slice (some ⟨g, 0, none⟩) n c) yss) (hn : yss.length = n) (hk : k < n) (hu : OI w mid u ys) (hm : hi ≤ mid) (hlo : lo ≤ mid) (hub : ∀ g', u.ownBlock = some g' → g' < hi') (hh : mid ≤ hi') :
    OIIh (w.setCell ⟨g, k, none⟩ u) lo hi' (.slice (some ⟨g, 0, none⟩) n c) (yss.set k ys) ∧ w.frozen? ⟨g, k, none⟩ = false ∧ (∃ old, w.cell? ⟨g, k, none⟩ = some old) ∧ lo ≤ g := by
  subst hn
  obtain ⟨vs, h1, h2, h3, h4⟩ := h
  have hf := World.ownsRow.frozenAt h1 k
  have hc := World.ownsRow.cellAt h1 k (by omega)
  have hs := (World.ownsRow.stored h1 k u).1
  have hlog := (h1.lt g rfl).1
  have stay : ∀ {lo2 : Nat} {x : Value} {zs : List Int}, OI w lo2 x zs → OI (w.setCell ⟨g, k, none⟩ u) lo2 x zs := fun {lo2 x zs} hx =>
    own_grow hx (fun e => own_ne h1 hx (by decide) (g := g) rfl e) u
  refine ⟨⟨vs.set k u, by rw [List.length_set]; exact hs, by simp [h2], fun i hi => ?_, fun i j hij hj g' => ?_⟩, hf, ?_, hlog⟩
  · rw [List.length_set] at hi
    by_cases e : k = i
    · subst e
      have e1 : (vs.set k u).getD k undef = u := by simp [h2, hi]
      have e2 : (yss.set k ys).getD k [] = ys := by simp [hi]
      rw [e1, e2]
      exact ⟨OI.mono (stay hu) hlo, hub⟩
    · have e1 : (vs.set k u).getD i undef = vs.getD i undef := by simp [e]
      have e2 : (yss.set k ys).getD i [] = yss.getD i [] := by simp [e]
      rw [e1, e2]
      exact ⟨stay (h3 i hi).1, fun g hg => by have := (h3 i hi).2 g hg; omega⟩
  · rw [List.length_set] at hj
    by_cases ei : k = i
    · subst ei
      have e1 : (vs.set k u).getD k undef = u := by simp [h2, hk]
      have e2 : (vs.set k u).getD j undef = vs.getD j undef := by simp [show ¬ k = j from by omega]
      rw [e1, e2]
      intro hg1 hg2
      have a := (h3 j hj).2 g' hg2
      have b := (hu.lt g' hg1).1
      omega
    · have e1 : (vs.set k u).getD i undef = vs.getD i undef := by simp [ei]
      rw [e1]
      by_cases ej : k = j
      · subst ej
        have e2 : (vs.set k u).getD k undef = u := by simp [h2, hk]
        rw [e2]
        intro hg1 hg2
        have a := (h3 i (by omega)).2 g' hg1
        have b := (hu.lt g' hg2).1
        omega
      · have e2 : (vs.set k u).getD j undef = vs.getD j undef := by simp [ej]
        rw [e2]
        exact h4 i j hij hj g'
  · exact ⟨vs.getD k undef, by rw [hc]; simp [List.getElem?_eq_getElem (show k < vs.length by omega)]⟩

/-- A row of an owned slice of slices: where it lies; and what is owned when that row has turned. -/
theorem OIIh.at {w : World} {lo hi g n c j : Nat} {xss : List (List Int)} (h : OIIh w lo hi (.slice (some ⟨g, 0, none⟩) n c) xss) (hn : xss.length = n) (hj : j < n) :
    ∃ u, w.cell? ⟨g, j, none⟩ = some u ∧ OI w lo u (xss.getD j []) ∧ (∀ g', u.ownBlock = some g' → g' < hi) ∧
      ∀ w' ys, OI w' lo u ys → w.grownBy w' u.ownBlock → OIIh w' lo hi (.slice (some ⟨g, 0, none⟩) n c) (xss.set j ys) := by
  subst hn
  obtain ⟨vs, h1, h2, h3, h4⟩ := h
  have hc := World.ownsRow.cellAt h1 j (by omega)
  refine ⟨vs.getD j undef, by rw [hc]; simp [List.getElem?_eq_getElem (show j < vs.length by omega)], (h3 j hj).1, (h3 j hj).2, fun w' ys ho hg => ?_⟩
  refine ⟨vs, by rw [List.length_set]; exact own_reblock h1 fun g' hg' => hg.block g' (h1.lt g' hg').2 fun e => own_ne h1 (h3 j hj).1 (by decide) hg' e.symm, by rw [List.length_set]; exact h2, fun i hi => ?_, fun i k hik hk => by rw [List.length_set] at hk; exact h4 i k hik hk⟩
  rw [List.length_set] at hi
  by_cases e : j = i
  · subst e
    have e2 : (xss.set j ys).getD j [] = ys := by simp [hi]
    rw [e2]
    exact ⟨ho, (h3 j hi).2⟩
  · have e2 : (xss.set j ys).getD i [] = xss.getD i [] := by simp [e]
    rw [e2]
    refine ⟨own_reblock (h3 i hi).1 fun g' hg' => hg.block g' ((h3 i hi).1.lt g' hg').2 fun ee => ?_, (h3 i hi).2⟩
    rcases Nat.lt_or_ge i j with hlt | hge
    · exact h4 i j hlt hj g' hg' ee.symm
    · exact h4 j i (by omega) hi g' ee.symm hg'

/-- The shape of a value that owns rows. -/
theorem OIIh.form {w : World} {lo hi : Nat} {v : Value} {xss : List (List Int)} (h : OIIh w lo hi v xss) : ∃ A c, v = .slice A xss.length c ∧ (0 < xss.length → ∃ g, A = some ⟨g, 0, none⟩ ∧ lo ≤ g ∧ g < w.heap.size) := by
  obtain ⟨vs, h1, _⟩ := h
  rcases h1.2 with ⟨hv, h0⟩ | ⟨g, cap, cur, rfl, hg, hh, _⟩
  · exact ⟨none, 0, by rw [hv, h0], fun h => absurd h (by omega)⟩
  · exact ⟨_, _, rfl, fun _ => ⟨g, rfl, hg, (h1.lt g rfl).2⟩⟩
theorem OIIh.lenle {w : World} {lo hi : Nat} {v : Value} {xss : List (List Int)} (h : OIIh w lo hi v xss) : xss.length ≤ maxLen := by
  obtain ⟨vs, h1, _⟩ := h; exact own_len h1

/-- 'make([][]int, n)'. -/
theorem OIIh.made (w : World) (n : Nat) (hn : n ≤ maxLen) : OIIh (w.alloc (.cells (madeCells #[.slice none 0 0] n) 27)) w.heap.size w.heap.size (.slice (some ⟨w.heap.size, 0, none⟩) n n) (List.replicate n []) := by
  have h := World.ownsRow_lit (base := w.heap.size) (e := 27) (size := 1) w (madeCells #[.slice none 0 0] n) n (Nat.le_refl _) hn (by simp [size_madeCells])
  refine ⟨List.replicate n (.slice none 0 0), by rw [List.length_replicate]; simpa [toList_madeCells_one] using h, by simp, fun k hk => ?_, fun i j hij hj g => ?_⟩
  · have hk' : k < n := by simpa using hk
    have e1 : (List.replicate n (Value.slice none 0 0)).getD k undef = .slice none 0 0 := by simp [hk']
    have e2 : (List.replicate n ([] : List Int)).getD k [] = [] := by simp [hk']
    rw [e1, e2]
    exact ⟨World.ownsRow_nil _ _ _ _, fun g h => by simp [Value.ownBlock] at h⟩
  · have hi' : i < n := by rw [List.length_replicate] at hj; omega
    have e1 : (List.replicate n (Value.slice none 0 0)).getD i undef = .slice none 0 0 := by simp [hi']
    rw [e1]
    intro h; simp [Value.ownBlock] at h
end Go.Proofs.Ytfanohebejemmaa
