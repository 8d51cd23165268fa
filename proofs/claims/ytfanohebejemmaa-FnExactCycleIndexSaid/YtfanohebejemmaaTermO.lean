/-
  Words for memory: a slice of structs (a list and a number each) that the call owns; an append, a store of a number; the laws' marks on it.
-/
import Derived.Test.YtfanohebejemmaaTermS
namespace Go.Proofs.Ytfanohebejemmaa
open Go.RowKit Go.Deep

abbrev P0 : Value × Int := (undef, 0)
/-- The cells of structs, one behind the other. -/
def cellsT : List (Value × Int) → List Value
  | [] => []
  | p :: l => p.1 :: .int .i64 p.2 :: cellsT l
theorem cellsT_len (l : List (Value × Int)) : (cellsT l).length = l.length * 2 := by
  induction l with
  | nil => rfl
  | cons p l ih => simp only [cellsT, List.length_cons, ih]; omega
theorem cellsT_app (a b : List (Value × Int)) : cellsT (a ++ b) = cellsT a ++ cellsT b := by
  induction a with
  | nil => rfl
  | cons p a ih => simp only [List.cons_append, cellsT, ih]
theorem cellsT_zero {l : List (Value × Int)} {k : Nat} (hk : k < l.length) : (cellsT l)[k * 2]? = some (l.getD k P0).1 := by
  induction l generalizing k with
  | nil => simp at hk
  | cons p l ih =>
    cases k with
    | zero => rfl
    | succ k =>
      have h := ih (k := k) (by simpa using hk)
      rw [show (k + 1) * 2 = k * 2 + 1 + 1 from by omega]
      simp only [cellsT, List.getElem?_cons_succ, List.getD_cons_succ]
      exact h
theorem cellsT_one {l : List (Value × Int)} {k : Nat} (hk : k < l.length) : (cellsT l)[k * 2 + 1]? = some (.int .i64 (l.getD k P0).2) := by
  induction l generalizing k with
  | nil => simp at hk
  | cons p l ih =>
    cases k with
    | zero => rfl
    | succ k =>
      have h := ih (k := k) (by simpa using hk)
      rw [show (k + 1) * 2 + 1 = k * 2 + 1 + 1 + 1 from by omega]
      simp only [cellsT, List.getElem?_cons_succ, List.getD_cons_succ]
      exact h
theorem cellsT_set {l : List (Value × Int)} {k : Nat} (hk : k < l.length) (c : Int) : (cellsT l).set (k * 2 + 1) (.int .i64 c) = cellsT (l.set k ((l.getD k P0).1, c)) := by
  induction l generalizing k with
  | nil => simp at hk
  | cons p l ih =>
    cases k with
    | zero => rfl
    | succ k =>
      have h := ih (k := k) (by simpa using hk)
      rw [show (k + 1) * 2 + 1 = k * 2 + 1 + 1 + 1 from by omega]
      simp only [cellsT, List.set_cons_succ, List.getD_cons_succ]
      rw [h]
theorem cellsT_take (l : List (Value × Int)) (k : Nat) : (cellsT l).take (k * 2) = cellsT (l.take k) := by
  induction l generalizing k with
  | nil => simp [cellsT]
  | cons p l ih =>
    cases k with
    | zero => simp [cellsT]
    | succ k =>
      rw [show (k + 1) * 2 = k * 2 + 1 + 1 from by omega]
      simp only [cellsT, List.take_succ_cons, ih]
theorem cellsT_drop (l : List (Value × Int)) (k : Nat) : (cellsT l).drop (k * 2) = cellsT (l.drop k) := by
  induction l generalizing k with
  | nil => simp [cellsT]
  | cons p l ih =>
    cases k with
    | zero => simp
    | succ k =>
      rw [show (k + 1) * 2 = k * 2 + 1 + 1 from by omega]
      simp only [cellsT, List.drop_succ_cons, ih]
theorem cellsT_cell {l : List (Value × Int)} (h : ∀ p ∈ l, p.1.oneCell' = true) : ∀ u ∈ cellsT l, u.oneCell' = true := by
  induction l with
  | nil => intro u hu; simp [cellsT] at hu
  | cons p l ih =>
    intro u hu
    simp only [cellsT, List.mem_cons] at hu
    rcases hu with rfl | rfl | hu
    · exact h p (by simp)
    · rfl
    · exact ih (fun q hq => h q (by simp [hq])) u hu

/-- What is known of the list behind the k-th struct. -/
def RowT (w : World) (lo hi : Nat) (p : Value × Int) (t : List Int × Int) : Prop := p.2 = t.2 ∧ OI w lo p.1 t.1 ∧ ∀ g, p.1.ownBlock = some g → g < hi
/-- A slice of structs that the call owns: the lists lie in blocks from lo up to hi, no two of them in one block. -/
def OTTh (w : World) (lo hi : Nat) (v : Value) (ts : List (List Int × Int)) : Prop :=
  ∃ l : List (Value × Int), w.ownsRow lo 56 2 v ts.length (cellsT l) ∧ l.length = ts.length ∧ (∀ k, k < ts.length → RowT w lo hi (l.getD k P0) (ts.getD k T0)) ∧
    ∀ i j, i < j → j < ts.length → ∀ g, (l.getD i P0).1.ownBlock = some g → (l.getD j P0).1.ownBlock ≠ some g
theorem OTTh.lit (w : World) : OTTh (w.alloc (.cells #[] 56)) w.heap.size w.heap.size (.slice (some ⟨w.heap.size, 0, none⟩) 0 0) [] :=
  ⟨[], World.ownsRow_lit w #[] 0 (Nat.le_refl _) (by simp) rfl, rfl, fun k h => absurd h (by simp), fun i j _ h => absurd h (by simp)⟩
theorem OTTh.nil (w : World) (lo hi : Nat) : OTTh w lo hi (.slice none 0 0) [] :=
  ⟨[], World.ownsRow_nil _ _ _ _, rfl, fun k h => absurd h (by simp), fun i j _ h => absurd h (by simp)⟩
theorem RowT.step {w w' : World} {lo hi : Nat} {p : Value × Int} {t : List Int × Int} (h : RowT w lo hi p t) (b : Below w.heap.size w w') : RowT w' lo hi p t := ⟨h.1, OI.step h.2.1 b, h.2.2⟩
theorem RowT.mono {w : World} {lo lo' hi hi' : Nat} {p : Value × Int} {t : List Int × Int} (h : RowT w lo hi p t) (hl : lo' ≤ lo) (hh : hi ≤ hi') : RowT w lo' hi' p t := ⟨h.1, OI.mono h.2.1 hl, fun g hg => by have := h.2.2 g hg; omega⟩
theorem OTTh.step {w w' : World} {lo hi : Nat} {v : Value} {ts : List (List Int × Int)} (h : OTTh w lo hi v ts) (b : Below w.heap.size w w') : OTTh w' lo hi v ts := by
  obtain ⟨l, h1, h2, h3, h4⟩ := h
  exact ⟨l, own_reblock h1 fun g hg => b.block g (h1.lt g hg).2, h2, fun k hk => (h3 k hk).step b, h4⟩
theorem OTTh.above {w w' : World} {lo hi l h' : Nat} {v : Value} {ts : List (List Int × Int)} (h : OTTh w lo hi v ts) (t : Turned l h' w w') (hle : h' ≤ lo) : OTTh w' lo hi v ts := by
  obtain ⟨l, h1, h2, h3, h4⟩ := h
  exact ⟨l, own_reblock h1 fun g hg => t.block g (.inr (by have := (h1.lt g hg).1; omega)), h2, fun k hk => ⟨(h3 k hk).1, OI.above (h3 k hk).2.1 t hle, (h3 k hk).2.2⟩, h4⟩
theorem OTTh.mono {w : World} {lo lo' hi hi' : Nat} {v : Value} {ts : List (List Int × Int)} (h : OTTh w lo hi v ts) (hl : lo' ≤ lo) (hh : hi ≤ hi') : OTTh w lo' hi' v ts := by
  obtain ⟨l, h1, h2, h3, h4⟩ := h
  refine ⟨l, ?_, h2, fun k hk => (h3 k hk).mono hl hh, h4⟩
  obtain ⟨a, b⟩ := h1
  refine ⟨a, ?_⟩
  rcases b with b | ⟨g, cap, cur, hv, hg, r⟩
  · exact .inl b
  · exact .inr ⟨g, cap, cur, hv, by omega, r⟩
theorem OTTh.wide {w : World} {lo hi : Nat} {v : Value} {ts : List (List Int × Int)} (h : OTTh w lo hi v ts) : OTTh w lo w.heap.size v ts := by
  obtain ⟨l, h1, h2, h3, h4⟩ := h
  exact ⟨l, h1, h2, fun k hk => ⟨(h3 k hk).1, (h3 k hk).2.1, fun g hg => ((h3 k hk).2.1.lt g hg).2⟩, h4⟩
theorem OTTh.form {w : World} {lo hi : Nat} {v : Value} {ts : List (List Int × Int)} (h : OTTh w lo hi v ts) : ∃ A c, v = .slice A ts.length c ∧ (0 < ts.length → ∃ g, A = some ⟨g, 0, none⟩ ∧ lo ≤ g ∧ g < w.heap.size) := by
  obtain ⟨l, h1, _⟩ := h
  rcases h1.2 with ⟨rfl, h0⟩ | ⟨g, cap, cur, rfl, hg, hh, _⟩
  · exact ⟨none, 0, by rw [h0], fun h => by omega⟩
  · exact ⟨_, cap, rfl, fun _ => ⟨g, rfl, hg, (h1.lt g rfl).2⟩⟩
theorem OTTh.lenle {w : World} {lo hi : Nat} {v : Value} {ts : List (List Int × Int)} (h : OTTh w lo hi v ts) : ts.length ≤ maxLen := by
  obtain ⟨l, h1, _⟩ := h
  rcases h1.2 with ⟨_, h0⟩ | ⟨g, cap, cur, hv, hg, hh, hn, hm, _⟩ <;> omega
/-- The k-th struct in memory. -/
theorem OTTh.at {w : World} {lo hi g n c k : Nat} {ts : List (List Int × Int)} (h : OTTh w lo hi (.slice (some ⟨g, 0, none⟩) n c) ts) (hn : ts.length = n) (hk : k < n) :
    ∃ u, w.cell? ⟨g, k * 2, none⟩ = some u ∧ w.cell? ⟨g, k * 2 + 1, none⟩ = some (.int .i64 (ts.getD k T0).2) ∧ w.frozen? ⟨g, k * 2, none⟩ = false ∧ w.frozen? ⟨g, k * 2 + 1, none⟩ = false ∧ OI w lo u (ts.getD k T0).1 ∧ ∀ b, u.ownBlock = some b → b < hi := by
  subst hn
  obtain ⟨l, h1, h2, h3, h4⟩ := h
  obtain ⟨r1, r2, r3⟩ := h3 k hk
  refine ⟨(l.getD k P0).1, ?_, ?_, h1.frozenAt _, h1.frozenAt _, r2, r3⟩
  · rw [h1.cellAt (k * 2) (by omega), cellsT_zero (by omega)]
  · rw [h1.cellAt (k * 2 + 1) (by omega), cellsT_one (by omega), r1]
theorem OTTh.reads {w : World} {lo hi : Nat} {v : Value} {ts : List (List Int × Int)} (h : OTTh w lo hi v ts) : RTS w v ts := by
  obtain ⟨A, c, rfl, hA⟩ := h.form
  refine ⟨A, c, rfl, h.lenle, fun h0 => ?_⟩
  obtain ⟨g, rfl, _, hg⟩ := hA h0
  refine ⟨g, 0, rfl, hg, fun k hk => ?_⟩
  obtain ⟨u, h1, h2, _, _, h5, _⟩ := h.at rfl hk
  exact ⟨u, by rw [Nat.zero_add]; exact h1, by rw [Nat.zero_add]; exact h2, h5.reads⟩
theorem getD_setT {ts : List (List Int × Int)} {i k : Nat} {t : List Int × Int} (hi : i < ts.length) : (ts.set k t).getD i T0 = if k = i then t else ts.getD i T0 := by
  by_cases h : k = i
  · subst h; rw [if_pos rfl]; simp [hi]
  · rw [if_neg h]; simp [h]
theorem getD_setP {l : List (Value × Int)} {i k : Nat} {p : Value × Int} (hi : i < l.length) : (l.set k p).getD i P0 = if k = i then p else l.getD i P0 := by
  by_cases h : k = i
  · subst h; rw [if_pos rfl]; simp [hi]
  · rw [if_neg h]; simp [h]
/-- A number is stored. -/
theorem OTTh.count {w : World} {lo hi g n c k : Nat} {ts : List (List Int × Int)} (h : OTTh w lo hi (.slice (some ⟨g, 0, none⟩) n c) ts) (hn : ts.length = n) (hk : k < n) (x : Int) :
    OTTh (w.setCell ⟨g, k * 2 + 1, none⟩ (.int .i64 x)) lo hi (.slice (some ⟨g, 0, none⟩) n c) (ts.set k ((ts.getD k T0).1, x)) ∧ w.grownBy (w.setCell ⟨g, k * 2 + 1, none⟩ (.int .i64 x)) (some g) := by
  subst hn
  obtain ⟨l, h1, h2, h3, h4⟩ := h
  have hs := World.ownsRow.stored h1 (k * 2 + 1) (.int .i64 x)
  refine ⟨⟨l.set k ((l.getD k P0).1, x), ?_, by simp [h2], fun i hi => ?_, fun i j hij hj b => ?_⟩, hs.2⟩
  · rw [List.length_set, ← cellsT_set (by omega)]; exact hs.1
  · rw [List.length_set] at hi
    obtain ⟨r1, r2, r3⟩ := h3 i hi
    have r2' : OI (w.setCell ⟨g, k * 2 + 1, none⟩ (.int .i64 x)) lo (l.getD i P0).1 (ts.getD i T0).1 := own_reblock r2 fun b hb => hs.2.block b (r2.lt b hb).2 fun e => own_ne h1 r2 (by decide) (g := g) rfl (by rw [hb, e])
    rw [getD_setP (by omega), getD_setT hi]
    by_cases e : k = i
    · subst e
      rw [if_pos rfl, if_pos rfl]
      exact ⟨rfl, r2', r3⟩
    · rw [if_neg e, if_neg e]
      exact ⟨r1, r2', r3⟩
  · rw [List.length_set] at hj
    have hb : ∀ i, i < ts.length → ((l.set k ((l.getD k P0).1, x)).getD i P0).1 = (l.getD i P0).1 := fun i hi => by
      rw [getD_setP (by omega)]
      by_cases e : k = i
      · subst e; rw [if_pos rfl]
      · rw [if_neg e]
    rw [hb i (by omega), hb j hj]
    exact h4 i j hij hj b
/-- The list behind the k-th struct has been written in place. -/
theorem OTTh.rowSet {w w' : World} {lo hi g n c k : Nat} {ts : List (List Int × Int)} (h : OTTh w lo hi (.slice (some ⟨g, 0, none⟩) n c) ts) (hn : ts.length = n) (hk : k < n) {u : Value} (hu : w.cell? ⟨g, k * 2, none⟩ = some u) {ys : List Int} (hy : OI w' lo u ys) (hg : w.grownBy w' u.ownBlock) :
    OTTh w' lo hi (.slice (some ⟨g, 0, none⟩) n c) (ts.set k (ys, (ts.getD k T0).2)) := by
  subst hn
  obtain ⟨l, h1, h2, h3, h4⟩ := h
  have eu : u = (l.getD k P0).1 := by
    rw [h1.cellAt (k * 2) (by omega), cellsT_zero (by omega)] at hu
    exact (Option.some.inj hu).symm
  subst eu
  refine ⟨l, ?_, by simp [h2], fun i hi => ?_, fun i j hij hj => by rw [List.length_set] at hj; exact h4 i j hij hj⟩
  · rw [List.length_set]
    exact own_reblock h1 fun b hb => hg.block b (h1.lt b hb).2 fun e => own_ne h1 (h3 k hk).2.1 (by decide) hb e.symm
  · rw [List.length_set] at hi
    rw [getD_setT hi]
    obtain ⟨r1, r2, r3⟩ := h3 i hi
    by_cases e : k = i
    · subst e
      rw [if_pos rfl]
      exact ⟨r1, hy, r3⟩
    · rw [if_neg e]
      refine ⟨r1, own_reblock r2 fun b hb => hg.block b (r2.lt b hb).2 fun e' => ?_, r3⟩
      rcases Nat.lt_or_gt_of_ne e with hlt | hlt
      · exact h4 k i hlt hi b e'.symm hb
      · exact h4 i k hlt hk b hb e'.symm
/-- One struct more: what an append leaves. -/
theorem OTTh.app {w w' : World} {lo hi mid hi' : Nat} {v u v' : Value} {ts : List (List Int × Int)} {t : List Int} {x : Int} (h : OTTh w lo hi v ts) (hu : OI w mid u t) (hm : hi ≤ mid) (hlo : lo ≤ mid) (hub : ∀ g, u.ownBlock = some g → g < hi') (hh : mid ≤ hi')
    (happ : ∀ l, w.ownsRow lo 56 2 v ts.length (cellsT l) → w'.ownsRow lo 56 2 v' (ts.length + 1) (cellsT l ++ [u, .int .i64 x])) (hg : w.grownBy w' v.ownBlock) : OTTh w' lo hi' v' (ts ++ [(t, x)]) := by
  obtain ⟨l, h1, h2, h3, h4⟩ := h
  have stay : ∀ {lo2 : Nat} {y : Value} {zs : List Int}, OI w lo2 y zs → OI w' lo2 y zs := fun {lo2 y zs} hx =>
    own_reblock hx fun g hgx => hg.block g (hx.lt g hgx).2 fun e => own_ne h1 hx (by decide) e.symm hgx
  refine ⟨l ++ [(u, x)], by rw [List.length_append, cellsT_app]; exact happ l h1, by simp [h2], fun k hk => ?_, fun i j hij hj g => ?_⟩
  · by_cases hk' : k < ts.length
    · rw [getD_left (by omega), getD_left hk']
      exact ⟨(h3 k hk').1, stay (h3 k hk').2.1, fun g hg => by have := (h3 k hk').2.2 g hg; omega⟩
    · have e : k = ts.length := by simp at hk; omega
      subst e
      rw [getD_last h2.symm, getD_last rfl]
      exact ⟨rfl, OI.mono (stay hu) hlo, hub⟩
  · rw [List.length_append] at hj
    simp only [List.length_cons, List.length_nil] at hj
    by_cases hj' : j < ts.length
    · rw [getD_left (by omega), getD_left (by omega)]
      exact h4 i j hij hj' g
    · have e : j = ts.length := by omega
      subst e
      rw [getD_left (by omega), getD_last h2.symm]
      intro hgi hgu
      have a := (h3 i hij).2.2 g hgi
      have b := (hu.lt g hgu).1
      omega
theorem own_uniq {w : World} {lo size n : Nat} {e : TypeId} {v : Value} {xs ys : List Value} (h : w.ownsRow lo e size v n xs) (h' : w.ownsRow lo e size v n ys) : xs = ys := by
  rcases h.2 with ⟨rfl, h0⟩ | ⟨g, cap, cur, rfl, _, hh1, _, _, _, ht⟩
  · have a1 := h.1; have a2 := h'.1
    rw [h0, Nat.zero_mul] at a1 a2
    rw [List.eq_nil_of_length_eq_zero a1, List.eq_nil_of_length_eq_zero a2]
  · rcases h'.2 with ⟨hv, _⟩ | ⟨g', cap', cur', hv, _, hh2, _, _, _, ht'⟩
    · cases hv
    · simp only [Value.slice.injEq, Option.some.injEq, Addr.mk.injEq, and_true, true_and] at hv
      obtain ⟨rfl, rfl⟩ := hv
      rw [hh1] at hh2
      simp only [Option.some.injEq, Obj.cells.injEq] at hh2
      rw [← ht, ← ht', hh2.1]
/-- 'out = append(out, impl.Term{..})'. -/
theorem wpList_appTerm {ops : Array Oper} {rest : List Oper} {o : Oper} {a : Act} {Q : Exit → Act → World → Prop} (w : World) (hgd : o.guard = none) (s x : Operand)
    (ho : o.op = .call { callee := .builtin .append, args := #[s, x], argTypes := #[37, 37] })
    (lo hi mid hi' : Nat) (v u : Value) (ts : List (List Int × Int)) (t : List Int) (y : Int) (hs : a.eval s = v) {H : Nat} (hx : a.eval x = .slice (some ⟨H, 0, none⟩) 1 1) (hH : w.heap.size = H)
    (hown : OTTh w lo hi v ts) (hu : OI w mid u t) (hm : hi ≤ mid) (hlm : lo ≤ mid) (hub : ∀ g, u.ownBlock = some g → g < hi') (hh : mid ≤ hi') (hlen : ts.length ≤ 1099511627776) (hlo : lo ≤ w.heap.size)
    (h : ∀ v' w', OTTh w' lo hi' v' (ts ++ [(t, y)]) → Below lo w w' → w.grownBy w' v.ownBlock → wpList Try.prog ops Q rest (a.put o.dst v') w') : wpList Try.prog ops Q (o :: rest) a (w.alloc (.cells #[u, .int .i64 y] 56)) := by
  subst hH
  obtain ⟨l, h1, _⟩ := id hown
  obtain ⟨i, hi0, hzz⟩ := Option.map_eq_some_iff.1 term_info
  simp only [Prod.mk.injEq] at hzz
  obtain ⟨hz, hsz, hby⟩ := hzz
  have hu1 : u.oneCell' = true := by
    rcases hu.2 with ⟨rfl, _⟩ | ⟨g, cap, cur, rfl, _⟩ <;> rfl
  refine wpList_append_own (w.alloc (.cells #[u, .int .i64 y] 56)) hgd s x 37 ho lo 56 i _ 2 32 Try.underlying37 hi0 hz hsz hby rfl (by omega) v ts.length (cellsT l) hs (h1.alloc _) ⟨w.heap.size, 0, none⟩ 1 1 [u, .int .i64 y] hx rfl ?_ ?_ (by unfold maxLen; omega) (by omega) (by simp; omega) ?_
  · intro j z hj
    match j, hj with
    | 0, hj => simp at hj; subst hj; simp [Addr.add]
    | 1, hj => simp at hj; subst hj; simp [Addr.add]
  · intro z hz'
    simp only [List.mem_cons, List.not_mem_nil, or_false] at hz'
    rcases hz' with rfl | rfl
    · exact hu1
    · rfl
  · intro v' w' h2 h3 _
    have hg : w.grownBy w' v.ownBlock :=
      ⟨h3.os, h3.tape, h3.output, by have := h3.size; simp at this; omega, fun k hk hne => (h3.block k (by simp; omega) hne).trans (Below.heap_alloc w _ k hk)⟩
    exact h v' w' (hown.app hu hm hlm hub hh (fun l' hl' => by rw [own_uniq hl' h1]; exact h2) hg) ((Below.refl _ _).grown hg hlo fun k hk => (h1.lt k hk).1) hg

/-- The marks of the laws. -/
def totT (ts : List (List Int × Int)) : Nat := (ts.map fun t => t.1.length + 1).sum
def mkT (ts : List (List Int × Int)) (k : Int) (i : Nat) : List Int × Int := (marks (ts.getD i T0).1.length (k + (totT (ts.take i) : Int)), k + (totT (ts.take i) : Int) + ((ts.getD i T0).1.length : Int))
def markTT (ts : List (List Int × Int)) (k : Int) (j : Nat) : List (List Int × Int) := (List.range ts.length).map fun i => if i < j then mkT ts k i else ts.getD i T0
theorem markTT_len (ts : List (List Int × Int)) (k : Int) (j : Nat) : (markTT ts k j).length = ts.length := by simp [markTT]
theorem markTT_at {ts : List (List Int × Int)} {k : Int} {j i : Nat} (hi : i < ts.length) : (markTT ts k j).getD i T0 = if i < j then mkT ts k i else ts.getD i T0 := by simp [markTT, hi]
theorem markTT_zero (ts : List (List Int × Int)) (k : Int) : markTT ts k 0 = ts := by
  apply List.ext_getElem
  · simp [markTT]
  · intro i h1 h2; simp [markTT, h2]
theorem markTT_set {ts : List (List Int × Int)} {k : Int} {j : Nat} (_hj : j < ts.length) : (markTT ts k j).set j (mkT ts k j) = markTT ts k (j + 1) := by
  apply List.ext_getElem
  · simp [markTT]
  · intro i h1 h2
    have hi : i < ts.length := by simpa [markTT] using h2
    rw [List.getElem_set]
    simp only [markTT, List.getElem_map, List.getElem_range]
    by_cases h : j = i
    · subst h; rw [if_pos rfl, if_pos (by omega)]
    · rw [if_neg h]
      by_cases h3 : i < j
      · rw [if_pos h3, if_pos (by omega)]
      · rw [if_neg h3, if_neg (by omega)]
theorem totT_succ {ts : List (List Int × Int)} {j : Nat} (hj : j < ts.length) : totT (ts.take (j + 1)) = totT (ts.take j) + ((ts.getD j T0).1.length + 1) := by
  rw [takeT_succ hj]; simp [totT]
theorem totT_take (ts : List (List Int × Int)) (j : Nat) : totT (ts.take j) ≤ totT ts := by
  have h : totT ts = totT (ts.take j) + totT (ts.drop j) := by
    conv => lhs; rw [← List.take_append_drop j ts]
    simp only [totT, List.map_append, List.sum_append]
  omega

set_option maxHeartbeats 1600000 in
theorem markTermS_step {w : World} {lo hi : Nat} {a : Value} {ts : List (List Int × Int)} (k : Int) (h : OTTh w lo hi a ts) (hhi : ∀ g, a.ownBlock = some g → g < hi) (h0 : 0 ≤ k) (h1 : k ≤ 4294967296) (hx : totT ts ≤ 4294967296) :
    Calls Try.prog 47 #[a, .int .i64 k] w fun e w' => e = .returned (.int .i64 (k + (totT ts : Int))) ∧ OTTh w' lo hi a (markTT ts k ts.length) ∧ Turned lo hi w w' := by
  obtain ⟨A, c, rfl, hA⟩ := h.form
  obtain ⟨n, hn⟩ : ∃ n, n = ts.length := ⟨_, rfl⟩
  have hnl : n ≤ totT ts := by
    have : ∀ l : List (List Int × Int), l.length ≤ totT l := by
      intro l
      induction l with
      | nil => simp [totT]
      | cons t l ih => simp only [totT, List.map_cons, List.sum_cons, List.length_cons] at *; omega
    rw [hn]; exact this ts
  rw [← hn] at hA h hhi ⊢
  have HL := Lib.hid hn
  have HA := Lib.hid hA
  have HH := Lib.hid hhi
  have H0 := Lib.hid h
  have HT : Hid (totT (ts.take n) = totT ts) := by rw [Hid, List.take_of_length_le (by omega)]
  clear hA hn hhi h
  go_enter Try.func47, Try.ntmps47
  go_wp2
  go_loopw [1, 5] (fun q i wr => ∃ j m : Nat, j ≤ n ∧ i = .int .i64 j ∧ q = .int .i64 (k + (m : Int)) ∧ m ≤ 4294967296 ∧ Hid (m = totT (ts.take j) ∧ OTTh wr lo hi (.slice A n c) (markTT ts k j) ∧ Turned lo hi w wr)) (fun _ i _ => n - (intOf i).toNat)
  case atStart => exact ⟨0, 0, Nat.zero_le _, rfl, by simp, by omega, by simp [totT], by rw [markTT_zero]; exact H0.out, Turned.refl _ _ _⟩
  case round =>
    obtain ⟨j, m, hj, rfl, rfl, hm, HR⟩ := hrel
    by_cases hlt : j < n
    · obtain ⟨g, rfl, hg1, hg2⟩ := HA.out (by omega)
      have hjl : j < ts.length := by have := HL.out; omega
      have hml : (markTT ts k j).length = n := by rw [markTT_len]; exact HL.out.symm
      obtain ⟨u, e1, e2, f1, f2, ou, hub⟩ := OTTh.at HR.out.2.1 hml hlt
      have hat : (markTT ts k j).getD j T0 = ts.getD j T0 := by rw [markTT_at hjl, if_neg (by omega)]
      have hts := totT_succ hjl
      have htt := totT_take ts (j + 1)
      have hmk : mkT ts k j = (marks (ts.getD j T0).1.length (k + (m : Int)), k + (m : Int) + ((ts.getD j T0).1.length : Int)) := by rw [mkT, ← HR.out.1]
      rw [← HR.out.1] at hts
      rw [hts] at htt
      rw [hat] at e2 ou
      obtain ⟨t, ht⟩ : ∃ t, t = ts.getD j T0 := ⟨_, rfl⟩
      rw [← ht] at e2 ou hts htt hmk hat
      obtain ⟨p, hp⟩ : ∃ p, p = t.1.length := ⟨_, rfl⟩
      rw [← hp] at hts htt hmk
      have HP := Lib.hid hp
      have HU := Lib.hid (And.intro ou (And.intro hub (And.intro hml (And.intro hat (And.intro hts hmk)))))
      have HE := Lib.hid e1
      obtain ⟨A1, c1, rfl, -⟩ := OI.form ou
      rw [← hp] at e1 HE HU
      have hgw : g < wr.heap.size := by have := HR.out.2.2.size; omega
      have HG := Lib.hid hgw
      have hpl : p ≤ 4294967296 := by omega
      have hmp : m + (p + 1) ≤ 4294967296 := by omega
      clear ou hub hml hat hts htt hmk hp ht hjl hgw hg1 hg2
      go_wp2_with fail
      have hc := markIntS_any (k + (m : Int)) HU.out.1 (by omega) (by omega) (by rw [← HP.out]; omega)
      rw [← HP.out] at hc
      refine hc.mono ?_
      clear hc
      rintro e w1 ⟨rfl, o1, g1, s1⟩
      have hrow := OTTh.rowSet HR.out.2.1 HU.out.2.2.1 hlt HE.out o1 g1
      rw [HU.out.2.2.2.1] at hrow
      have hlen2 : ((markTT ts k j).set j (marks p (k + (m : Int)), t.2)).length = n := by rw [List.length_set]; exact HU.out.2.2.1
      have t1 : Turned lo hi wr w1 := Turned.of_grown g1 s1 fun b hb => ⟨(HU.out.1.lt b hb).1, HU.out.2.1 b hb⟩
      obtain ⟨u2, q1, q2, q3, q4, -, -⟩ := OTTh.at hrow hlen2 hlt
      have hcnt := OTTh.count hrow hlen2 hlt (k + (m : Int) + (p : Int))
      have hjl2 : j < (markTT ts k j).length := by have := HU.out.2.2.1; omega
      have efin : ((markTT ts k j).set j (marks p (k + (m : Int)), t.2)).set j ((((markTT ts k j).set j (marks p (k + (m : Int)), t.2)).getD j T0).1, k + (m : Int) + (p : Int)) = markTT ts k (j + 1) := by
        rw [getD_setT hjl2, if_pos rfl, List.set_set, ← markTT_set (by have := HL.out; omega), HU.out.2.2.2.2.2]
      rw [efin] at hcnt
      have t2 : Turned lo hi w1 (w1.setCell ⟨g, j * 2 + 1, none⟩ (.int .i64 (k + (m : Int) + (p : Int)))) := Turned.of_grown hcnt.2 (by simp) fun b hb => by
        cases hb
        exact ⟨(by obtain ⟨l, hl, _⟩ := HR.out.2.1; exact (hl.lt g rfl).1), HH.out g rfl⟩
      have HN := Lib.hid (And.intro HU.out.2.2.2.2.1 (And.intro hcnt.1 (HR.out.2.2.trans (t1.trans t2))))
      have hsum : k + (m : Int) + (p : Int) + 1 = k + ((m + (p + 1) : Nat) : Int) := by omega
      have HSM := Lib.hid hsum
      clear hrow hlen2 t1 t2 hcnt efin o1 g1 s1 q1 hjl2 hsum e1 e2 f1 f2
      go_wp2_with fail
      go_roundw
      case rel => exact ⟨j + 1, m + (p + 1), by omega, by go_num, by rw [← HSM.out], hmp, HN.out.1.symm, HN.out.2⟩
      case measure => simp [intOf]; omega
    · go_wp2
      go_ret
      obtain rfl : j = n := by omega
      have hL := HL.out
      refine ⟨retI (by rw [← HT.out, HR.out.1]), ?_, HR.out.2.2⟩
      exact HR.out.2.1

set_option maxHeartbeats 1600000 in
theorem heldTermS_step {w : World} {a : Value} {ts : List (List Int × Int)} (k : Int) (h : RTS w a (markTT ts k ts.length)) (h0 : 0 ≤ k) (h1 : k ≤ 4294967296) (hx : totT ts ≤ 4294967296) :
    Calls Try.prog 48 #[a, .int .i64 k] w fun e w' => e = .returned (.int .i64 (k + (totT ts : Int))) ∧ Below w.heap.size w w' := by
  obtain ⟨A, c, rfl, -, hA⟩ := h
  obtain ⟨n, hn⟩ : ∃ n, n = ts.length := ⟨_, rfl⟩
  have hnl : n ≤ totT ts := by
    have : ∀ l : List (List Int × Int), l.length ≤ totT l := by
      intro l
      induction l with
      | nil => simp [totT]
      | cons t l ih => simp only [totT, List.map_cons, List.sum_cons, List.length_cons] at *; omega
    rw [hn]; exact this ts
  rw [markTT_len, ← hn] at hA ⊢
  have HL := Lib.hid hn
  have HA := Lib.hid hA
  have HT : Hid (totT (ts.take n) = totT ts) := by rw [Hid, List.take_of_length_le (by omega)]
  clear hA hn
  go_enter Try.func48, Try.ntmps48
  go_wp2
  go_loop [1, 5] (fun q i => ∃ j m : Nat, j ≤ n ∧ i = .int .i64 j ∧ q = .int .i64 (k + (m : Int)) ∧ m ≤ 4294967296 ∧ Hid (m = totT (ts.take j))) (fun _ i => n - (intOf i).toNat)
  case atStart => exact ⟨0, 0, Nat.zero_le _, rfl, by simp, by omega, by simp [Hid, totT]⟩
  case round =>
    obtain ⟨j, m, hj, rfl, rfl, hm, HR⟩ := hrel
    by_cases hlt : j < n
    · have hjl : j < ts.length := by have := HL.out; omega
      obtain ⟨b, off, rfl, hb, hc⟩ := HA.out (by omega)
      have hc' : ∀ i, i < n → _ := hc
      obtain ⟨A1, c1, e1, e2, e3⟩ := RTS.at hc' hlt
      have hts := totT_succ hjl
      have htt := totT_take ts (j + 1)
      have hmk : (markTT ts k n).getD j T0 = (marks (ts.getD j T0).1.length (k + (m : Int)), k + (m : Int) + ((ts.getD j T0).1.length : Int)) := by rw [markTT_at hjl, if_pos hlt, mkT, ← HR.out]
      rw [← HR.out] at hts
      rw [hts] at htt
      obtain ⟨p, hp⟩ : ∃ p, p = (ts.getD j T0).1.length := ⟨_, rfl⟩
      rw [← hp] at hts htt hmk
      rw [hmk] at e1 e2 e3
      simp only [marks_len] at e1 e2 e3
      have HP := Lib.hid (And.intro e3 hts)
      have hpl : p ≤ 4294967296 := by omega
      have hmp : m + (p + 1) ≤ 4294967296 := by omega
      have hsum : k + (m : Int) + (p : Int) + 1 = k + ((m + (p + 1) : Nat) : Int) := by omega
      have HSM := Lib.hid hsum
      have hnn : ((k + (m : Int) + (p : Int)) != (k + (m : Int) + (p : Int))) = false := by simp
      clear hc hc' e3 hts htt hmk hp hjl hsum
      go_wp2_with fail
      refine (heldIntS_any (k + (m : Int)) HP.out.1 (by omega) (by omega) (by omega)).mono ?_
      rintro e w1 ⟨rfl, rfl⟩
      go_wp2_with fail
      go_round
      case rel => exact ⟨j + 1, m + (p + 1), by omega, by go_num, by rw [← HSM.out], hmp, HP.out.2.symm⟩
      case measure => simp [intOf]; omega
    · go_wp2
      go_ret
      obtain rfl : j = n := by omega
      exact ⟨retI (by rw [← HT.out, HR.out]), Below.refl _ _⟩
end Go.Proofs.Ytfanohebejemmaa
