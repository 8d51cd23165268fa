/-
  Plain Lean: what permutations generate is a group, and a part of each group that holds them; one permutation of few points generates few.
-/
import Derived.Test.YtfanohebejemmaaTurnFn
import Derived.Test.YtfanohebejemmaaOrderFn
namespace Go.Proofs.Ytfanohebejemmaa

/-- What the generators make, told by what each rule with these two steps keeps. -/
def Word (n : Nat) (gens : List (List Int)) (w : List Int) : Prop := ∀ P : List Int → Prop, P (identity n) → (∀ u s, P u → s ∈ gens → P (compose u s)) → P w
theorem Word.one (n : Nat) (gens : List (List Int)) : Word n gens (identity n) := fun _ h _ => h
theorem Word.step {n : Nat} {gens : List (List Int)} {u s : List Int} (h : Word n gens u) (hs : s ∈ gens) : Word n gens (compose u s) := fun P h0 h1 => h1 u s (h P h0 h1) hs
/-- Rows of permutations of one degree. -/
def Gens (n : Nat) (gens : List (List Int)) : Prop := ∀ s ∈ gens, permOk s = true ∧ s.length = n
theorem Word.ok {n : Nat} {gens : List (List Int)} {u : List Int} (h1 : 1 ≤ n) (h2 : n ≤ 10) (hg : Gens n gens) (h : Word n gens u) : permOk u = true ∧ u.length = n :=
  h (fun u => permOk u = true ∧ u.length = n) ⟨identity_ok h1 h2, identity_len n⟩ fun u s hu hs => ⟨compose_ok hu.1 (hg s hs).1 (by rw [hu.2, (hg s hs).2]), by rw [compose_len]; exact hu.2⟩
theorem Word.into {n : Nat} {gens q : List (List Int)} {u : List Int} (h1 : 1 ≤ n) (h2 : n ≤ 10) (hg : Gens n gens) (hq : Gens n q) (hs : ∀ p ∈ q, ∀ s ∈ gens, compose p s ∈ q) (h : Word n gens u) : ∀ p ∈ q, compose p u ∈ q := by
  refine (h (fun u => (permOk u = true ∧ u.length = n) ∧ ∀ p ∈ q, compose p u ∈ q) ⟨⟨identity_ok h1 h2, identity_len n⟩, fun p hp => ?_⟩ fun u s hu hsg => ⟨⟨compose_ok hu.1.1 (hg s hsg).1 (by rw [hu.1.2, (hg s hsg).2]), by rw [compose_len]; exact hu.1.2⟩, fun p hp => ?_⟩).2
  · have := comp_id (hq p hp).1
    rw [(hq p hp).2] at this
    rw [this]; exact hp
  · rw [← comp_assoc fun x hx => ?_]
    · exact hs _ (hu.2 p hp) s hsg
    · have := permOk_mem (hq p hp).1 x hx
      rw [(hq p hp).2] at this
      rw [hu.1.2]; exact this
theorem getD_appS {q e : List (List Int)} {a : Nat} (ha : a < q.length) : (q ++ e).getD a [] = q.getD a [] := by simp [List.getElem?_append_left ha]
theorem genRow_word {n a : Nat} {all : List (List Int)} (ha : Gens n all) : ∀ (gens : List (List Int)) (_ : ∀ s ∈ gens, s ∈ all) (q : List (List Int)) {q' : List (List Int)}, Gen n q → a < q.length → (∀ x ∈ q, Word n all x) → gens.foldl (genStep a) (some q) = some q' →
    Gen n q' ∧ (∃ e, q' = q ++ e) ∧ (∀ x ∈ q', Word n all x) ∧ ∀ s ∈ gens, compose (q.getD a []) s ∈ q' := by
  intro gens
  induction gens with
  | nil => intro _ q q' h _ hw he; simp at he; rw [← he]; exact ⟨h, ⟨[], by simp⟩, hw, by simp⟩
  | cons s gens ih =>
    intro hsub q q' h hlt hw he
    rw [List.foldl_cons] at he
    have hsub' : ∀ s ∈ gens, s ∈ all := fun x hx => hsub x (by simp [hx])
    have hs : s ∈ all := hsub s (by simp)
    by_cases hm : compose (q.getD a []) s ∈ q
    · have e1 : genStep a (some q) s = some q := by unfold genStep; simp only [if_pos hm]
      rw [e1] at he
      obtain ⟨r0, ⟨e, rfl⟩, r2, r3⟩ := ih hsub' q h hlt hw he
      refine ⟨r0, ⟨e, rfl⟩, r2, fun t ht => ?_⟩
      rcases List.mem_cons.1 ht with rfl | ht
      · exact List.mem_append.2 (.inl hm)
      · exact r3 t ht
    · by_cases h120 : q.length = 120
      · have e1 : genStep a (some q) s = none := by unfold genStep; simp only [if_neg hm, if_pos h120]
        rw [e1, foldl_none] at he
        cases he
      · have e1 : genStep a (some q) s = some (q ++ [compose (q.getD a []) s]) := by unfold genStep; simp only [if_neg hm, if_neg h120]
        rw [e1] at he
        have hw2 : ∀ x ∈ q ++ [compose (q.getD a []) s], Word n all x := fun x hx => by
          rcases List.mem_append.1 hx with hx | hx
          · exact hw x hx
          · rw [List.mem_singleton.1 hx]; exact (hw _ (getD_memS hlt)).step hs
        obtain ⟨r0, ⟨e, rfl⟩, r2, r3⟩ := ih hsub' _ (h.new hlt (ha s hs) hm h120) (by rw [List.length_append]; omega) hw2 he
        refine ⟨r0, ⟨[compose (q.getD a []) s] ++ e, by simp⟩, r2, fun t ht => ?_⟩
        rcases List.mem_cons.1 ht with rfl | ht
        · simp
        · have := r3 t ht
          rw [getD_appS hlt] at this
          exact this
theorem genGo_word {n : Nat} {gens : List (List Int)} (hg : Gens n gens) : ∀ (f a : Nat) (q : List (List Int)) {q' : List (List Int)}, Gen n q → (∀ x ∈ q, Word n gens x) → (∀ i, i < a → i < q.length → ∀ s ∈ gens, compose (q.getD i []) s ∈ q) → a ≤ q.length → 121 ≤ f + a → genGo gens f a q = some q' →
    Gen n q' ∧ (∀ x ∈ q', Word n gens x) ∧ (∃ e, q' = q ++ e) ∧ ∀ p ∈ q', ∀ s ∈ gens, compose p s ∈ q' := by
  intro f
  induction f with
  | zero => intro a q q' h _ _ h1 h2 _; have := h.le; omega
  | succ f ih =>
    intro a q q' h hw hd h1 h2 he
    unfold genGo at he
    by_cases ha : a < q.length
    · rw [if_pos ha] at he
      cases hr : genRow gens a q with
      | none => rw [hr] at he; cases he
      | some q2 =>
        rw [hr] at he
        obtain ⟨r0, ⟨e, rfl⟩, r2, r3⟩ := genRow_word hg gens (fun s hs => hs) q h ha hw hr
        obtain ⟨s0, s1, ⟨e2, rfl⟩, s2⟩ := ih (a + 1) _ r0 r2 (fun i hi hil s hs => by
          by_cases hia : i = a
          · subst hia; rw [getD_appS ha]; exact r3 s hs
          · rw [getD_appS (by omega)]; exact List.mem_append.2 (.inl (hd i (by omega) (by omega) s hs))) (by rw [List.length_append]; omega) (by omega) he
        exact ⟨s0, s1, ⟨e ++ e2, by simp⟩, s2⟩
    · rw [if_neg ha] at he
      cases he
      refine ⟨h, hw, ⟨[], by simp⟩, fun p hp s hs => ?_⟩
      obtain ⟨j, hj, rfl⟩ := mem_getD hp
      exact hd j (by omega) hj s hs
theorem genAll_word {n : Nat} {gens q : List (List Int)} (h1 : 1 ≤ n) (h2 : n ≤ 10) (hg : Gens n gens) (he : genAll n gens = some q) :
    Gen n q ∧ (∀ x ∈ q, Word n gens x) ∧ identity n ∈ q ∧ ∀ p ∈ q, ∀ s ∈ gens, compose p s ∈ q := by
  obtain ⟨r0, r1, ⟨e, rfl⟩, r3⟩ := genGo_word hg 121 0 [identity n] (Gen.start h1 h2) (fun x hx => by rw [List.mem_singleton.1 hx]; exact Word.one n gens) (fun i hi => by omega) (by simp) (by omega) he
  exact ⟨r0, r1, by simp, r3⟩
theorem groupOk_intro {n : Nat} {g : List (List Int)} (h1 : 1 ≤ g.length) (h2 : g.length ≤ 120) (hp : Gens n g) (ha : Asc g) (hc : ∀ p ∈ g, ∀ q ∈ g, compose p q ∈ g) : groupOk g = true :=
  groupOk_iff.2 ⟨⟨h1, h2⟩, fun i hi => ⟨(hp _ (getD_memS hi)).1, by rw [(hp _ (getD_memS hi)).2, (hp _ (getD_memS (by omega : 0 < g.length))).2], fun h0 => ha _ _ (by omega) hi⟩, hc⟩
/-- What is generated is a group of this degree; it holds the generators, and all of it are words. -/
theorem genAll_grp {n : Nat} {gens q : List (List Int)} (h1 : 1 ≤ n) (h2 : n ≤ 10) (hg : Gens n gens) (he : genAll n gens = some q) :
    groupOk (sortL q) = true ∧ deg (sortL q) = n ∧ (∀ x ∈ sortL q, Word n gens x) ∧ (∀ s ∈ gens, s ∈ sortL q) ∧ identity n ∈ sortL q := by
  obtain ⟨hG, hw, hi, hc⟩ := genAll_word h1 h2 hg he
  have hP : Gens n (sortL q) := fun p hp => hG.perm p (mem_sortL.1 hp)
  have hl : 1 ≤ (sortL q).length := by rw [sortL_len]; exact hG.one
  refine ⟨groupOk_intro hl (by rw [sortL_len]; exact hG.le) hP (sortL_asc hG.nodup) fun p hp r hr => ?_, (hP _ (getD_memS (k := 0) (by omega))).2, fun x hx => hw x (mem_sortL.1 hx), fun s hs => mem_sortL.2 ?_, mem_sortL.2 hi⟩
  · exact mem_sortL.2 ((hw r (mem_sortL.1 hr)).into h1 h2 hg hG.perm hc p (mem_sortL.1 hp))
  · have := hc _ hi s hs
    have e := id_comp s
    rw [(hg s hs).2] at e
    rw [e] at this
    exact this
/-- Members of a group generate no more than the group holds. -/
theorem genRow_in {g : List (List Int)} (hg : Grp g) {n a : Nat} (hn : deg g = n) : ∀ (gens : List (List Int)) (_ : ∀ s ∈ gens, s ∈ g) (q : List (List Int)), Gen n q → a < q.length → (∀ x ∈ q, x ∈ g) → ∃ q', gens.foldl (genStep a) (some q) = some q' ∧ Gen n q' ∧ q.length ≤ q'.length ∧ ∀ x ∈ q', x ∈ g := by
  intro gens
  induction gens with
  | nil => intro _ q h _ hq; exact ⟨q, rfl, h, Nat.le_refl _, hq⟩
  | cons s gens ih =>
    intro hs q h hlt hq
    have hs' : ∀ s ∈ gens, s ∈ g := fun x hx => hs x (by simp [hx])
    have hsg : s ∈ g := hs s (by simp)
    by_cases hm : compose (q.getD a []) s ∈ q
    · have e1 : genStep a (some q) s = some q := by unfold genStep; simp only [if_pos hm]
      rw [List.foldl_cons, e1]
      exact ih hs' q h hlt hq
    · have hin := hg.closed _ (hq _ (getD_memS hlt)) s hsg
      have hnd : (compose (q.getD a []) s :: q).Nodup := List.nodup_cons.2 ⟨hm, h.nodup⟩
      have hle : (compose (q.getD a []) s :: q).length ≤ g.length := List.Nodup.length_le_of_subset hnd fun x hx => by
        rcases List.mem_cons.1 hx with rfl | hx
        · exact hin
        · exact hq x hx
      rw [List.length_cons] at hle
      have h120 : q.length ≠ 120 := by have := hg.le; omega
      have e1 : genStep a (some q) s = some (q ++ [compose (q.getD a []) s]) := by unfold genStep; simp only [if_neg hm, if_neg h120]
      rw [List.foldl_cons, e1]
      obtain ⟨q', k1, k2, k3, k4⟩ := ih hs' _ (h.new hlt ⟨hg.perm s hsg, by rw [hg.len s hsg, hn]⟩ hm h120) (by rw [List.length_append]; omega) (fun x hx => by
        rcases List.mem_append.1 hx with hx | hx
        · exact hq x hx
        · rw [List.mem_singleton.1 hx]; exact hin)
      rw [List.length_append] at k3
      exact ⟨q', k1, k2, by omega, k4⟩
theorem genGo_in {g : List (List Int)} (hg : Grp g) {n : Nat} (hn : deg g = n) {gens : List (List Int)} (hs : ∀ s ∈ gens, s ∈ g) : ∀ (f a : Nat) (q : List (List Int)), Gen n q → (∀ x ∈ q, x ∈ g) → ∃ q', genGo gens f a q = some q' ∧ ∀ x ∈ q', x ∈ g := by
  intro f
  induction f with
  | zero => intro a q _ hq; exact ⟨q, rfl, hq⟩
  | succ f ih =>
    intro a q h hq
    unfold genGo
    by_cases ha : a < q.length
    · rw [if_pos ha]
      obtain ⟨q2, r1, r2, _, r4⟩ := genRow_in hg hn gens hs q h ha hq
      have r1' : genRow gens a q = some q2 := r1
      rw [r1']
      exact ih (a + 1) q2 r2 r4
    · rw [if_neg ha]; exact ⟨q, rfl, hq⟩
theorem Grp.gens {g : List (List Int)} (hg : Grp g) : Gens (deg g) g := fun s hs => ⟨hg.perm s hs, hg.len s hs⟩
theorem genAll_in {g : List (List Int)} (hg : Grp g) {gens : List (List Int)} (hs : ∀ s ∈ gens, s ∈ g) : ∃ q, genAll (deg g) gens = some q ∧ ∀ x ∈ q, x ∈ g :=
  genGo_in hg rfl hs 121 0 [identity (deg g)] (Gen.start hg.deg_le.1 hg.deg_le.2) fun x hx => by rw [List.mem_singleton.1 hx]; exact hg.id_mem
/-- The first powers. -/
def powsTo (s : List Int) (k : Nat) : List (List Int) := (List.range k).map (powTo s)
theorem powsTo_succ (s : List Int) (k : Nat) : powsTo s (k + 1) = powsTo s k ++ [powTo s k] := by simp [powsTo, List.range_succ]
theorem powsTo_len (s : List Int) (k : Nat) : (powsTo s k).length = k := by simp [powsTo]
theorem pow120 {s : List Int} (hs : permOk s = true) (h6 : s.length ≤ 6) : powTo s 120 = identity s.length := by
  refine (pow_id_iff hs 120).2 fun c hc => ?_
  have h1 := cyclesOf_ne hs c hc
  have h2 : c.length = 1 ∨ c.length = 2 ∨ c.length = 3 ∨ c.length = 4 ∨ c.length = 5 ∨ c.length = 6 := by omega
  rcases h2 with h | h | h | h | h | h <;> rw [h] <;> decide
theorem genGo_one {s : List Int} (hs : permOk s = true) (h6 : s.length ≤ 6) : ∀ (f a : Nat), a < 120 → ∃ q', genGo [s] f a (powsTo s (a + 1)) = some q' := by
  intro f
  induction f with
  | zero => intro a _; exact ⟨_, rfl⟩
  | succ f ih =>
    intro a ha
    have hg : (powsTo s (a + 1)).getD a [] = powTo s a := by rw [powsTo_succ]; simp [powsTo]
    unfold genGo
    rw [if_pos (by rw [powsTo_len]; omega)]
    have hr : genRow [s] a (powsTo s (a + 1)) = genStep a (some (powsTo s (a + 1))) s := rfl
    rw [hr]
    by_cases hm : compose (powTo s a) s ∈ powsTo s (a + 1)
    · have e1 : genStep a (some (powsTo s (a + 1))) s = some (powsTo s (a + 1)) := by unfold genStep; simp only [hg, if_pos hm]
      rw [e1]
      exact ⟨_, genGo_stop (by rw [powsTo_len]; omega)⟩
    · have hne : a + 1 ≠ 120 := by
        intro e
        refine hm (List.mem_map.2 ⟨0, List.mem_range.2 (by omega), ?_⟩)
        show identity s.length = powTo s (a + 1)
        rw [e, pow120 hs h6]
      have e1 : genStep a (some (powsTo s (a + 1))) s = some (powsTo s (a + 1) ++ [compose (powTo s a) s]) := by unfold genStep; simp only [hg, if_neg hm, powsTo_len, if_neg hne]
      rw [e1]
      have := ih (a + 1) (by omega)
      rw [powsTo_succ] at this
      exact this
theorem genAll_one {s : List Int} (hs : permOk s = true) (h6 : s.length ≤ 6) : ∃ q, genAll s.length [s] = some q := genGo_one hs h6 121 0 (by omega)
/-- What drawing may end in: a group of a degree up to 6. -/
def Drawn (g : List (List Int)) : Prop := groupOk g = true ∧ deg g ≤ 6
theorem drawn_of {n : Nat} {gens : List (List Int)} (h1 : 1 ≤ n) (h2 : n ≤ 6) (hg : Gens n gens) (h : (groupOf (n : Int) gens).2 = true) : Drawn (groupOf (n : Int) gens).1 := by
  have hk := gensOk_iff.2 hg
  cases hq : genAll n gens with
  | none => rw [groupOf_none h1 (by omega) hk hq] at h; cases h
  | some q =>
    rw [groupOf_some h1 (by omega) hk hq]
    obtain ⟨r1, r2, -⟩ := genAll_grp h1 (by omega) hg hq
    exact ⟨r1, by show deg (sortL q) ≤ 6; omega⟩
theorem drawn_one {n : Nat} {s : List Int} (h1 : 1 ≤ n) (h2 : n ≤ 6) (hs : permOk s = true) (hl : s.length = n) : Drawn (groupOf (n : Int) [s]).1 := by
  have hg : Gens n [s] := fun x hx => by rw [List.mem_singleton.1 hx]; exact ⟨hs, hl⟩
  obtain ⟨q, hq⟩ := genAll_one hs (by omega)
  rw [hl] at hq
  refine drawn_of h1 h2 hg ?_
  rw [groupOf_some h1 (by omega) (gensOk_iff.2 hg) hq]
def genLen (n : Nat) (gens : List (List Int)) : Nat := match genAll n gens with | none => 0 | some q => q.length
def cycCheck (n : Nat) : Bool := gensOk n [turnL n] && decide (genLen n [turnL n] = n)
def dihCheck (n : Nat) : Bool := gensOk n [turnL n, mirL n] && decide (genLen n [turnL n, mirL n] = if n < 3 then n else 2 * n)
def symCheckL (n : Nat) : Bool := gensOk n [turnL n, swapL n] && decide (genLen n [turnL n, swapL n] = [1, 1, 2, 6, 24, 120].getD n 0)
set_option maxRecDepth 100000 in
theorem cycCheck_all : ((List.range 10).all fun k => cycCheck (k + 1)) = true := by decide +kernel
set_option maxRecDepth 100000 in
theorem dihCheck_all : ((List.range 10).all fun k => dihCheck (k + 1)) = true := by decide +kernel
set_option maxRecDepth 100000 in
theorem symCheckL_all : ((List.range 5).all fun k => symCheckL (k + 1)) = true := by decide +kernel
/-- What a check of lengths tells. -/
theorem group_len {n m : Nat} {gens : List (List Int)} (h1 : 1 ≤ n) (h2 : n ≤ 10) (hm : 1 ≤ m) (hk : gensOk n gens = true) (h : genLen n gens = m) :
    (groupOf (n : Int) gens).2 = true ∧ (groupOf (n : Int) gens).1.length = m ∧ groupOk (groupOf (n : Int) gens).1 = true ∧ deg (groupOf (n : Int) gens).1 = n ∧ ∀ x ∈ (groupOf (n : Int) gens).1, Word n gens x := by
  unfold genLen at h
  cases hq : genAll n gens with
  | none => rw [hq] at h; simp at h; omega
  | some q =>
    rw [hq] at h
    rw [groupOf_some h1 h2 hk hq]
    obtain ⟨r1, r2, r3, -⟩ := genAll_grp h1 h2 (gensOk_iff.1 hk) hq
    exact ⟨rfl, by show (sortL q).length = m; rw [sortL_len]; exact h, r1, r2, r3⟩
theorem cyc_group {n : Nat} (h1 : 1 ≤ n) (h2 : n ≤ 10) : (cyclicGroup (n : Int)).2 = true ∧ (cyclicGroup (n : Int)).1.length = n ∧ groupOk (cyclicGroup (n : Int)).1 = true ∧ deg (cyclicGroup (n : Int)).1 = n ∧ ∀ x ∈ (cyclicGroup (n : Int)).1, Word n [turnL n] x := by
  have h := List.all_eq_true.1 cycCheck_all (n - 1) (List.mem_range.2 (by omega))
  rw [show n - 1 + 1 = n from by omega] at h
  unfold cycCheck at h
  simp only [Bool.and_eq_true, decide_eq_true_iff] at h
  unfold cyclicGroup
  rw [turnP_yes h1 h2]
  exact group_len h1 h2 h1 h.1 h.2
theorem dih_group {n : Nat} (h1 : 1 ≤ n) (h2 : n ≤ 10) : (dihedralGroup (n : Int)).2 = true ∧ (dihedralGroup (n : Int)).1.length = (if n < 3 then n else 2 * n) ∧ groupOk (dihedralGroup (n : Int)).1 = true ∧ deg (dihedralGroup (n : Int)).1 = n ∧ ∀ x ∈ (dihedralGroup (n : Int)).1, Word n [turnL n, mirL n] x := by
  have h := List.all_eq_true.1 dihCheck_all (n - 1) (List.mem_range.2 (by omega))
  rw [show n - 1 + 1 = n from by omega] at h
  unfold dihCheck at h
  simp only [Bool.and_eq_true, decide_eq_true_iff] at h
  unfold dihedralGroup
  rw [turnP_yes h1 h2, mirP_yes h1 h2]
  exact group_len h1 h2 (by split <;> omega) h.1 h.2
theorem sym_group {n : Nat} (h1 : 1 ≤ n) (h2 : n ≤ 5) : (symmetricGroup (n : Int)).2 = true ∧ (symmetricGroup (n : Int)).1.length = [1, 1, 2, 6, 24, 120].getD n 0 ∧ groupOk (symmetricGroup (n : Int)).1 = true ∧ deg (symmetricGroup (n : Int)).1 = n := by
  have h := List.all_eq_true.1 symCheckL_all (n - 1) (List.mem_range.2 (by omega))
  rw [show n - 1 + 1 = n from by omega] at h
  unfold symCheckL at h
  simp only [Bool.and_eq_true, decide_eq_true_iff] at h
  rw [symmetricGroup_yes h1 h2, turnP_yes h1 (by omega)]
  have hm : 1 ≤ [1, 1, 2, 6, 24, 120].getD n 0 := by
    have hn : n = 1 ∨ n = 2 ∨ n = 3 ∨ n = 4 ∨ n = 5 := by omega
    rcases hn with rfl | rfl | rfl | rfl | rfl <;> decide
  have r := group_len h1 (by omega) hm h.1 h.2
  exact ⟨r.1, r.2.1, r.2.2.1, r.2.2.2.1⟩
end Go.Proofs.Ytfanohebejemmaa
