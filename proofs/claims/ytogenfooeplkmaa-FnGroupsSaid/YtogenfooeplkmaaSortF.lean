/-
  slices.SortFunc of an owned row of rows with slices.Compare.
-/
import Derived.Test.YtogenfooeplkmaaMem2
import Derived.Test.YtogenfooeplkmaaOrd
import Derived.Test.YtogenfooeplkmaaGenFn
import Derived.Test.YtogenfooeplkmaaShelf
namespace Go.Proofs.Ytogenfooeplkmaa
open Go.RowKit Go.Deep Go.Sort Go.Lib

theorem heap_sorted {α : Type} [Inhabited α] (enc : α → Value) {w : World} {g n : Nat} {os : Array Obj} {cur : Array Value} {e : TypeId} {fr : Nat × Nat} (d : Array α) (hb : w.heap[g]? = some (.cells cur e fr)) :
    (sortWorld enc w g 0 n d os).heap[g]? = some (.cells (putCells enc 0 d cur) e fr) := by
  have hg : g < w.heap.size := (Array.getElem?_eq_some_iff.1 hb).1
  unfold sortWorld
  rw [heap_grow_old _ _ (by simpa using hg)]
  simp [putRow, mapBlock, Sort.ahead, Array.getElem?_modify, hb, onCells]
theorem grownBy_sorted {α : Type} [Inhabited α] (enc : α → Value) {w : World} {g n : Nat} {os : Array Obj} (d : Array α) : w.grownBy (sortWorld enc w g 0 n d os) (some g) := by
  unfold sortWorld
  refine ⟨rfl, rfl, rfl, by simp, fun k hk hne => ?_⟩
  rw [heap_grow_old _ _ (by simpa using hk)]
  have : g ≠ k := fun e => hne (by rw [e])
  simp [putRow, mapBlock, Sort.ahead, Array.getElem?_modify, this]
theorem take_putCells {α : Type} [Inhabited α] (enc : α → Value) (cur : Array Value) (ts : List α) (h : ts.length ≤ cur.size) : (putCells enc 0 ts.toArray cur).toList.take ts.length = ts.map enc := by
  apply List.ext_getElem?
  intro j
  by_cases hj : j < ts.length
  · rw [List.getElem?_take_of_lt hj, Array.getElem?_toList]
    simp [putCells, hj, show j < cur.size by omega]
  · rw [List.getElem?_take_eq_none (by omega), List.getElem?_eq_none (by simp; omega)]
theorem holds_of_block {α : Type} [Inhabited α] (enc : α → Value) {w : World} {g : Nat} {cur : Array Value} {e : TypeId} {ss : List α} (hb : w.heap[g]? = some (.cells cur e (0, 0))) (ht : cur.toList.take ss.length = ss.map enc) : Holds enc w g 0 ss.toArray := by
  intro j hj
  have hj' : j < ss.length := by simpa using hj
  refine ⟨?_, by simp [World.frozen?, hb]⟩
  have h1 : (cur.toList.take ss.length)[j]? = (ss.map enc)[j]? := by rw [ht]
  rw [List.getElem?_take_of_lt hj'] at h1
  simp only [World.cell?, hb, Nat.zero_add]
  simp only [Option.isSome_none, Bool.false_eq_true, if_false]
  rw [← Array.getElem?_toList, h1]
  simp [hj']

/-- Rows by number. -/
def rowOf {α : Type} (xs : List α) (d : α) (n i : Nat) : α := xs.getD (i % n) d
theorem rowOf_lt {α : Type} {xs : List α} {d : α} {n i : Nat} (h : i < n) : rowOf xs d n i = xs.getD i d := by unfold rowOf; rw [Nat.mod_eq_of_lt h]
theorem map_rowOf {α : Type} {xs : List α} {d : α} {n : Nat} (h : xs.length = n) : (List.range n).map (rowOf xs d n) = xs := by
  apply List.ext_getElem
  · simp [h]
  · intro i h1 h2
    have hi : i < n := by omega
    simp only [List.getElem_map, List.getElem_range]
    rw [rowOf_lt hi]; simp [h2]
theorem swo_rows (xss : List (List Int)) (n : Nat) : SWO (ltOf fun i j => cmpL (rowOf xss [] n i) (rowOf xss [] n j)) where
  irrefl x := by
    unfold ltOf
    exact decide_eq_false (show ¬ cmpL (rowOf xss [] n x) (rowOf xss [] n x) < 0 by rw [cmpL_self]; omega)
  trans x y z h1 h2 := by
    unfold ltOf at *
    exact decide_eq_true (cmpL_trans (of_decide_eq_true h1) (of_decide_eq_true h2))
  ntrans x y z h1 h2 := by
    unfold ltOf at *
    have h1' : ¬ cmpL (rowOf xss [] n x) (rowOf xss [] n y) < 0 := of_decide_eq_false h1
    have h2' : ¬ cmpL (rowOf xss [] n y) (rowOf xss [] n z) < 0 := of_decide_eq_false h2
    refine decide_eq_false ?_
    show ¬ cmpL (rowOf xss [] n x) (rowOf xss [] n z) < 0
    have a := cmpL_swap (rowOf xss [] n x) (rowOf xss [] n y)
    have b := cmpL_swap (rowOf xss [] n y) (rowOf xss [] n z)
    have c := cmpL_swap (rowOf xss [] n x) (rowOf xss [] n z)
    have := leL_trans (rowOf xss [] n z) (rowOf xss [] n y) (rowOf xss [] n x) (leL_iff.2 (by omega)) (leL_iff.2 (by omega))
    rw [leL_iff] at this
    omega

set_option maxHeartbeats 800000 in
theorem sortRows_any {w : World} {lo hi g n c : Nat} {xss : List (List Int)} (h : OIIh w lo hi (.slice (some ⟨g, 0, none⟩) n c) xss) (hn : xss.length = n) (h0 : 0 < n) (hsz : xss.length ≤ 1099511627776) :
    Calls Try.prog 70 #[.slice (some ⟨g, 0, none⟩) n c, .func (.func 71) #[] #[]] w fun e w' => e = .returned (.tuple #[]) ∧ OIIh w' lo hi (.slice (some ⟨g, 0, none⟩) n c) (sortL xss) ∧ w.grownBy w' (some g) := by
  subst hn
  obtain ⟨vs, h1, h2, h3, h4⟩ := h
  have hlt := h1.lt g rfl
  rcases h1.2 with ⟨hv, _⟩ | ⟨g', cap, cur, hv, hg, hh, hnc, hm, hcs, ht⟩
  · cases hv
  cases hv
  rw [Nat.mul_one] at ht hcs
  obtain ⟨n, hn⟩ : ∃ n, n = xss.length := ⟨_, rfl⟩
  rw [← hn] at h1 h2 h3 h4 h0 hsz hnc ht ⊢
  have hvs : (List.range n).map (rowOf vs undef n) = vs := map_rowOf h2
  have hxs : (List.range n).map (rowOf xss [] n) = xss := map_rowOf hn.symm
  have hrow : ∀ i, OI w lo (rowOf vs undef n i) (rowOf xss [] n i) := fun i => (h3 (i % n) (Nat.mod_lt _ h0)).1
  have eg : ∀ args w, (callFunc 71 args).run Try.prog w = .ok (.enter 71 args) w := Go.Proofs.enters_of Try.func71 (by kernel_rfl) rfl
  have stay : ∀ (m : Nat) (os : Array Obj) (dk : Array Nat) {lo2 : Nat} {x : Value} {zs : List Int}, OI w lo2 x zs → OI (sortWorld (rowOf vs undef n) w g 0 m dk os) lo2 x zs := fun m os dk {lo2 x zs} hx =>
    own_reblock hx fun g1 hgx => (grownBy_sorted (rowOf vs undef n) dk).block g1 (hx.lt g1 hgx).2 fun e => own_ne h1 hx (by decide) (g := g) rfl (by rw [hgx, e])
  have hcmp : CmpLays1 Try.prog 71 #[] (rowOf vs undef n) (fun i j => cmpL (rowOf xss [] n i) (rowOf xss [] n j)) g 0 (List.range n).toArray.size w := by
    refine CmpReads.lays fun m os dk _ x y => ?_
    refine (slicesCompare_any (stay m os dk (hrow x)).reads (stay m os dk (hrow y)).reads).mono ?_
    rintro e w' ⟨rfl, rfl⟩
    exact ⟨rfl, 0, rfl⟩
  have hone : OneCell (rowOf vs undef n) := fun i => by
    rcases (hrow i).2 with ⟨hv, _⟩ | ⟨_, _, _, hv, _⟩ <;> rw [hv] <;> rfl
  have hs := Sh.slices_SortFunc (rowOf vs undef n) hone (fun i j => cmpL (rowOf xss [] n i) (rowOf xss [] n j)) (swo_rows xss n) 71 #[] g 0 c (List.range n).toArray w eg hcmp
    (holds_of_block (rowOf vs undef n) hh (by rw [List.length_range, hvs]; exact ht)) hlt.2 (by simp; omega)
  rw [List.size_toArray, List.length_range] at hs
  refine hs.mono ?_
  rintro e w' ⟨rfl, d', m, os, hp, hS, rfl⟩
  refine ⟨rfl, ?_, grownBy_sorted _ _⟩
  obtain ⟨p0, -, p3⟩ := hp
  have p1 : d'.size = n := by rw [p0]; simp
  have hts : d'.toList.Perm (List.range n) := by
    have e1 : d'.extract 0 n = d' := by rw [← p1]; simp
    have e2 : ((List.range n).toArray.extract 0 n).toList = List.range n := by simp
    rw [e1, e2] at p3
    exact p3
  obtain ⟨ts, rfl⟩ : ∃ ts : List Nat, d' = ts.toArray := ⟨d'.toList, by simp⟩
  simp only [List.size_toArray] at p1
  simp only at hts
  have hmem : ∀ x ∈ ts, x < n := fun x hx => List.mem_range.1 (hts.mem_iff.1 hx)
  have hnd : ts.Nodup := hts.nodup_iff.2 List.nodup_range
  have hsort : sortL xss = ts.map (rowOf xss [] n) := by
    refine (sortL_unique ?_ ?_).symm
    · rw [List.pairwise_map, List.pairwise_iff_getElem]
      intro i j hi hj hij
      have := hS i j (Nat.zero_le _) hij (by omega)
      unfold ltOf at this
      have h5 := of_decide_eq_false this
      rw [getElem!_pos _ _ (by simpa using hj), getElem!_pos _ _ (by simpa using hi)] at h5
      rw [leL_iff]
      have h6 := cmpL_swap (rowOf xss [] n ts[i]) (rowOf xss [] n ts[j])
      simp only [List.getElem_toArray] at h5
      omega
    · have := hts.map (rowOf xss [] n)
      rwa [hxs] at this
  have hlen : (sortL xss).length = n := by rw [sortL_len, hn]
  have hget : ∀ k, k < n → (ts.map (rowOf vs undef n)).getD k undef = rowOf vs undef n (ts.getD k 0) ∧ (sortL xss).getD k [] = rowOf xss [] n (ts.getD k 0) := fun k hk => by
    have : k < ts.length := by omega
    rw [hsort]; simp [this]
  refine ⟨ts.map (rowOf vs undef n), ?_, by rw [hlen, List.length_map, p1], fun k hk => ?_, fun i j hij hj gg => ?_⟩
  · rw [hlen]
    refine ⟨by rw [List.length_map, p1, Nat.mul_one], .inr ⟨g, c, _, rfl, hg, heap_sorted _ _ hh, hnc, hm, by simp [putCells, hcs], ?_⟩⟩
    rw [Nat.mul_one, ← p1]
    exact take_putCells _ cur ts (by omega)
  · rw [hlen] at hk
    obtain ⟨a1, a2⟩ := hget k hk
    rw [a1, a2]
    have hr := h3 (ts.getD k 0 % n) (Nat.mod_lt _ h0)
    exact ⟨stay m os ts.toArray hr.1, hr.2⟩
  · rw [hlen] at hj
    rw [(hget i (by omega)).1, (hget j hj).1]
    have hij' : ts.getD i 0 ≠ ts.getD j 0 := by
      have hi2 : i < ts.length := by omega
      have hj2 : j < ts.length := by omega
      simp only [List.getD, List.getElem?_eq_getElem hi2, List.getElem?_eq_getElem hj2, Option.getD_some]
      rw [List.nodup_iff_pairwise_ne, List.pairwise_iff_getElem] at hnd
      exact hnd i j hi2 hj2 hij
    have mi : ts.getD i 0 < n := hmem _ (by have hi2 : i < ts.length := by omega
                                            simp [hi2])
    have mj : ts.getD j 0 < n := hmem _ (by have hj2 : j < ts.length := by omega
                                            simp [hj2])
    rw [rowOf_lt mi, rowOf_lt mj]
    intro hgi hgj
    rcases Nat.lt_or_gt_of_ne hij' with hlt' | hlt'
    · exact h4 _ _ hlt' mj gg hgi hgj
    · exact h4 _ _ hlt' mi gg hgj hgi
end Go.Proofs.Ytogenfooeplkmaa
