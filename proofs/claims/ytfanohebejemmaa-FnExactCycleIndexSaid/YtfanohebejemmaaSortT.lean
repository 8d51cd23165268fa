/-
  slices.SortFunc of an owned row of structs by their lists.
-/
import Derived.Test.YtfanohebejemmaaTermO
import Derived.Test.YtfanohebejemmaaCycIdxFn
import Derived.Test.YtfanohebejemmaaOrd
import Derived.Test.YtfanohebejemmaaShelfK
namespace Go.Proofs.Ytfanohebejemmaa
open Go.RowKit Go.Deep Go.Sort Go.Lib

/-- Rows by number. -/
def rowP (l : List (Value × Int)) (n i : Nat) : Value × Int := l.getD (i % n) P0
def rowQ (ts : List (List Int × Int)) (n i : Nat) : List Int × Int := ts.getD (i % n) T0
theorem rowP_lt {l : List (Value × Int)} {n i : Nat} (h : i < n) : rowP l n i = l.getD i P0 := by unfold rowP; rw [Nat.mod_eq_of_lt h]
theorem rowQ_lt {ts : List (List Int × Int)} {n i : Nat} (h : i < n) : rowQ ts n i = ts.getD i T0 := by unfold rowQ; rw [Nat.mod_eq_of_lt h]
theorem map_rowP {l : List (Value × Int)} {n : Nat} (h : l.length = n) : (List.range n).map (rowP l n) = l := by
  apply List.ext_getElem
  · simp [h]
  · intro i h1 h2
    have hi : i < n := by omega
    simp only [List.getElem_map, List.getElem_range]
    rw [rowP_lt hi]; simp [h2]
theorem map_rowQ {l : List (List Int × Int)} {n : Nat} (h : l.length = n) : (List.range n).map (rowQ l n) = l := by
  apply List.ext_getElem
  · simp [h]
  · intro i h1 h2
    have hi : i < n := by omega
    simp only [List.getElem_map, List.getElem_range]
    rw [rowQ_lt hi]; simp [h2]
def encP (l : List (Value × Int)) (n : Nat) (i : Nat) : List Value := [(rowP l n i).1, .int .i64 (rowP l n i).2]
theorem flat_cells (l : List (Value × Int)) (n : Nat) (ts : List Nat) : (flatK (encP l n) 2 ts.toArray).toList = cellsT (ts.map (rowP l n)) := by
  apply List.ext_getElem
  · simp [cellsT_len]
  · intro t h1 h2
    have ht : t < ts.length * 2 := by simpa using h1
    have hd : t / 2 < ts.length := by omega
    have e1 : (flatK (encP l n) 2 ts.toArray).toList[t] = (encP l n ts.toArray[t / 2]!)[t % 2]! := by
      simp [flatK]
    have hl : t / 2 < (ts.map (rowP l n)).length := by simpa using hd
    have e2 : ts.toArray[t / 2]! = ts[t / 2] := by simp [hd]
    have e3 : (ts.map (rowP l n)).getD (t / 2) P0 = rowP l n ts[t / 2] := by simp [hd]
    rw [e1, e2]
    rcases Nat.mod_two_eq_zero_or_one t with h | h
    · have e4 := cellsT_zero hl
      rw [show t / 2 * 2 = t from by omega, List.getElem?_eq_getElem h2, e3] at e4
      rw [h, Option.some.inj e4]; rfl
    · have e4 := cellsT_one hl
      rw [show t / 2 * 2 + 1 = t from by omega, List.getElem?_eq_getElem h2, e3] at e4
      rw [h, Option.some.inj e4]; rfl
theorem swo_keys (ts : List (List Int × Int)) (n : Nat) : SWO (ltOf fun i j => cmpL (rowQ ts n i).1 (rowQ ts n j).1) where
  irrefl x := by
    unfold ltOf
    exact decide_eq_false (show ¬ cmpL (rowQ ts n x).1 (rowQ ts n x).1 < 0 by rw [cmpL_self]; omega)
  trans x y z h1 h2 := by
    unfold ltOf at *
    exact decide_eq_true (cmpL_trans (of_decide_eq_true h1) (of_decide_eq_true h2))
  ntrans x y z h1 h2 := by
    unfold ltOf at *
    have h1' : ¬ cmpL (rowQ ts n x).1 (rowQ ts n y).1 < 0 := of_decide_eq_false h1
    have h2' : ¬ cmpL (rowQ ts n y).1 (rowQ ts n z).1 < 0 := of_decide_eq_false h2
    refine decide_eq_false ?_
    show ¬ cmpL (rowQ ts n x).1 (rowQ ts n z).1 < 0
    have a := cmpL_swap (rowQ ts n x).1 (rowQ ts n y).1
    have b := cmpL_swap (rowQ ts n y).1 (rowQ ts n z).1
    have c := cmpL_swap (rowQ ts n x).1 (rowQ ts n z).1
    have := leL_trans (rowQ ts n z).1 (rowQ ts n y).1 (rowQ ts n x).1 (leL_iff.2 (by omega)) (leL_iff.2 (by omega))
    rw [leL_iff] at this
    omega
theorem heap_sortedK {α : Type} [Inhabited α] (enc : α → List Value) (k : Nat) {w : World} {g n : Nat} {os : Array Obj} {cur : Array Value} {e : TypeId} {fr : Nat × Nat} (d : Array α) (hb : w.heap[g]? = some (.cells cur e fr)) :
    (sortWorldK enc k w g 0 n d os).heap[g]? = some (.cells (putCells id 0 (flatK enc k d) cur) e fr) := by
  have hg : g < w.heap.size := (Array.getElem?_eq_some_iff.1 hb).1
  unfold sortWorldK
  rw [heap_grow_old _ _ (by simpa [putRowK] using hg)]
  simp [putRowK, putRow, mapBlock, Sort.ahead, Array.getElem?_modify, hb, onCells]
theorem grownBy_sortedK {α : Type} [Inhabited α] (enc : α → List Value) (k : Nat) {w : World} {g n : Nat} {os : Array Obj} (d : Array α) : w.grownBy (sortWorldK enc k w g 0 n d os) (some g) := by
  unfold sortWorldK
  refine ⟨rfl, rfl, rfl, by simp [putRowK], fun k hk hne => ?_⟩
  rw [heap_grow_old _ _ (by simpa [putRowK] using hk)]
  have : g ≠ k := fun e => hne (by rw [e])
  simp [putRowK, putRow, mapBlock, Sort.ahead, Array.getElem?_modify, this]
theorem take_putIds (cur : Array Value) (F : Array Value) (h : F.size ≤ cur.size) : (putCells id 0 F cur).toList.take F.size = F.toList := by
  apply List.ext_getElem?
  intro j
  by_cases hj : j < F.size
  · rw [List.getElem?_take_of_lt hj, Array.getElem?_toList]
    simp [putCells, hj, show j < cur.size by omega]
  · rw [List.getElem?_take_eq_none (by omega), List.getElem?_eq_none (by simp; omega)]
theorem holds_ids {w : World} {g : Nat} {cur : Array Value} {e : TypeId} {F : Array Value} (hb : w.heap[g]? = some (.cells cur e (0, 0))) (ht : cur.toList.take F.size = F.toList) : Holds id w g 0 F := by
  intro j hj
  refine ⟨?_, by simp [World.frozen?, hb]⟩
  have h1 : (cur.toList.take F.size)[j]? = F.toList[j]? := by rw [ht]
  rw [List.getElem?_take_of_lt hj] at h1
  simp only [World.cell?, hb, Nat.zero_add]
  simp only [Option.isSome_none, Bool.false_eq_true, if_false]
  rw [← Array.getElem?_toList, h1]
  simp [hj]

set_option maxHeartbeats 800000 in
/-- The program's comparison of two structs. -/
theorem cmpTerm_any {w : World} {a b : Value} {s t : List Int × Int} (ha : RT w a s) (hb : RT w b t) :
    Calls Try.prog 79 #[a, b] w fun e w' => e = .returned (.int .i64 (cmpL s.1 t.1)) ∧ ∃ q os', w' = grow (w.drewN q) os' := by
  obtain ⟨u, rfl, hu⟩ := ha
  obtain ⟨v, rfl, hv⟩ := hb
  have HU := Lib.hid (And.intro hu hv)
  obtain ⟨A, c, rfl⟩ := hu.shape
  obtain ⟨A2, c2, rfl⟩ := hv.shape
  obtain ⟨xs, x⟩ := s
  obtain ⟨ys, y⟩ := t
  simp only at HU ⊢
  clear hu hv
  go_enter Try.func79, Try.ntmps79
  go_wp2_with fail
  refine (slicesCompare_any ((HU.out.1.alloc _).alloc _) ((HU.out.2.alloc _).alloc _)).mono ?_
  rintro e w1 ⟨rfl, rfl⟩
  go_wp2
  go_ret
  exact ⟨rfl, 0, _, by rw [alloc_eq_grow, alloc_eq_grow, grow_grow]; rfl⟩

theorem isAgg_term (w : World) : (isAgg 56).run Try.prog w = .ok true w := by
  simp [isAgg, go_sem]
theorem sizeOf_term (w : World) : (Go.sizeOf 56).run Try.prog w = .ok 2 w := by
  obtain ⟨i, hi, hzz⟩ := Option.map_eq_some_iff.1 term_info
  simp only [Prod.mk.injEq] at hzz
  simp [Go.sizeOf, typeInfo, hi, hzz.2.1, go_sem]

set_option maxHeartbeats 1600000 in
theorem sortTerms_any {w : World} {lo hi g n c : Nat} {ts : List (List Int × Int)} (h : OTTh w lo hi (.slice (some ⟨g, 0, none⟩) n c) ts) (hn : ts.length = n) (h0 : 0 < n) (hsz : n ≤ 1048576) :
    Calls Try.prog 78 #[.slice (some ⟨g, 0, none⟩) n c, .func (.func 79) #[] #[]] w fun e w' => e = .returned (.tuple #[]) ∧ (∃ rs, OTTh w' lo hi (.slice (some ⟨g, 0, none⟩) n c) rs ∧ rs.Perm ts ∧ rs.Pairwise fun a b => leL a.1 b.1 = true) ∧ w.grownBy w' (some g) := by
  subst hn
  obtain ⟨l, h1, h2, h3, h4⟩ := h
  have hlt := h1.lt g rfl
  rcases h1.2 with ⟨hv, _⟩ | ⟨g', cap, cur, hv, hg, hh, hnc, hm, hcs, ht⟩
  · cases hv
  cases hv
  obtain ⟨n, hn⟩ : ∃ n, n = ts.length := ⟨_, rfl⟩
  rw [← hn] at h1 h2 h3 h4 h0 hsz hnc ht ⊢
  have hls : (List.range n).map (rowP l n) = l := map_rowP h2
  have hqs : (List.range n).map (rowQ ts n) = ts := map_rowQ hn.symm
  have hrow : ∀ i, RowT w lo hi (rowP l n i) (rowQ ts n i) := fun i => h3 (i % n) (Nat.mod_lt _ h0)
  have hF : (flatK (encP l n) 2 (List.range n).toArray).toList = cellsT l := by rw [flat_cells, hls]
  have hFs : (flatK (encP l n) 2 (List.range n).toArray).size = n * 2 := by simp
  have eg : ∀ args w, (callFunc 79 args).run Try.prog w = .ok (.enter 79 args) w := Go.Proofs.enters_of Try.func79 (by kernel_rfl) rfl
  have stay : ∀ (m : Nat) (os : Array Obj) (dk : Array Nat) {lo2 : Nat} {x : Value} {zs : List Int}, OI w lo2 x zs → OI (sortWorldK (encP l n) 2 w g 0 m dk os) lo2 x zs := fun m os dk {lo2 x zs} hx =>
    own_reblock hx fun g1 hgx => (grownBy_sortedK (encP l n) 2 dk).block g1 (hx.lt g1 hgx).2 fun e => own_ne h1 hx (by decide) (g := g) rfl (by rw [hgx, e])
  have hcmp : CmpLays Try.prog 79 #[] (encP l n) 2 (fun i j => cmpL (rowQ ts n i).1 (rowQ ts n j).1) g 0 (List.range n).toArray.size w := by
    intro m os dk _ x y
    have hrt : ∀ i, RT (sortWorldK (encP l n) 2 w g 0 m dk os) (.agg (encP l n i).toArray) (rowQ ts n i) := fun i => ⟨(rowP l n i).1, by rw [← (hrow i).1]; rfl, (stay m os dk (hrow i).2.1).reads⟩
    exact cmpTerm_any (hrt x) (hrt y)
  have hone : ∀ x, ∀ v ∈ encP l n x, v.oneCell' = true := fun x v hv => by
    unfold encP at hv
    simp only [List.mem_cons, List.not_mem_nil, or_false] at hv
    rcases hv with rfl | rfl
    · rcases (hrow x).2.1.2 with ⟨hv, _⟩ | ⟨_, _, _, hv, _⟩ <;> rw [hv] <;> rfl
    · rfl
  have hs := Sh.slices_SortFuncK 2 isAgg_term sizeOf_term (encP l n) (fun _ => rfl) hone (fun i j => cmpL (rowQ ts n i).1 (rowQ ts n j).1) (swo_keys ts n) 79 #[] g 0 c (List.range n).toArray w eg hcmp
    (holds_ids hh (by rw [hFs, hF]; exact ht)) hlt.2 (by simp; omega)
  rw [List.size_toArray, List.length_range] at hs
  refine hs.mono ?_
  rintro e w' ⟨rfl, d', m, os, hp, hS, rfl⟩
  refine ⟨rfl, ?_, grownBy_sortedK _ _ _⟩
  obtain ⟨p0, -, p3⟩ := hp
  have p1 : d'.size = n := by rw [p0]; simp
  have hts : d'.toList.Perm (List.range n) := by
    have e1 : d'.extract 0 n = d' := by rw [← p1]; simp
    have e2 : ((List.range n).toArray.extract 0 n).toList = List.range n := by simp
    rw [e1, e2] at p3
    exact p3
  obtain ⟨qs, rfl⟩ : ∃ qs : List Nat, d' = qs.toArray := ⟨d'.toList, by simp⟩
  simp only [List.size_toArray] at p1
  simp only at hts
  have hmem : ∀ x ∈ qs, x < n := fun x hx => List.mem_range.1 (hts.mem_iff.1 hx)
  have hnd : qs.Nodup := hts.nodup_iff.2 List.nodup_range
  refine ⟨qs.map (rowQ ts n), ⟨qs.map (rowP l n), ?_, by simp, fun k hk => ?_, fun i j hij hj gg => ?_⟩, ?_, ?_⟩
  · rw [List.length_map, p1]
    refine ⟨by rw [cellsT_len, List.length_map, p1], .inr ⟨g, c, _, rfl, hg, heap_sortedK _ _ _ hh, hnc, hm, by simp [putCells, hcs], ?_⟩⟩
    have hFq : (flatK (encP l n) 2 qs.toArray).size = n * 2 := by simp [p1]
    have := take_putIds cur (flatK (encP l n) 2 qs.toArray) (by rw [hFq, hcs]; omega)
    rw [hFq, flat_cells] at this
    exact this
  · rw [List.length_map] at hk
    have e1 : (qs.map (rowP l n)).getD k P0 = rowP l n (qs.getD k 0) := by simp [hk]
    have e2 : (qs.map (rowQ ts n)).getD k T0 = rowQ ts n (qs.getD k 0) := by simp [hk]
    rw [e1, e2]
    have hr := hrow (qs.getD k 0)
    exact ⟨hr.1, stay m os qs.toArray hr.2.1, hr.2.2⟩
  · rw [List.length_map] at hj
    have hi2 : i < qs.length := by omega
    have e1 : (qs.map (rowP l n)).getD i P0 = rowP l n (qs.getD i 0) := by simp [hi2]
    have e2 : (qs.map (rowP l n)).getD j P0 = rowP l n (qs.getD j 0) := by simp [hj]
    rw [e1, e2]
    have hij' : qs.getD i 0 ≠ qs.getD j 0 := by
      simp only [List.getD, List.getElem?_eq_getElem hi2, List.getElem?_eq_getElem hj, Option.getD_some]
      rw [List.nodup_iff_pairwise_ne, List.pairwise_iff_getElem] at hnd
      exact hnd i j hi2 hj hij
    have mi : qs.getD i 0 < n := hmem _ (by simp [hi2])
    have mj : qs.getD j 0 < n := hmem _ (by simp [hj])
    rw [rowP_lt mi, rowP_lt mj]
    intro hgi hgj
    rcases Nat.lt_or_gt_of_ne hij' with hlt' | hlt'
    · exact h4 _ _ hlt' mj gg hgi hgj
    · exact h4 _ _ hlt' mi gg hgj hgi
  · have := hts.map (rowQ ts n)
    rwa [hqs] at this
  · rw [List.pairwise_map, List.pairwise_iff_getElem]
    intro i j hi hj hij
    have := hS i j (Nat.zero_le _) hij (by omega)
    unfold ltOf at this
    have h5 := of_decide_eq_false this
    rw [getElem!_pos _ _ (by simpa using hj), getElem!_pos _ _ (by simpa using hi)] at h5
    rw [leL_iff]
    have h6 := cmpL_swap (rowQ ts n qs[i]).1 (rowQ ts n qs[j]).1
    simp only [List.getElem_toArray] at h5
    omega
end Go.Proofs.Ytfanohebejemmaa
