/-
  CycleIndex of the reference.
-/
import Derived.Test.YtfanohebejemmaaTermO
import Derived.Test.YtfanohebejemmaaCycIdxFn
import Derived.Test.YtfanohebejemmaaGroupOkS
import Derived.Test.YtfanohebejemmaaCycType
import Derived.Test.YtfanohebejemmaaSame
import Derived.Test.YtfanohebejemmaaOrd
namespace Go.Proofs.Ytfanohebejemmaa
open Go.RowKit Go.Deep

/-- 'out = append(out, ys...)' at structs. -/
theorem wpList_appCells {ops : Array Oper} {rest : List Oper} {o : Oper} {a : Act} {Q : Exit → Act → World → Prop} (w : World) (hgd : o.guard = none) (s x : Operand)
    (ho : o.op = .call { callee := .builtin .append, args := #[s, x], argTypes := #[37, 37] })
    (lo : Nat) (v : Value) (m : Nat) (xs : List Value) (l : List (Value × Int)) (hs : a.eval s = v) {b off c n : Nat} (hx : a.eval x = .slice (some ⟨b, off, none⟩) n c) (hn : n = l.length) (hr : ∀ k, k < n * 2 → w.cell? ⟨b, off + k, none⟩ = (cellsT l)[k]?) (hone : ∀ p ∈ l, p.1.oneCell' = true)
    (hown : w.ownsRow lo 56 2 v m xs) (hlen : m + n ≤ 1099511627776) (hlo : lo ≤ w.heap.size)
    (h : ∀ v' w', w'.ownsRow lo 56 2 v' (m + n) (xs ++ cellsT l) → Below lo w w' → wpList Try.prog ops Q rest (a.put o.dst v') w') : wpList Try.prog ops Q (o :: rest) a w := by
  subst hn
  obtain ⟨i, hi0, hzz⟩ := Option.map_eq_some_iff.1 term_info
  simp only [Prod.mk.injEq] at hzz
  obtain ⟨hz, hsz, hby⟩ := hzz
  refine wpList_append_own w hgd s x 37 ho lo 56 i _ 2 32 Try.underlying37 hi0 hz hsz hby rfl (by omega) v m xs hs hown ⟨b, off, none⟩ l.length c (cellsT l) hx (cellsT_len l) ?_ (cellsT_cell hone) (by unfold maxLen; omega) (by omega) hlo ?_
  · intro j u hj
    have hjl : j < l.length * 2 := by
      rcases Nat.lt_or_ge j (cellsT l).length with h1 | h1
      · rwa [cellsT_len] at h1
      · rw [List.getElem?_eq_none h1] at hj; cases hj
    have e : (Addr.add ⟨b, off, none⟩ j) = ⟨b, off + j, none⟩ := by unfold Addr.add; split <;> simp_all
    rw [e, hr j hjl, hj]
  · intro v' w' h1 h2 _
    exact h v' w' h1 ((Below.refl _ _).grown h2 hlo fun k hk => (hown.lt k hk).1)
theorem own_shape2 {w : World} {lo n size : Nat} {e : TypeId} {v : Value} {xs : List Value} (h : w.ownsRow lo e size v n xs) : ∃ A c, v = .slice A n c := by
  rcases h.2 with ⟨hv, h0⟩ | ⟨g, cap, cur, hv, _⟩
  · exact ⟨none, 0, by rw [hv, h0]⟩
  · exact ⟨_, cap, hv⟩
theorem own_mono {w : World} {lo lo' n size : Nat} {e : TypeId} {v : Value} {xs : List Value} (h : w.ownsRow lo e size v n xs) (hl : lo' ≤ lo) : w.ownsRow lo' e size v n xs := by
  obtain ⟨a, b⟩ := h
  refine ⟨a, ?_⟩
  rcases b with b | ⟨g, cap, cur, hv, hg, r⟩
  · exact .inl b
  · exact .inr ⟨g, cap, cur, hv, by omega, r⟩
theorem ins_getD {α : Type} {l : List α} {x d : α} {j : Nat} (hj : j ≤ l.length) (i : Nat) : (l.take j ++ [x] ++ l.drop j).getD i d = if i < j then l.getD i d else if i = j then x else l.getD (i - 1) d := by
  have hlt : (l.take j).length = j := by rw [List.length_take]; omega
  by_cases h : i < j
  · rw [if_pos h, List.append_assoc, List.getD_eq_getElem?_getD, List.getElem?_append_left (by omega), List.getElem?_take_of_lt h, List.getD_eq_getElem?_getD]
  · rw [if_neg h]
    by_cases h2 : i = j
    · subst h2
      rw [if_pos rfl, List.getD_eq_getElem?_getD, List.getElem?_append_left (by simp [hlt]), List.getElem?_append_right (by omega), hlt, Nat.sub_self]
      rfl
    · rw [if_neg h2, List.getD_eq_getElem?_getD, List.getElem?_append_right (by simp [hlt]; omega), List.getD_eq_getElem?_getD]
      congr 1
      rw [List.getElem?_drop]
      congr 1
      simp [hlt]; omega
theorem OTTh.insert {w w' : World} {lo hi mid j : Nat} {v' u : Value} {ts : List (List Int × Int)} {t : List Int} {x : Int} {l : List (Value × Int)} (h2 : l.length = ts.length) (h3 : ∀ k, k < ts.length → RowT w lo hi (l.getD k P0) (ts.getD k T0))
    (h4 : ∀ i j, i < j → j < ts.length → ∀ g, (l.getD i P0).1.ownBlock = some g → (l.getD j P0).1.ownBlock ≠ some g) (hu : OI w mid u t) (hm : hi ≤ mid) (hlm : lo ≤ mid) (hj : j ≤ ts.length) (b : Below w.heap.size w w')
    (ho : w'.ownsRow lo 56 2 v' (ts.length + 1) (cellsT (l.take j ++ [(u, x)] ++ l.drop j))) : OTTh w' lo w'.heap.size v' (ts.take j ++ [(t, x)] ++ ts.drop j) := by
  have hlen : (ts.take j ++ [(t, x)] ++ ts.drop j).length = ts.length + 1 := by simp; omega
  have hd : ∀ i i', i ≠ i' → i < ts.length → i' < ts.length → ∀ g, (l.getD i P0).1.ownBlock = some g → (l.getD i' P0).1.ownBlock ≠ some g := fun i i' hne hi hi' g h1 h5 => by
    rcases Nat.lt_or_gt_of_ne hne with h | h
    · exact h4 i i' h hi' g h1 h5
    · exact h4 i' i h hi g h5 h1
  have hnew : ∀ i, i < ts.length → ∀ g, (l.getD i P0).1.ownBlock = some g → u.ownBlock ≠ some g := fun i hi g h1 h5 => by
    have a1 := (h3 i hi).2.2 g h1
    have a2 := (hu.lt g h5).1
    omega
  refine ⟨l.take j ++ [(u, x)] ++ l.drop j, by rw [hlen]; exact ho, by simp; omega, fun k hk => ?_, fun i i' hii hi' g => ?_⟩
  · rw [hlen] at hk
    rw [ins_getD (by omega), ins_getD hj]
    by_cases c1 : k < j
    · rw [if_pos c1, if_pos c1]
      have hr := (h3 k (by omega)).step b
      exact ⟨hr.1, hr.2.1, fun g hg => (hr.2.1.lt g hg).2⟩
    · rw [if_neg c1, if_neg c1]
      by_cases c2 : k = j
      · rw [if_pos c2, if_pos c2]
        have hr := OI.step hu b
        exact ⟨rfl, OI.mono hr hlm, fun g hg => (hr.lt g hg).2⟩
      · rw [if_neg c2, if_neg c2]
        have hr := (h3 (k - 1) (by omega)).step b
        exact ⟨hr.1, hr.2.1, fun g hg => (hr.2.1.lt g hg).2⟩
  · rw [hlen] at hi'
    rw [ins_getD (by omega), ins_getD (by omega)]
    by_cases c1 : i < j
    · rw [if_pos c1]
      by_cases c2 : i' < j
      · rw [if_pos c2]; exact hd i i' (by omega) (by omega) (by omega) g
      · rw [if_neg c2]
        by_cases c3 : i' = j
        · rw [if_pos c3]; exact hnew i (by omega) g
        · rw [if_neg c3]; exact hd i (i' - 1) (by omega) (by omega) (by omega) g
    · rw [if_neg c1, if_neg (show ¬ i' < j by omega), if_neg (show ¬ i' = j by omega)]
      by_cases c3 : i = j
      · rw [if_pos c3]
        intro h1 h5
        exact hnew (i' - 1) (by omega) g h5 h1
      · rw [if_neg c3]; exact hd (i - 1) (i' - 1) (by omega) (by omega) (by omega) g

theorem seg_facts {w : World} {lo hi g m c : Nat} {ts : List (List Int × Int)} (h : OTTh w lo hi (.slice (some ⟨g, 0, none⟩) m c) ts) (hm : m = ts.length) :
    ∃ l : List (Value × Int), l.length = m ∧ (∀ i, i < m * 2 → w.cell? ⟨g, i, none⟩ = (cellsT l)[i]?) ∧ (∀ p ∈ l, p.1.oneCell' = true) ∧ (∀ k, k < ts.length → RowT w lo hi (l.getD k P0) (ts.getD k T0)) ∧
      ∀ i j, i < j → j < ts.length → ∀ g, (l.getD i P0).1.ownBlock = some g → (l.getD j P0).1.ownBlock ≠ some g := by
  subst hm
  obtain ⟨l, h1, h2, h3, h4⟩ := h
  refine ⟨l, h2, fun i hi => h1.cellAt i hi, fun p hp => ?_, h3, h4⟩
  obtain ⟨k, hk, rfl⟩ := List.getElem_of_mem hp
  have hr := (h3 k (by omega)).2.1
  rw [show l.getD k P0 = l[k] from by simp [List.getElem?_eq_getElem hk]] at hr
  rcases hr.2 with ⟨hv, _⟩ | ⟨_, _, _, hv, _⟩ <;> rw [hv] <;> rfl
theorem seg_take {w w' : World} {g m j : Nat} {l : List (Value × Int)} (_hl : l.length = m) (hc : ∀ i, i < m * 2 → w.cell? ⟨g, i, none⟩ = (cellsT l)[i]?) (hj : j ≤ m) (hw : ∀ i, w'.cell? ⟨g, i, none⟩ = w.cell? ⟨g, i, none⟩) : ∀ i, i < j * 2 → w'.cell? ⟨g, 0 + i, none⟩ = (cellsT (l.take j))[i]? := fun i hi => by
  rw [Nat.zero_add, hw, hc i (by omega), ← cellsT_take, List.getElem?_take_of_lt hi]
theorem seg_drop {w w' : World} {g m j : Nat} {l : List (Value × Int)} (_hl : l.length = m) (hc : ∀ i, i < m * 2 → w.cell? ⟨g, i, none⟩ = (cellsT l)[i]?) (hj : j ≤ m) (hw : ∀ i, w'.cell? ⟨g, i, none⟩ = w.cell? ⟨g, i, none⟩) : ∀ i, i < (m - j) * 2 → w'.cell? ⟨g, j * 2 + i, none⟩ = (cellsT (l.drop j))[i]? := fun i hi => by
  rw [hw, hc _ (by omega), ← cellsT_drop, List.getElem?_drop]
theorem seg_new (w : World) (u : Value) (x : Int) : ∀ i, i < 1 * 2 → (w.alloc (.cells #[u, .int .i64 x] 56)).cell? ⟨w.heap.size, 0 + i, none⟩ = (cellsT [(u, x)])[i]? := fun i hi => by
  rw [Nat.zero_add, World.cell?_alloc_at _ _ _ _ rfl]
  have : i = 0 ∨ i = 1 := by omega
  rcases this with rfl | rfl <;> rfl

set_option maxHeartbeats 6400000 in
set_option maxRecDepth 100000 in
theorem specCycleIndex_any {w : World} {a : Value} {gs : List (List Int)} (ha : RII w a gs) :
    Calls Try.prog 44 #[a] w fun e w' => ∃ v, e = .returned v ∧ OTTh w' w.heap.size w'.heap.size v (cycleIndex gs) ∧ Below w.heap.size w w' := by
  have HA := Lib.hid ha
  obtain ⟨A, c, rfl, -, hx⟩ := ha
  cases hg : groupOk gs with
  | false =>
    have HC := Lib.hid (cycleIndex_no hg)
    have HG := Lib.hid hg
    clear hg hx
    go_enter Try.func44, Try.ntmps44
    go_wp2_with fail
    have hc := specGroupOk_any HA.out
    simp only [HG.out] at hc
    refine hc.mono ?_
    clear hc
    rintro e w1 ⟨rfl, b⟩
    have HB1 := Lib.hid b
    clear b
    go_wp2_with fail
    go_ret
    exact ⟨_, rfl, by rw [HC.out]; exact OTTh.nil _ _ _, HB1.out⟩
  | true =>
  have HG := Lib.hid hg
  have HGR := Lib.hid (grp_of hg)
  have HC := Lib.hid (cycleIndex_yes hg)
  obtain ⟨n, hn⟩ : ∃ n, n = gs.length := ⟨_, rfl⟩
  have h1 : 1 ≤ n := by have := HGR.out.one; omega
  have h2 : n ≤ 120 := by have := HGR.out.le; omega
  rw [← hn] at hx HA ⊢
  have HL := Lib.hid hn
  have HX := Lib.hid hx
  clear hg hn hx
  go_enter Try.func44, Try.ntmps44
  go_wp2_with fail
  have hc := specGroupOk_any HA.out
  simp only [HG.out] at hc
  refine hc.mono ?_
  clear hc
  rintro e w1 ⟨rfl, b⟩
  have H1 : Hid (OTTh (w1.alloc (.cells #[] 56)) w.heap.size (w1.alloc (.cells #[] 56)).heap.size (.slice (some ⟨w1.heap.size, 0, none⟩) 0 0) (idxTo gs 0) ∧ Below w.heap.size w (w1.alloc (.cells #[] 56))) :=
    ⟨((OTTh.lit w1).mono b.size (Nat.le_refl _)).wide, b.alloc b.size _⟩
  clear b
  go_wp2_with fail
  go_loopw [3, 15] (fun v i wr => ∃ k g c3 : Nat, k ≤ n ∧ i = .int .i64 k ∧ v = .slice (some ⟨g, 0, none⟩) (idxTo gs k).length c3 ∧ Hid (OTTh wr w.heap.size wr.heap.size (.slice (some ⟨g, 0, none⟩) (idxTo gs k).length c3) (idxTo gs k) ∧ Below w.heap.size w wr)) (fun _ i _ => n - (intOf i).toNat)
  case atStart => exact ⟨0, w1.heap.size, 0, Nat.zero_le _, rfl, rfl, H1.out⟩
  case round =>
    obtain ⟨k, g, c3, hk, rfl, rfl, HR⟩ := hrel
    obtain ⟨ts, hts⟩ : ∃ ts, ts = idxTo gs k := ⟨_, rfl⟩
    rw [← hts] at HR ⊢
    obtain ⟨m, hm⟩ : ∃ m, m = ts.length := ⟨_, rfl⟩
    have hmk : m ≤ k := by rw [hm, hts]; exact idx_len gs k
    rw [← hm] at HR ⊢
    have HM := Lib.hid (And.intro hm hts)
    obtain ⟨hg1, hg2, hc31, hc32⟩ : w.heap.size ≤ g ∧ g < wr.heap.size ∧ m ≤ c3 ∧ c3 ≤ 9223372036854775807 := by
      obtain ⟨l, hl, _⟩ := HR.out.1
      have hlt := hl.lt g rfl
      rcases hl.2 with ⟨hv, _⟩ | ⟨g', cap, cur, hv, _, _, hnc, hcm, _⟩
      · cases hv
      · cases hv
        rw [← hm] at hnc
        exact ⟨hlt.1, hlt.2, hnc, by unfold maxLen at hcm; omega⟩
    clear hm hts
    by_cases hlt : k < n
    · obtain ⟨b1, o1, rfl, hb1, hc1⟩ := HX.out (by omega)
      obtain ⟨A1, c1, cc1, rr1⟩ := RII.at hc1 (k := k) hlt
      have e1 := (HR.out.2.cell (p := ⟨b1, o1 + k, none⟩) hb1).trans cc1
      obtain ⟨p, hp⟩ : ∃ p, p = gs.getD k [] := ⟨_, rfl⟩
      rw [← hp] at e1 rr1
      have HP := Lib.hid (RI.below rr1 HR.out.2)
      obtain ⟨t, ht⟩ : ∃ t, t = cycleType p := ⟨_, rfl⟩
      have htl : t.length = deg gs := by rw [ht, hp]; exact typeAt_len HGR.out (by have := HL.out; omega)
      have HT : Hid (t = cycleType p ∧ t = typeAt gs k ∧ t.length = deg gs) := ⟨ht, by rw [ht, hp]; rfl, htl⟩
      clear cc1 rr1 hc1 hp ht htl
      go_wp2_with fail
      have hc := specCycleType_any HP.out
      rw [← HT.out.1] at hc
      refine hc.mono ?_
      clear hc
      rintro e w2 ⟨vt, rfl, o, b⟩
      obtain ⟨At, ct, rfl, -⟩ := OI.form o
      have HSZ : Hid (wr.heap.size ≤ w2.heap.size) := b.size
      have HO : Hid (OTTh w2 w.heap.size wr.heap.size (.slice (some ⟨g, 0, none⟩) m c3) ts ∧ Below w.heap.size w w2 ∧ OI w2 wr.heap.size (.slice At t.length ct) t) := ⟨HR.out.1.step b, bstep HR.out.2 b, o⟩
      clear o b e1
      go_wp2_with fail
      go_loop [7] (fun q => ∃ j : Nat, j ≤ m ∧ q = .int .i64 j ∧ Hid (∀ i, i < j → ltL (ts.getD i T0).1 t = true)) (fun q => m - (intOf q).toNat)
      case atStart => exact ⟨0, Nat.zero_le _, rfl, fun i h => absurd h (by omega)⟩
      case round =>
        obtain ⟨j, hj, rfl, HJ⟩ := hrel
        by_cases hjm : j < m
        · obtain ⟨u, e1, e2, f1, f2, ou, -⟩ := OTTh.at HO.out.1 HM.out.1.symm hjm
          have hjt : j < ts.length := by have := HM.out.1; omega
          have hty : (ts.getD j T0).1.length = t.length := by
            rw [HT.out.2.2]
            exact idx_types HGR.out (k := k) (by have := HL.out; omega) _ (by rw [← HM.out.2]; exact getD_memT hjt)
          have hcb := idx_count gs k (ts.getD j T0) (by rw [← HM.out.2]; exact getD_memT hjt)
          obtain ⟨s, hs⟩ : ∃ s, s = (ts.getD j T0).1 := ⟨_, rfl⟩
          obtain ⟨x, hx⟩ : ∃ x, x = (ts.getD j T0).2 := ⟨_, rfl⟩
          rw [← hs] at ou hty
          rw [← hx] at e2 hcb
          obtain ⟨As, cs, rfl, -⟩ := OI.form ou
          rw [hty] at e1 ou
          have HS := Lib.hid (And.intro ou.reads (And.intro hty (And.intro hs (And.intro hx (And.intro e2 (And.intro f1 f2))))))
          have hx1 : 1 ≤ x := hcb.1
          have hx2 : x ≤ 120 := by omega
          clear ou hty hs hx hcb hjt e2 f1 f2
          cases hlq : ltL s t with
          | true =>
            have HLT := Lib.hid hlq
            clear hlq
            go_wp2_with fail
            have hc := l03Less_any HS.out.1 HO.out.2.2.reads HS.out.2.1
            rw [HLT.out] at hc
            refine hc.mono ?_
            clear hc
            rintro e w' ⟨rfl, rfl⟩
            go_wp2_with fail
            go_round
            case rel => exact ⟨j + 1, by omega, by go_num, fun i hi => by
              rcases Nat.lt_or_ge i j with h | h
              · exact HJ.out i h
              · obtain rfl : i = j := by omega
                rw [← HS.out.2.2.1]; exact HLT.out⟩
            case measure => simp [intOf]; omega
          | false =>
            have HLT := Lib.hid hlq
            clear hlq
            go_wp2_with fail
            have hc := l03Less_any HS.out.1 HO.out.2.2.reads HS.out.2.1
            rw [HLT.out] at hc
            refine hc.mono ?_
            clear hc
            rintro e w' ⟨rfl, rfl⟩
            have hkey := placeT_key (l := ts) (t := t) (k := j) (by rw [HM.out.2]; exact idx_asc gs k) HJ.out (fun _ => by rw [← HS.out.2.2.1]; exact HLT.out)
            have hplace := placeT_at (out := ts) (t := t) (k := j) HJ.out (by have := HM.out.1; omega) (fun _ => by rw [← HS.out.2.2.1]; exact HLT.out)
            by_cases hst : s = t
            · have E1 : Hid (decide (s = t) = true) := decide_eq_true hst
              have hjt : j < ts.length := by have := HM.out.1; omega
              have hk1 : (ts.getD j T0).1 = t := by rw [← HS.out.2.2.1]; exact hst
              have hset := set_inc (out := ts) (by rw [HM.out.2]; exact idx_keys gs k) hjt hk1
              have hidx : idxTo gs (k + 1) = ts.map (incT t) := by
                rw [idxTo, ← HM.out.2, ← HT.out.2.1, insT, if_pos (mem_keys.2 ⟨j, hjt, hk1⟩)]
              have hset' : ts.set j ((ts.getD j T0).1, x + 1) = idxTo gs (k + 1) := by rw [hidx, ← hset, HS.out.2.2.2.1]
              have hln : (idxTo gs (k + 1)).length = m := by rw [hidx, List.length_map]; exact HM.out.1.symm
              have HLN := Lib.hid (And.intro hln hset')
              clear hkey hplace hset hidx hset' hln hst hk1 hjt
              go_wp2_with fail
              have hc := l03Same_any HS.out.1 HO.out.2.2.reads
              simp only [E1.out] at hc
              refine hc.mono ?_
              clear hc
              rintro e w7 ⟨rfl, st⟩
              have hgw : g < w2.heap.size := by obtain ⟨l, hl, _⟩ := HO.out.1; exact (hl.lt g rfl).2
              obtain ⟨-, -, -, -, e2, f1, f2⟩ := HS.out
              have e2' := (st.below.cell (p := ⟨g, j * 2 + 1, none⟩) hgw).trans e2
              have f2' := (st.below.frozen (p := ⟨g, j * 2 + 1, none⟩) hgw).trans f2
              have hcnt := OTTh.count (HO.out.1.step st.below) HM.out.1.symm hjm (x + 1)
              rw [HLN.out.2] at hcnt
              have hbs : Below w.heap.size w (w7.setCell ⟨g, j * 2 + 1, none⟩ (.int .i64 (x + 1))) := (bstep HO.out.2.1 st.below).setCell (p := ⟨g, j * 2 + 1, none⟩) hg1 _
              have HN : Hid (OTTh (w7.setCell ⟨g, j * 2 + 1, none⟩ (.int .i64 (x + 1))) w.heap.size (w7.setCell ⟨g, j * 2 + 1, none⟩ (.int .i64 (x + 1))).heap.size (.slice (some ⟨g, 0, none⟩) (idxTo gs (k + 1)).length c3) (idxTo gs (k + 1)) ∧ Below w.heap.size w (w7.setCell ⟨g, j * 2 + 1, none⟩ (.int .i64 (x + 1)))) := ⟨by rw [HLN.out.1]; exact OTTh.wide hcnt.1, hbs⟩
              clear hcnt hbs e2 f1 f2 st e1 hgw
              go_wp2_with fail
              go_roundw
              case rel => exact ⟨k + 1, g, c3, by omega, by go_num, by rw [HLN.out.1], HN.out⟩
              case measure => simp [intOf]; omega
            · have E1 : Hid (decide (s = t) = false) := decide_eq_false hst
              have hidx : idxTo gs (k + 1) = ts.take j ++ [(t, 1)] ++ ts.drop j := by
                rw [idxTo, ← HM.out.2, ← HT.out.2.1, insT, if_neg fun h => hst (by rw [HS.out.2.2.1]; exact (hkey.1 h).2), hplace]
              have HIX := Lib.hid hidx
              clear hkey hplace hidx hst
              go_wp2_with fail
              have hc := l03Same_any HS.out.1 HO.out.2.2.reads
              simp only [E1.out] at hc
              refine hc.mono ?_
              clear hc
              rintro e w7 ⟨rfl, st⟩
              have HO7 := Lib.hid (And.intro (HO.out.1.step st.below) (And.intro (bstep HO.out.2.1 st.below) (OI.step HO.out.2.2 st.below)))
              obtain ⟨l, l1, l2, l3, l4, l5⟩ := seg_facts HO7.out.1 HM.out.1
              have hg7 : g < w7.heap.size := by obtain ⟨l, hl, _⟩ := HO7.out.1; exact (hl.lt g rfl).2
              have hs7 : wr.heap.size ≤ w7.heap.size := by have := HO7.out.2.1.size; have := HO7.out.2.2; have := st.below.size; have := HO.out.2.1.size; exact Nat.le_trans (HSZ.out) st.below.size
              have hT1 : j = (l.take j).length := by rw [List.length_take]; omega
              have hR1 := seg_take l1 l2 hj (w' := w7.alloc (.cells #[] 56)) (fun i => World.cell?_alloc_past _ _ _ hg7)
              have hone1 : ∀ p ∈ l.take j, p.1.oneCell' = true := fun p hp => l3 p (List.mem_of_mem_take hp)
              have hown0 : (w7.alloc (.cells #[] 56)).ownsRow w7.heap.size 56 2 (.slice (some ⟨w7.heap.size, 0, none⟩) 0 0) 0 [] := World.ownsRow_lit (base := w7.heap.size) (e := 56) (size := 2) w7 #[] 0 (Nat.le_refl _) (by simp) rfl
              have hb0 : Below w7.heap.size w7 (w7.alloc (.cells #[] 56)) := (Below.refl _ _).alloc (Nat.le_refl _) _
              have HQ1 := Lib.hid (And.intro hT1 (And.intro hR1 (And.intro hone1 (And.intro hown0 hb0))))
              have HLL := Lib.hid (And.intro l1 (And.intro l2 (And.intro l3 (And.intro l4 l5))))
              have HG7 := Lib.hid (And.intro hg7 hs7)
              have hjc : j ≤ c3 := by omega
              clear l1 l2 l3 l4 l5 hT1 hR1 hone1 hown0 hb0 hs7 st e1 HO
              have hv1 : ∀ p ∈ [((Value.slice At t.length ct, (1 : Int)) : Value × Int)], p.1.oneCell' = true := fun p hp => by rw [List.mem_singleton.1 hp]; rfl
              have hT3 : m - j = (l.drop j).length := by rw [List.length_drop, HLL.out.1]
              have hone3 : ∀ p ∈ l.drop j, p.1.oneCell' = true := fun p hp => HLL.out.2.2.1 p (List.mem_of_mem_drop hp)
              have HQ3 := Lib.hid (And.intro hv1 (And.intro hT3 hone3))
              clear hv1 hT3 hone3
              go_wp2_with (first
                | (at_builtin; refine wpList_appCells _ rfl (.tmp 57) (.tmp 60) rfl w7.heap.size _ 0 [] (l.take j) rfl rfl HQ1.out.1 HQ1.out.2.1 HQ1.out.2.2.1 HQ1.out.2.2.2.1 (by omega) (by simp) ?_; intro v3 w3 o3 b3; rw [Nat.zero_add, List.nil_append] at o3; obtain ⟨A4, c4, rfl⟩ := own_shape2 o3; have HO3 := Lib.hid o3; have HB3 := Lib.hid (HQ1.out.2.2.2.2.trans b3); clear o3 b3)
                | (at_builtin; refine wpList_appCells _ rfl (.tmp 62) (.tmp 65) rfl w7.heap.size _ j (cellsT (l.take j)) [(.slice At t.length ct, 1)] rfl rfl rfl (seg_new _ _ _) HQ3.out.1 (HO3.out.alloc _) (by omega) (by have := HB3.out.size; simp; omega) ?_; intro v4 w4 o4 b4; obtain ⟨A5, c5, rfl⟩ := own_shape2 o4; have HO4 := Lib.hid o4; have HB4 := Lib.hid ((HB3.out.alloc HB3.out.size _).trans b4); clear o4 b4)
                | (at_builtin; refine wpList_appCells _ rfl (.tmp 67) (.tmp 70) rfl w7.heap.size _ (j + 1) (cellsT (l.take j) ++ cellsT [(.slice At t.length ct, 1)]) (l.drop j) rfl rfl HQ3.out.2.1 (seg_drop HLL.out.1 HLL.out.2.1 hj fun i => HB4.out.cell (p := ⟨g, i, none⟩) HG7.out.1) HQ3.out.2.2 HO4.out (by omega) HB4.out.size ?_; intro v5 w5 o5 b5; obtain ⟨A6, c6, rfl⟩ := own_shape2 o5; have HO5 := Lib.hid o5; have HB5 := Lib.hid (HB4.out.trans b5); clear o5 b5))
              have hlen5 : j + 1 + (m - j) = m + 1 := by omega
              obtain ⟨g', c', hv', hlo', -⟩ := HO5.out.form (by omega)
              simp only [Value.slice.injEq] at hv'
              obtain ⟨rfl, -, rfl⟩ := hv'
              have ho : w5.ownsRow w.heap.size 56 2 (.slice (some ⟨g', 0, none⟩) (j + 1 + (m - j)) c6) (ts.length + 1) (cellsT (l.take j ++ [(Value.slice At t.length ct, 1)] ++ l.drop j)) := by
                have h := own_mono HO5.out (lo' := w.heap.size) HO7.out.2.1.size
                rw [cellsT_app, cellsT_app, ← HM.out.1, ← hlen5]
                exact h
              have hins := OTTh.insert (HLL.out.1.trans HM.out.1) HLL.out.2.2.2.1 HLL.out.2.2.2.2 HO7.out.2.2 (Nat.le_refl _) HR.out.2.size (by rw [← HM.out.1]; exact hj) HB5.out ho
              have hln : (idxTo gs (k + 1)).length = j + 1 + (m - j) := by rw [HIX.out]; simp; have := HM.out.1; omega
              rw [← HIX.out] at hins
              have HN : Hid (OTTh w5 w.heap.size w5.heap.size (.slice (some ⟨g', 0, none⟩) (idxTo gs (k + 1)).length c6) (idxTo gs (k + 1)) ∧ Below w.heap.size w w5) := ⟨by rw [hln]; exact hins, bstep HO7.out.2.1 HB5.out⟩
              have HLN := Lib.hid hln
              clear ho hins hln
              go_roundw
              case rel => exact ⟨k + 1, g', c6, by omega, by go_num, by rw [HLN.out], HN.out⟩
              case measure => simp [intOf]; omega
        · have hjm' : j = m := by omega
          subst hjm'
          have hkey := placeT_key (l := ts) (t := t) (k := j) (by rw [HM.out.2]; exact idx_asc gs k) HJ.out (fun h => absurd h (by rw [← HM.out.1]; omega))
          have hplace := placeT_at (out := ts) (t := t) (k := j) HJ.out (by rw [← HM.out.1]; exact Nat.le_refl _) (fun h => absurd h (by rw [← HM.out.1]; omega))
          have hidx : idxTo gs (k + 1) = ts.take j ++ [(t, 1)] ++ ts.drop j := by
            rw [idxTo, ← HM.out.2, ← HT.out.2.1, insT, if_neg fun h => absurd (hkey.1 h).1 (by rw [← HM.out.1]; omega), hplace]
          have HIX := Lib.hid hidx
          obtain ⟨l, l1, l2, l3, l4, l5⟩ := seg_facts HO.out.1 HM.out.1
          have hg7 : g < w2.heap.size := by obtain ⟨l, hl, _⟩ := HO.out.1; exact (hl.lt g rfl).2
          have hT1 : j = (l.take j).length := by rw [List.length_take]; omega
          have hR1 := seg_take l1 l2 (Nat.le_refl j) (w' := w2.alloc (.cells #[] 56)) (fun i => World.cell?_alloc_past _ _ _ hg7)
          have hone1 : ∀ p ∈ l.take j, p.1.oneCell' = true := fun p hp => l3 p (List.mem_of_mem_take hp)
          have hown0 : (w2.alloc (.cells #[] 56)).ownsRow w2.heap.size 56 2 (.slice (some ⟨w2.heap.size, 0, none⟩) 0 0) 0 [] := World.ownsRow_lit (base := w2.heap.size) (e := 56) (size := 2) w2 #[] 0 (Nat.le_refl _) (by simp) rfl
          have hb0 : Below w2.heap.size w2 (w2.alloc (.cells #[] 56)) := (Below.refl _ _).alloc (Nat.le_refl _) _
          have hv1 : ∀ p ∈ [((Value.slice At t.length ct, (1 : Int)) : Value × Int)], p.1.oneCell' = true := fun p hp => by rw [List.mem_singleton.1 hp]; rfl
          have HQ1 := Lib.hid (And.intro hT1 (And.intro hR1 (And.intro hone1 (And.intro hown0 (And.intro hb0 hv1)))))
          have HLL := Lib.hid (And.intro l1 (And.intro l2 (And.intro l3 (And.intro l4 l5))))
          have hdr : l.drop j = [] := List.drop_eq_nil_of_le (by omega)
          have HDR := Lib.hid hdr
          clear l1 l2 l3 l4 l5 hT1 hR1 hone1 hown0 hb0 hv1 hkey hplace hidx hdr hjm
          by_cases hcj : c3 = j
          case' pos => have hcj' := hcj.symm; clear hcj; subst hcj'
          case' neg => have hcj2 : j < c3 := by omega
          all_goals
            go_wp2_with (first
              | (at_builtin; refine wpList_appCells _ rfl (.tmp 57) (.tmp 60) rfl w2.heap.size _ 0 [] (l.take j) rfl rfl HQ1.out.1 HQ1.out.2.1 HQ1.out.2.2.1 HQ1.out.2.2.2.1 (by omega) (by simp) ?_; intro v3 w3 o3 b3; rw [Nat.zero_add, List.nil_append] at o3; obtain ⟨A4, c4, rfl⟩ := own_shape2 o3; have HO3 := Lib.hid o3; have HB3 := Lib.hid (HQ1.out.2.2.2.2.1.trans b3); clear o3 b3)
              | (at_builtin; refine wpList_appCells _ rfl (.tmp 62) (.tmp 65) rfl w2.heap.size _ j (cellsT (l.take j)) [(.slice At t.length ct, 1)] rfl rfl rfl (seg_new _ _ _) HQ1.out.2.2.2.2.2 (HO3.out.alloc _) (by omega) (by have := HB3.out.size; simp; omega) ?_; intro v4 w4 o4 b4; obtain ⟨A5, c5, rfl⟩ := own_shape2 o4; have HO4 := Lib.hid o4; have HB4 := Lib.hid ((HB3.out.alloc HB3.out.size _).trans b4); clear o4 b4)
              | (at_builtin; refine wpList_appCells _ rfl (.tmp 67) (.tmp 70) rfl w2.heap.size _ (j + 1) (cellsT (l.take j) ++ cellsT [(.slice At t.length ct, 1)]) [] rfl rfl (by simp) (fun i hi => absurd hi (by simp)) (fun p hp => absurd hp (by simp)) HO4.out (by omega) HB4.out.size ?_; intro v5 w5 o5 b5; obtain ⟨A6, c6, rfl⟩ := own_shape2 o5; have HO5 := Lib.hid o5; have HB5 := Lib.hid (HB4.out.trans b5); clear o5 b5))
            obtain ⟨g', c', hv', hlo', -⟩ := HO5.out.form (by omega)
            simp only [Value.slice.injEq] at hv'
            obtain ⟨rfl, -, rfl⟩ := hv'
            have ho : w5.ownsRow w.heap.size 56 2 (.slice (some ⟨g', 0, none⟩) (j + 1) c6) (ts.length + 1) (cellsT (l.take j ++ [(Value.slice At t.length ct, 1)] ++ l.drop j)) := by
              have h := own_mono HO5.out (lo' := w.heap.size) HO.out.2.1.size
              rw [HDR.out, List.append_nil, cellsT_app, ← HM.out.1]
              simpa [cellsT] using h
            have hins := OTTh.insert (HLL.out.1.trans HM.out.1) HLL.out.2.2.2.1 HLL.out.2.2.2.2 HO.out.2.2 (Nat.le_refl _) HR.out.2.size (by rw [← HM.out.1]; exact Nat.le_refl _) HB5.out ho
            have hln : (idxTo gs (k + 1)).length = j + 1 := by rw [HIX.out]; simp; have := HM.out.1; omega
            rw [← HIX.out] at hins
            have HN : Hid (OTTh w5 w.heap.size w5.heap.size (.slice (some ⟨g', 0, none⟩) (idxTo gs (k + 1)).length c6) (idxTo gs (k + 1)) ∧ Below w.heap.size w w5) := ⟨by rw [hln]; exact hins, bstep HO.out.2.1 HB5.out⟩
            have HLN := Lib.hid hln
            clear ho hins hln
            go_roundw
            case rel => exact ⟨k + 1, g', c6, by omega, by go_num, by rw [HLN.out], HN.out⟩
            case measure => simp [intOf]; omega
    · have hkn : k = n := by omega
      subst hkn
      have HN : Hid (OTTh wr w.heap.size wr.heap.size (.slice (some ⟨g, 0, none⟩) m c3) (cycleIndex gs)) := by rw [Hid, HC.out, ← HL.out, ← HM.out.2]; exact HR.out.1
      go_wp2_with fail
      go_ret
      exact ⟨_, rfl, HN.out, HR.out.2⟩
end Go.Proofs.Ytfanohebejemmaa
