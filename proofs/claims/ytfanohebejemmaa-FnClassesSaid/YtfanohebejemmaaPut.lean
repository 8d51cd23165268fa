/-
  The reference's l03Put: a row put into an ascending row of rows.
-/
import Derived.Test.YtfanohebejemmaaGenFn
import Derived.Test.YtfanohebejemmaaOrd
namespace Go.Proofs.Ytfanohebejemmaa
open Go.RowKit Go.Deep

/-- 'out = append(out, ys...)' at rows of rows. -/
theorem wpList_appVals {ops : Array Oper} {rest : List Oper} {o : Oper} {a : Act} {Q : Exit → Act → World → Prop} (w : World) (hgd : o.guard = none) (s x : Operand)
    (ho : o.op = .call { callee := .builtin .append, args := #[s, x], argTypes := #[22, 22] })
    (lo : Nat) (v : Value) (m : Nat) (xs ys : List Value) (hs : a.eval s = v) {b off c n : Nat} (hx : a.eval x = .slice (some ⟨b, off, none⟩) n c) (hn : n = ys.length) (hr : ∀ k, k < n → w.cell? ⟨b, off + k, none⟩ = some (ys.getD k undef)) (hone : ∀ y ∈ ys, y.oneCell' = true)
    (hown : w.ownsRow lo 27 1 v m xs) (hlen : m + n ≤ 1099511627776) (hlo : lo ≤ w.heap.size)
    (h : ∀ v' w', w'.ownsRow lo 27 1 v' (m + n) (xs ++ ys) → Below lo w w' → w.grownBy w' v.ownBlock → wpList Try.prog ops Q rest (a.put o.dst v') w') : wpList Try.prog ops Q (o :: rest) a w := by
  subst hn
  obtain ⟨i0, hi, hz0, hz1', hz2⟩ := info_parts intS_info
  refine wpList_append_own w hgd s x 22 ho lo 27 i0 (.slice none 0 0) 1 24 Try.underlying22 hi hz0 hz1' hz2 rfl (by omega) v m xs hs hown ⟨b, off, none⟩ ys.length c ys hx (by simp) ?_ hone (by unfold maxLen; omega) (by omega) hlo ?_
  · intro j u hj
    have hjl : j < ys.length := by
      rcases Nat.lt_or_ge j ys.length with h1 | h1
      · exact h1
      · rw [List.getElem?_eq_none (by simpa using h1)] at hj; cases hj
    have e : (Addr.add ⟨b, off, none⟩ j) = ⟨b, off + j, none⟩ := by unfold Addr.add; split <;> simp_all
    rw [e, hr j hjl]
    rw [List.getElem?_eq_getElem hjl] at hj
    simp only [Option.some.injEq] at hj
    rw [← hj]; simp [List.getElem?_eq_getElem hjl]
  · intro v' w' h1 h2 _
    exact h v' w' h1 ((Below.refl _ _).grown h2 hlo fun k hk => (hown.lt k hk).1) h2
theorem own_shape {w : World} {lo n : Nat} {e : TypeId} {v : Value} {xs : List Value} (h : w.ownsRow lo e 1 v n xs) : ∃ A c, v = .slice A n c := by
  rcases h.2 with ⟨hv, h0⟩ | ⟨g, cap, cur, hv, _⟩
  · exact ⟨none, 0, by rw [hv, h0]⟩
  · exact ⟨_, cap, hv⟩

/-- Rows with their values: each of them the call's own, no two in one block. -/
structure RV (w : World) (lo : Nat) (rs : List (Value × List Int)) : Prop where
  own : ∀ r ∈ rs, OI w lo r.1 r.2
  apart : rs.Pairwise (fun x y => ∀ g, x.1.ownBlock = some g → y.1.ownBlock ≠ some g)
theorem RV.nil (w : World) (lo : Nat) : RV w lo [] := ⟨fun r h => absurd h (by simp), List.Pairwise.nil⟩
theorem RV.perm {w : World} {lo : Nat} {rs rs' : List (Value × List Int)} (h : RV w lo rs) (hp : rs'.Perm rs) : RV w lo rs' :=
  ⟨fun r hr => h.own r (hp.mem_iff.1 hr), (hp.pairwise_iff (fun hxy g h1 h2 => hxy g h2 h1)).2 h.apart⟩
theorem RV.step {w w' : World} {lo : Nat} {rs : List (Value × List Int)} (h : RV w lo rs) (b : Below w.heap.size w w') : RV w' lo rs := ⟨fun r hr => OI.step (h.own r hr) b, h.apart⟩
theorem RV.snoc {w : World} {lo mid : Nat} {rs : List (Value × List Int)} {u : Value} {p : List Int} (h : RV w lo rs) (hb : ∀ r ∈ rs, ∀ g, r.1.ownBlock = some g → g < mid) (hu : OI w mid u p) (hlo : lo ≤ mid) : RV w lo (rs ++ [(u, p)]) := by
  refine ⟨fun r hr => ?_, ?_⟩
  · rcases List.mem_append.1 hr with hr | hr
    · exact h.own r hr
    · rw [List.mem_singleton.1 hr]; exact OI.mono hu hlo
  · rw [List.pairwise_append]
    refine ⟨h.apart, by simp, fun x hx y hy g h1 h2 => ?_⟩
    rw [List.mem_singleton.1 hy] at h2
    have a := hb x hx g h1
    have b := (hu.lt g h2).1
    omega
theorem getD_map {α β : Type} {f : α → β} {l : List α} {k : Nat} {d : β} {d' : α} (h : k < l.length) : (l.map f).getD k d = f (l.getD k d') := by simp [h]
theorem RV.toOII {w : World} {lo : Nat} {v : Value} {rs : List (Value × List Int)} (h : RV w lo rs) (ho : w.ownsRow lo 27 1 v rs.length (rs.map Prod.fst)) : OII w lo v (rs.map Prod.snd) := by
  refine ⟨rs.map Prod.fst, by rw [List.length_map]; exact ho, by simp, fun k hk => ?_, fun i j hij hj g => ?_⟩
  · rw [List.length_map] at hk
    rw [getD_map (d' := (undef, [])) hk, getD_map (d' := (undef, [])) hk]
    have hm : rs.getD k (undef, []) ∈ rs := by simp [List.getElem?_eq_getElem hk]
    have := h.own _ hm
    exact ⟨this, fun g hg => (this.lt g hg).2⟩
  · rw [List.length_map] at hj
    have hi : i < rs.length := by omega
    rw [getD_map (d' := (undef, [])) hi, getD_map (d' := (undef, [])) hj]
    have := List.pairwise_iff_getElem.1 h.apart i j hi hj hij g
    simpa [List.getElem?_eq_getElem hi, List.getElem?_eq_getElem hj] using this
/-- An outer row that reads. -/
theorem RV.reads {w : World} {lo lo2 : Nat} {v : Value} {rs : List (Value × List Int)} (h : RV w lo rs) (ho : w.ownsRow lo2 27 1 v rs.length (rs.map Prod.fst)) : RII w v (rs.map Prod.snd) := by
  by_cases h0 : 0 < rs.length
  · obtain ⟨g, c, rfl, _, hg, hc⟩ := own_cell ho h0
    refine ⟨_, c, by rw [List.length_map], by rw [List.length_map]; exact own_len ho, fun _ => ⟨g, 0, rfl, hg, fun k hk => ?_⟩⟩
    rw [List.length_map] at hk
    refine ⟨(rs.map Prod.fst).getD k undef, by rw [Nat.zero_add]; exact hc k hk, ?_⟩
    rw [getD_map (d' := (undef, [])) hk, getD_map (d' := (undef, [])) hk]
    exact OI.reads (h.own _ (by simp [List.getElem?_eq_getElem hk]))
  · obtain rfl : rs = [] := List.eq_nil_of_length_eq_zero (by omega)
    rcases ho.2 with ⟨rfl, _⟩ | ⟨g, cap, cur, rfl, _⟩
    · exact RII.nil _ _ _
    · exact RII.nil _ _ _

/-- A row put among the others, in the place of its list. -/
def putR (rs : List (Value × List Int)) (x : Value × List Int) : List (Value × List Int) := rs.take (putAt (rs.map Prod.snd) x.2) ++ [x] ++ rs.drop (putAt (rs.map Prod.snd) x.2)
theorem putR_perm (rs : List (Value × List Int)) (x : Value × List Int) : (putR rs x).Perm (rs ++ [x]) := by
  unfold putR
  have h : (List.take (putAt (rs.map Prod.snd) x.2) rs ++ List.drop (putAt (rs.map Prod.snd) x.2) rs ++ [x]).Perm (rs ++ [x]) := by rw [List.take_append_drop]
  refine List.Perm.trans ?_ h
  rw [List.append_assoc, List.append_assoc]
  exact List.Perm.append_left _ List.perm_append_comm
theorem putR_snd (rs : List (Value × List Int)) (x : Value × List Int) : (putR rs x).map Prod.snd = putL (rs.map Prod.snd) x.2 := by
  unfold putR putL
  simp [List.map_take, List.map_drop]
theorem putR_len (rs : List (Value × List Int)) (x : Value × List Int) : (putR rs x).length = rs.length + 1 := by rw [(putR_perm rs x).length_eq]; simp

set_option maxHeartbeats 1600000 in
set_option maxRecDepth 100000 in
theorem l03Put_any {w : World} {lo lo2 g n c : Nat} {u : Value} {rs : List (Value × List Int)} {p : List Int} (ho : w.ownsRow lo 27 1 (.slice (some ⟨g, 0, none⟩) n c) rs.length (rs.map Prod.fst)) (hn : rs.length = n) (hr : RV w lo2 rs) (hu : RI w u p)
    (hl : ∀ r ∈ rs, r.2.length = p.length) (hsz : n ≤ 1048576) :
    Calls Try.prog 128 #[.slice (some ⟨g, 0, none⟩) n c, u] w fun e w' => ∃ v', e = .returned v' ∧ w'.ownsRow w.heap.size 27 1 v' (putR rs (u, p)).length ((putR rs (u, p)).map Prod.fst) ∧ Below w.heap.size w w' := by
  subst hn
  have hg := ho.lt g rfl
  have hcell : ∀ k, k < rs.length → w.cell? ⟨g, k, none⟩ = some ((rs.getD k (undef, [])).1) ∧ RI w (rs.getD k (undef, [])).1 (rs.getD k (undef, [])).2 := fun k hk => by
    obtain ⟨g', c', hv, _, _, hc⟩ := own_cell ho (by omega)
    cases hv
    rw [hc k hk, getD_map (d' := (undef, [])) hk]
    exact ⟨rfl, OI.reads (hr.own _ (by simp [List.getElem?_eq_getElem hk]))⟩
  have hone : ∀ y ∈ rs.map Prod.fst, y.oneCell' = true := fun y hy => by
    obtain ⟨r, hr', rfl⟩ := List.mem_map.1 hy
    rcases (hr.own r hr').2 with ⟨hv, _⟩ | ⟨_, _, _, hv, _⟩ <;> rw [hv] <;> rfl
  have hc1 : rs.length ≤ c := by
    rcases ho.2 with ⟨hv, _⟩ | ⟨g', cap, cur, hv, _, _, hnc, _⟩
    · cases hv
    · cases hv; exact hnc
  have hc2 : c ≤ 9223372036854775807 := by
    rcases ho.2 with ⟨hv, _⟩ | ⟨g', cap, cur, hv, _, _, _, hnc, _⟩
    · cases hv
    · cases hv; unfold maxLen at hnc; omega
  obtain ⟨n, hn⟩ : ∃ n, n = rs.length := ⟨_, rfl⟩
  rw [← hn] at hcell hc1 hsz ⊢
  have HL := Lib.hid hn
  have HC := Lib.hid hcell
  have HO := Lib.hid hone
  have HLE := Lib.hid hl
  have HU := Lib.hid hu
  obtain ⟨B, d, rfl⟩ := hu.shape
  have hglt := hg.2
  clear ho hr hcell hone hn hl hu hg
  go_enter Try.func128, Try.ntmps128
  go_wp2_with fail
  go_loop [5] (fun i => ∃ k : Nat, k ≤ n ∧ i = .int .i64 k ∧ Hid (∀ i, i < k → ltL ((rs.map Prod.snd).getD i []) p = true)) (fun i => n - (intOf i).toNat)
  case atStart => exact ⟨0, Nat.zero_le _, rfl, fun i h => absurd h (by omega)⟩
  case round =>
    obtain ⟨k, hk, rfl, HK⟩ := hrel
    by_cases hlt : k < n
    · obtain ⟨hc, hri⟩ := HC.out k hlt
      have hkl : k < rs.length := by have := HL.out; omega
      have hgd : (rs.map Prod.snd).getD k [] = (rs.getD k (undef, [])).2 := getD_map (d' := (undef, [])) hkl
      have hll := HLE.out (rs.getD k (undef, [])) (by simp [List.getElem?_eq_getElem hkl])
      obtain ⟨q, hq⟩ : ∃ q, q = (rs.getD k (undef, [])).2 := ⟨_, rfl⟩
      obtain ⟨uu, huu⟩ : ∃ uu, uu = (rs.getD k (undef, [])).1 := ⟨_, rfl⟩
      rw [← hq] at hri hgd hll
      rw [← huu] at hri hc
      have HGD := Lib.hid hgd
      obtain ⟨A1, c1, rfl⟩ := hri.shape
      rw [hll] at hri hc
      have HQ := Lib.hid hri
      have HLL := Lib.hid hll
      clear hkl hgd hri hq huu hll
      cases hlq : ltL q p with
      | true =>
        have HLT := Lib.hid hlq
        clear hlq
        go_wp2_with fail
        refine (l03Less_any HQ.out HU.out HLL.out).mono ?_
        rw [HLT.out]
        rintro e w' ⟨rfl, rfl⟩
        go_wp2_with fail
        go_round
        case rel => exact ⟨k + 1, by omega, by go_num, fun i hi => by
          rcases Nat.lt_or_ge i k with h | h
          · exact HK.out i h
          · obtain rfl : i = k := by omega
            rw [HGD.out]; exact HLT.out⟩
        case measure => simp [intOf]; omega
      | false =>
        have HLT := Lib.hid hlq
        clear hlq
        go_wp2_with fail
        refine (l03Less_any HQ.out HU.out HLL.out).mono ?_
        rw [HLT.out]
        rintro e w' ⟨rfl, rfl⟩
        clear hc
        have HPA : Hid (putR rs (Value.slice B p.length d, p) = rs.take k ++ [(Value.slice B p.length d, p)] ++ rs.drop k) := by
          unfold Hid putR
          rw [putAt_lt HK.out (by rw [List.length_map]; have := HL.out; omega) (fun _ => by rw [HGD.out]; exact HLT.out)]
        have hlit := World.ownsRow_lit (base := w.heap.size) (e := 27) (size := 1) w #[] 0 (Nat.le_refl _) (by simp) rfl
        have HLIT := Lib.hid hlit
        have HB0 := Lib.hid ((Below.refl w.heap.size w).alloc (Nat.le_refl _) (.cells #[] 27))
        have HT1 : Hid (k = ((rs.map Prod.fst).take k).length) := by rw [Hid, List.length_take, List.length_map]; have := HL.out; omega
        have HT2 : Hid (n - k = ((rs.map Prod.fst).drop k).length) := by rw [Hid, List.length_drop, List.length_map]; have := HL.out; omega
        have HR1 : Hid (∀ i, i < k → w.cell? ⟨g, 0 + i, none⟩ = some (((rs.map Prod.fst).take k).getD i undef)) := fun i hi => by
          rw [Nat.zero_add, (HC.out i (by omega)).1]
          have : i < rs.length := by have := HL.out; omega
          simp [List.getElem?_take_of_lt hi, this]
        have HR2 : Hid (∀ i, i < n - k → w.cell? ⟨g, k + i, none⟩ = some (((rs.map Prod.fst).drop k).getD i undef)) := fun i hi => by
          rw [(HC.out (k + i) (by omega)).1]
          have : k + i < rs.length := by have := HL.out; omega
          simp [List.getElem?_drop, this]
        clear hlit
        go_wp2_with (first | (at_builtin; refine wpList_appVals _ rfl (.tmp 21) (.tmp 24) rfl w.heap.size _ 0 [] ((rs.map Prod.fst).take k) rfl rfl HT1.out (fun i hi => (HB0.out.cell (p := ⟨g, 0 + i, none⟩) hglt).trans (HR1.out i hi)) (fun y hy => HO.out y (List.mem_of_mem_take hy)) HLIT.out (by omega) (by simp) ?_; intro v1 w1 ho1 hb1 _hg1; rw [Nat.zero_add] at ho1; obtain ⟨A1, c1, rfl⟩ := own_shape ho1; have HO1 := Lib.hid ho1; have HB1 := Lib.hid (HB0.out.trans hb1); clear ho1 hb1 _hg1) | (at_builtin; refine wpList_app1 _ rfl (.tmp 26) (.tmp 28) 22 27 (.slice none 0 0) 24 rfl Try.underlying22 intS_info rfl w.heap.size _ k ([] ++ (rs.map Prod.fst).take k) (Value.slice B p.length d) rfl rfl (by simp) rfl HO1.out (by omega) (by omega) HB1.out.size ?_; intro v2 w2 ho2 hb2 _hg2; obtain ⟨A2, c2, rfl⟩ := own_shape ho2; have HO2 := Lib.hid ho2; have HB2 := Lib.hid (HB1.out.trans hb2); clear ho2 hb2 _hg2) | (at_builtin; refine wpList_appVals _ rfl (.tmp 30) (.tmp 33) rfl w.heap.size _ (k + 1) ([] ++ (rs.map Prod.fst).take k ++ [Value.slice B p.length d]) ((rs.map Prod.fst).drop k) rfl rfl HT2.out (fun i hi => (HB2.out.cell (p := ⟨g, k + i, none⟩) hglt).trans (HR2.out i hi)) (fun y hy => HO.out y (List.mem_of_mem_drop hy)) HO2.out (by omega) HB2.out.size ?_; intro v3 w3 ho3 hb3 _hg3; obtain ⟨A3, c3, rfl⟩ := own_shape ho3; have HO3 := Lib.hid ho3; have HB3 := Lib.hid (HB2.out.trans hb3); clear ho3 hb3 _hg3))
        go_ret
        refine ⟨_, rfl, ?_, HB3.out⟩
        have hfin := HO3.out
        have e : (putR rs (Value.slice B p.length d, p)).map Prod.fst = [] ++ (rs.map Prod.fst).take k ++ [Value.slice B p.length d] ++ (rs.map Prod.fst).drop k := by
          rw [HPA.out]; simp [List.map_take, List.map_drop]
        have e2 : (putR rs (Value.slice B p.length d, p)).length = k + 1 + (n - k) := by rw [putR_len]; have := HL.out; omega
        rw [e, e2]
        exact hfin
    · obtain rfl : n = k := by omega
      have HPA : Hid (putR rs (Value.slice B p.length d, p) = rs.take n ++ [(Value.slice B p.length d, p)] ++ rs.drop n) := by
        unfold Hid putR
        rw [putAt_lt HK.out (by rw [List.length_map]; have := HL.out; omega) (fun h => absurd h (by rw [List.length_map]; have := HL.out; omega))]
      have hlit := World.ownsRow_lit (base := w.heap.size) (e := 27) (size := 1) w #[] 0 (Nat.le_refl _) (by simp) rfl
      have HLIT := Lib.hid hlit
      have HB0 := Lib.hid ((Below.refl w.heap.size w).alloc (Nat.le_refl _) (.cells #[] 27))
      have HT1 : Hid (n = ((rs.map Prod.fst).take n).length) := by rw [Hid, List.length_take, List.length_map]; have := HL.out; omega
      have HT2 : Hid (0 = ((rs.map Prod.fst).drop n).length) := by rw [Hid, List.length_drop, List.length_map]; have := HL.out; omega
      have HR1 : Hid (∀ i, i < n → w.cell? ⟨g, 0 + i, none⟩ = some (((rs.map Prod.fst).take n).getD i undef)) := fun i hi => by
        rw [Nat.zero_add, (HC.out i (by omega)).1]
        have : i < rs.length := by have := HL.out; omega
        simp [List.getElem?_take_of_lt hi, this]
      clear hlit
      by_cases hcn : c = n
      · obtain rfl := hcn.symm
        go_wp2_with (first | (at_builtin; refine wpList_appVals _ rfl (.tmp 21) (.tmp 24) rfl w.heap.size _ 0 [] ((rs.map Prod.fst).take n) rfl rfl HT1.out (fun i hi => (HB0.out.cell (p := ⟨g, 0 + i, none⟩) hglt).trans (HR1.out i hi)) (fun y hy => HO.out y (List.mem_of_mem_take hy)) HLIT.out (by omega) (by simp) ?_; intro v1 w1 ho1 hb1 _hg1; rw [Nat.zero_add] at ho1; obtain ⟨A1, c1, rfl⟩ := own_shape ho1; have HO1 := Lib.hid ho1; have HB1 := Lib.hid (HB0.out.trans hb1); clear ho1 hb1 _hg1) | (at_builtin; refine wpList_app1 _ rfl (.tmp 26) (.tmp 28) 22 27 (.slice none 0 0) 24 rfl Try.underlying22 intS_info rfl w.heap.size _ n ([] ++ (rs.map Prod.fst).take n) (Value.slice B p.length d) rfl rfl (by simp) rfl HO1.out (by omega) (by omega) HB1.out.size ?_; intro v2 w2 ho2 hb2 _hg2; obtain ⟨A2, c2, rfl⟩ := own_shape ho2; have HO2 := Lib.hid ho2; have HB2 := Lib.hid (HB1.out.trans hb2); clear ho2 hb2 _hg2) | (at_builtin; refine wpList_appVals _ rfl (.tmp 30) (.tmp 33) rfl w.heap.size _ (n + 1) ([] ++ (rs.map Prod.fst).take n ++ [Value.slice B p.length d]) ((rs.map Prod.fst).drop n) rfl rfl HT2.out (fun i hi => absurd hi (Nat.not_lt_zero i)) (fun y hy => HO.out y (List.mem_of_mem_drop hy)) HO2.out (by omega) HB2.out.size ?_; intro v3 w3 ho3 hb3 _hg3; obtain ⟨A3, c3, rfl⟩ := own_shape ho3; have HO3 := Lib.hid ho3; have HB3 := Lib.hid (HB2.out.trans hb3); clear ho3 hb3 _hg3))
        go_ret
        refine ⟨_, rfl, ?_, HB3.out⟩
        have hfin := HO3.out
        have e : (putR rs (Value.slice B p.length d, p)).map Prod.fst = [] ++ (rs.map Prod.fst).take n ++ [Value.slice B p.length d] ++ (rs.map Prod.fst).drop n := by
          rw [HPA.out]; simp [List.map_take, List.map_drop]
        have e2 : (putR rs (Value.slice B p.length d, p)).length = n + 1 + (0) := by rw [putR_len]; have := HL.out; omega
        rw [e, e2]
        exact hfin
      · have hcn2 : ¬ n = c := fun h => hcn h.symm
        go_wp2_with (first | (at_builtin; refine wpList_appVals _ rfl (.tmp 21) (.tmp 24) rfl w.heap.size _ 0 [] ((rs.map Prod.fst).take n) rfl rfl HT1.out (fun i hi => (HB0.out.cell (p := ⟨g, 0 + i, none⟩) hglt).trans (HR1.out i hi)) (fun y hy => HO.out y (List.mem_of_mem_take hy)) HLIT.out (by omega) (by simp) ?_; intro v1 w1 ho1 hb1 _hg1; rw [Nat.zero_add] at ho1; obtain ⟨A1, c1, rfl⟩ := own_shape ho1; have HO1 := Lib.hid ho1; have HB1 := Lib.hid (HB0.out.trans hb1); clear ho1 hb1 _hg1) | (at_builtin; refine wpList_app1 _ rfl (.tmp 26) (.tmp 28) 22 27 (.slice none 0 0) 24 rfl Try.underlying22 intS_info rfl w.heap.size _ n ([] ++ (rs.map Prod.fst).take n) (Value.slice B p.length d) rfl rfl (by simp) rfl HO1.out (by omega) (by omega) HB1.out.size ?_; intro v2 w2 ho2 hb2 _hg2; obtain ⟨A2, c2, rfl⟩ := own_shape ho2; have HO2 := Lib.hid ho2; have HB2 := Lib.hid (HB1.out.trans hb2); clear ho2 hb2 _hg2) | (at_builtin; refine wpList_appVals _ rfl (.tmp 30) (.tmp 33) rfl w.heap.size _ (n + 1) ([] ++ (rs.map Prod.fst).take n ++ [Value.slice B p.length d]) ((rs.map Prod.fst).drop n) rfl rfl HT2.out (fun i hi => absurd hi (Nat.not_lt_zero i)) (fun y hy => HO.out y (List.mem_of_mem_drop hy)) HO2.out (by omega) HB2.out.size ?_; intro v3 w3 ho3 hb3 _hg3; obtain ⟨A3, c3, rfl⟩ := own_shape ho3; have HO3 := Lib.hid ho3; have HB3 := Lib.hid (HB2.out.trans hb3); clear ho3 hb3 _hg3))
        go_ret
        refine ⟨_, rfl, ?_, HB3.out⟩
        have hfin := HO3.out
        have e : (putR rs (Value.slice B p.length d, p)).map Prod.fst = [] ++ (rs.map Prod.fst).take n ++ [Value.slice B p.length d] ++ (rs.map Prod.fst).drop n := by
          rw [HPA.out]; simp [List.map_take, List.map_drop]
        have e2 : (putR rs (Value.slice B p.length d, p)).length = n + 1 + (0) := by rw [putR_len]; have := HL.out; omega
        rw [e, e2]
        exact hfin
end Go.Proofs.Ytfanohebejemmaa
