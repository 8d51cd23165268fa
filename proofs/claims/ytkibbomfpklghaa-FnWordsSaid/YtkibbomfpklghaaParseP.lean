/-
  ParsePerm, of the program and of the reference.
-/
import Derived.Test.YtkibbomfpklghaaSplit
import Derived.Test.YtkibbomfpklghaaFmtP
import Derived.Test.YtkibbomfpklghaaParseS
import Derived.Test.YtkibbomfpklghaaMem2
namespace Go.Proofs.Ytkibbomfpklghaa
open Go.RowKit Go.Deep

theorem extract_list (s : ByteArray) (a b : Nat) : (s.extract a b).data.toList = (s.data.toList.take b).drop a := by
  rw [ByteArray.data_extract, Array.toList_extract, List.extract_eq_take_drop, List.drop_take]
theorem joinB_list (l : List ByteArray) (sep : ByteArray) : (joinB l sep).data.toList = Lib.join (l.map (·.data.toList)) sep.data.toList := by
  unfold joinB; simp
theorem joinL_last (l : List (List UInt8)) (x y sep : List UInt8) : Lib.join (l ++ [x ++ y]) sep = Lib.join (l ++ [x]) sep ++ y := by
  cases l with
  | nil => simp [Lib.join_one]
  | cons z l => simp [Lib.join_cons, joinTail_snoc]
theorem joinL_snoc (l : List (List UInt8)) (x sep : List UInt8) (h : l ≠ []) : Lib.join (l ++ [x]) sep = Lib.join l sep ++ sep ++ x := by
  cases l with
  | nil => exact absurd rfl h
  | cons y l => simp [Lib.join_cons, joinTail_snoc]
theorem take_succL {l : List UInt8} {k : Nat} (h : k < l.length) : l.take (k + 1) = l.take k ++ [l[k]] := by
  rw [List.take_add_one, List.getElem?_eq_getElem h]; rfl
/-- The parts, joined again. -/
theorem join_splitTo {s sep : ByteArray} {c : UInt8} (hc : sep.data.toList = [c]) : ∀ k, k ≤ s.size → Lib.join ((splitTo s sep k).1.map (·.data.toList) ++ [(s.extract (splitTo s sep k).2 k).data.toList]) [c] = s.data.toList.take k := by
  intro k
  induction k with
  | zero => intro _; simp [splitTo, Lib.join_one]
  | succ k ih =>
    intro hk
    have h0 := ih (by omega)
    have hkl : k < s.data.toList.length := by rw [bytes_size]; omega
    have hle := (splitTo_le s sep k).1
    cases h : cutAt s sep k with
    | true =>
      rw [splitTo_yes h]
      have hm : s.data.toList[k] = c := by
        have h1 : (bts s).getD k 0 ∈ bts sep := of_decide_eq_true h
        rw [bts_at (by omega), mem_bts, hc, List.mem_singleton] at h1
        exact h1
      rw [List.map_append, List.map_cons, List.map_nil, joinL_snoc _ _ _ (by simp), h0, take_succL hkl, hm, extract_list]
      simp
    | false =>
      rw [splitTo_no h]
      have e : (s.extract (splitTo s sep k).2 (k + 1)).data.toList = (s.extract (splitTo s sep k).2 k).data.toList ++ [s.data.toList[k]] := by
        rw [extract_list, extract_list, take_succL hkl, List.drop_append_of_le_length (by rw [List.length_take]; omega)]
      rw [e, joinL_last, h0, take_succL hkl]
theorem join_split {s sep : ByteArray} {c : UInt8} (hc : sep.data.toList = [c]) : joinB (splitAny s sep) sep = s := by
  apply ByteArray.ext
  apply Array.toList_inj.1
  rw [joinB_list, splitAny, List.map_append, hc]
  have h := join_splitTo (s := s) (sep := sep) hc s.size (Nat.le_refl _)
  rw [List.take_of_length_le (by rw [bytes_size]; exact Nat.le_refl _)] at h
  exact h
theorem extract_size_le (s : ByteArray) (a b : Nat) : (s.extract a b).size ≤ s.size := by
  rw [← bytes_size, extract_list, ← bytes_size, List.length_drop, List.length_take]; omega
theorem splitTo_part (s sep : ByteArray) (k : Nat) : ∀ x ∈ (splitTo s sep k).1, x.size ≤ s.size := by
  induction k with
  | zero => intro x hx; simp [splitTo] at hx
  | succ k ih =>
    cases h : cutAt s sep k with
    | true =>
      rw [splitTo_yes h]
      intro x hx
      rcases List.mem_append.1 hx with hx | hx
      · exact ih x hx
      · rw [List.mem_singleton.1 hx]; exact extract_size_le _ _ _
    | false => rw [splitTo_no h]; exact ih
theorem splitAny_part (s sep : ByteArray) : ∀ x ∈ splitAny s sep, x.size ≤ s.size := by
  intro x hx
  rcases List.mem_append.1 hx with hx | hx
  · exact splitTo_part s sep _ x hx
  · rw [List.mem_singleton.1 hx]; exact extract_size_le _ _ _

noncomputable def vals (ws : List ByteArray) : List Int := ws.map fun w => (parseInt w).1
def AllOk (ws : List ByteArray) : Prop := ∀ w ∈ ws, (parseInt w).2 = true
open Classical in
noncomputable def readP (t : ByteArray) : List Int × Bool := if AllOk (splitAny t commaB) then (vals (splitAny t commaB), true) else ([], false)
open Classical in
noncomputable def parsePerm (t : ByteArray) : List Int × Bool := if AllOk (splitAny t commaB) ∧ permOk (vals (splitAny t commaB)) = true then (vals (splitAny t commaB), true) else ([], false)
theorem readP_yes {t : ByteArray} (h : AllOk (splitAny t commaB)) : readP t = (vals (splitAny t commaB), true) := by unfold readP; rw [if_pos h]
theorem readP_no {t : ByteArray} (h : ¬ AllOk (splitAny t commaB)) : readP t = ([], false) := by unfold readP; rw [if_neg h]
theorem parsePerm_yes {t : ByteArray} (h : AllOk (splitAny t commaB)) (hp : permOk (vals (splitAny t commaB)) = true) : parsePerm t = (vals (splitAny t commaB), true) := by unfold parsePerm; rw [if_pos ⟨h, hp⟩]
theorem parsePerm_bad {t : ByteArray} (h : ¬ AllOk (splitAny t commaB)) : parsePerm t = ([], false) := by unfold parsePerm; rw [if_neg fun h' => h h'.1]
theorem parsePerm_no {t : ByteArray} (hp : permOk (vals (splitAny t commaB)) = false) : parsePerm t = ([], false) := by unfold parsePerm; rw [if_neg fun h' => by rw [hp] at h'; exact absurd h'.2 (by simp)]
theorem parsePerm_len (t : ByteArray) : (parsePerm t).1.length ≤ 10 := by
  unfold parsePerm
  split
  · rename_i h; exact (permOk_le h.2).2
  · simp
theorem parse_fmt {s : ByteArray} (h : (parseInt s).2 = true) : fmt (parseInt s).1 = s := by
  unfold parseInt at h ⊢
  split
  · rename_i hx; exact hx.choose_spec.2
  · rename_i hx; rw [dif_neg hx] at h; cases h
theorem vals_fmt {ws : List ByteArray} (h : AllOk ws) : (vals ws).map fmt = ws := by
  unfold vals
  rw [List.map_map]
  conv => rhs; rw [← List.map_id ws]
  exact List.map_congr_left fun w hw => parse_fmt (h w hw)
theorem text_back {t : ByteArray} (h : AllOk (splitAny t commaB)) : joinInts (vals (splitAny t commaB)) = t := by
  unfold joinInts
  rw [vals_fmt h]
  exact join_split (c := 44) rfl
theorem vals_len (ws : List ByteArray) : (vals ws).length = ws.length := by simp [vals]
theorem vals_snoc {ws : List ByteArray} {k : Nat} (hk : k < ws.length) : vals (ws.take (k + 1)) = vals (ws.take k) ++ [(parseInt (ws.getD k ByteArray.empty)).1] := by
  rw [takeB_succ hk]; simp [vals]

set_option maxHeartbeats 3200000 in
set_option maxRecDepth 100000 in
theorem implParsePerm_any {w : World} (t : ByteArray) (hs : t.size ≤ 1048576) :
    Calls Try.prog 30 #[.string t] w fun e w' => ∃ v, e = .returned (.tuple #[v, .bool (parsePerm t).2]) ∧ OI w' w.heap.size v (parsePerm t).1 ∧ Below w.heap.size w w' := by
  obtain ⟨ws, hws⟩ : ∃ ws, ws = splitAny t commaB := ⟨_, rfl⟩
  have hwl := splitAny_len t commaB
  have hpart := splitAny_part t commaB
  rw [← hws] at hwl hpart
  obtain ⟨n, hn⟩ : ∃ n, n = ws.length := ⟨_, rfl⟩
  have hl : n ≤ 1048577 := by omega
  have HL := Lib.hid hn
  have HP := Lib.hid hpart
  have HW := Lib.hid hws
  have HSP : Hid (∀ {w1 : World}, Calls Try.prog 36 #[.string t, .string ⟨#[44]⟩] w1 fun e w' => ∃ v, e = .returned v ∧ OSS w' w1.heap.size v ws ∧ Below w1.heap.size w1 w') := by
    intro w1; rw [hws]; exact implSplitAny_any t commaB hs
  clear hwl hpart hws hn
  go_enter Try.func30, Try.ntmps30
  go_wp2_with fail
  have HLT : Hid (OI (w.alloc (.cells #[] 3)) w.heap.size (.slice (some ⟨w.heap.size, 0, none⟩) 0 0) [] ∧ Below w.heap.size w (w.alloc (.cells #[] 3))) := ⟨World.ownsRow_lit w #[] 0 (Nat.le_refl _) (by simp) rfl, (Below.refl _ _).alloc (Nat.le_refl _) _⟩
  refine HSP.out.mono ?_
  rintro e w1 ⟨vw, rfl, o, b⟩
  have HO : Hid (OSS w1 w.heap.size vw ws) := OSS.mono o (by simp)
  have H0 : Hid (OI w1 w.heap.size (.slice (some ⟨w.heap.size, 0, none⟩) 0 0) (vals (ws.take 0)) ∧ Below w.heap.size w w1) := ⟨OI.step HLT.out.1 b, bstep HLT.out.2 b⟩
  obtain ⟨Aw, cw, rfl⟩ := o.reads.shape
  rw [← HL.out] at HO ⊢
  clear o b
  go_wp2_with fail
  go_loopw [4, 13] (fun v i wr => ∃ k : Nat, k ≤ n ∧ i = .int .i64 k ∧ Hid (∀ x ∈ ws.take k, (parseInt x).2 = true) ∧ Hid (OI wr w.heap.size v (vals (ws.take k)) ∧ Below w.heap.size w wr ∧ OSS wr w.heap.size (.slice Aw n cw) ws)) (fun _ i _ => n - (intOf i).toNat)
  case atStart => exact ⟨0, Nat.zero_le _, rfl, fun x h => absurd h (by simp), H0.out.1, H0.out.2, HO.out⟩
  case round =>
    obtain ⟨k, hk, rfl, HK, HR⟩ := hrel
    obtain ⟨done, hdone⟩ : ∃ done, done = vals (ws.take k) := ⟨_, rfl⟩
    have hdl : done.length = k := by rw [hdone, vals_len, List.length_take]; have := HL.out; omega
    rw [← hdone] at HR
    obtain ⟨A4, c4, rfl, -⟩ := OI.form HR.out.1
    rw [hdl] at HR ⊢
    have HDL := Lib.hid hdl
    by_cases hlt : k < n
    · have hkl : k < ws.length := by have := HL.out; omega
      obtain ⟨Aq, cq, hvq, hgq⟩ := OSS.form HR.out.2.2
      obtain ⟨gw, hgw, -⟩ := hgq (by have := HL.out; omega)
      simp only [Value.slice.injEq] at hvq
      obtain ⟨rfl, -, rfl⟩ := hvq
      subst hgw
      have e1 := OSS.cell HR.out.2.2 HL.out.symm k hlt
      have hxm : ws.getD k ByteArray.empty ∈ ws := by simp [List.getElem?_eq_getElem hkl]
      have hxs := HP.out _ hxm
      have hvs := vals_snoc hkl
      have htk := takeB_succ hkl
      obtain ⟨x, hx⟩ : ∃ x, x = ws.getD k ByteArray.empty := ⟨_, rfl⟩
      rw [← hx] at e1 hxm hxs hvs htk
      rw [← hdone] at hvs
      obtain ⟨y, ok, hy⟩ : ∃ y ok, parseInt x = (y, ok) := ⟨_, _, rfl⟩
      have HY := Lib.hid hy
      have hxm2 : x.size ≤ maxLen := by unfold maxLen; omega
      cases ok with
      | false =>
        have HC : Hid (parsePerm t = ([], false)) := parsePerm_bad fun h => by
          have := h x (by rw [← HW.out]; exact hxm)
          rw [hy] at this; cases this
        clear hgq hkl hxm hxs hvs htk hx hy hdone hdl
        go_wp2_with fail
        refine (implParseInt_any x hxm2).mono ?_
        rw [HY.out]
        rintro e w3 ⟨rfl, b⟩
        have HB := Lib.hid (bstep HR.out.2.1 b)
        clear b
        go_wp2_with fail
        go_ret2
        exact ⟨_, ret2 (by rw [HC.out]), by rw [HC.out]; exact World.ownsRow_nil _ _ _ _, HB.out⟩
      | true =>
        rw [hy] at hvs
        have HVS := Lib.hid hvs
        have HK2 : Hid (∀ z ∈ ws.take (k + 1), (parseInt z).2 = true) := fun z hz => by
          rw [htk] at hz
          rcases List.mem_append.1 hz with hz | hz
          · exact HK.out z hz
          · rw [List.mem_singleton.1 hz, hy]
        clear hgq hkl hxm hxs hvs htk hx hy hdone hdl
        go_wp2_with fail
        refine (implParseInt_any x hxm2).mono ?_
        rw [HY.out]
        rintro e w3 ⟨rfl, b⟩
        have HB := Lib.hid (And.intro (OI.step HR.out.1 b) (And.intro (bstep HR.out.2.1 b) (OSS.step HR.out.2.2 b)))
        clear b e1
        go_wp2_with (at_builtin; refine wpList_appInt _ rfl (.tmp 24) (.tmp 26) rfl w.heap.size _ done y rfl rfl rfl HB.out.1 (by have := HDL.out; omega) HB.out.2.1.size ?_; intro v5 w5 ho hb hgr)
        have HN : Hid (OI w5 w.heap.size v5 (vals (ws.take (k + 1))) ∧ Below w.heap.size w w5 ∧ OSS w5 w.heap.size (.slice (some ⟨gw, 0, none⟩) n cw) ws) :=
          ⟨by rw [HVS.out]; exact ho, HB.out.2.1.trans hb, own_reblock HB.out.2.2 fun g hg => hgr.block g (HB.out.2.2.lt g hg).2 fun e => own_ne HB.out.1 HB.out.2.2 (by decide) e.symm hg⟩
        clear ho hb hgr
        go_wp2_with fail
        go_roundw
        case rel => exact ⟨k + 1, by omega, by go_num, HK2.out, HN.out⟩
        case measure => simp [intOf]; omega
    · have hde : ws.take k = ws := List.take_of_length_le (by have := HL.out; omega)
      rw [hde] at hdone HK
      have HALL : Hid (AllOk (splitAny t commaB)) := by rw [Hid, ← HW.out]; exact HK.out
      have HDE : Hid (done = vals (splitAny t commaB)) := by rw [Hid, hdone, HW.out]
      clear hde hdone hdl
      have HRD : Hid (RI wr (.slice A4 k c4) done) := HR.out.1.reads
      cases hp : permOk done with
      | false =>
        have HC : Hid (parsePerm t = ([], false)) := parsePerm_no (by rw [← HDE.out]; exact hp)
        have HPP := Lib.hid hp
        clear hp
        go_wp2_with fail
        refine (implPermOk_any HRD.out).mono ?_
        rw [HPP.out]
        rintro e w3 ⟨rfl, b⟩
        have HB := Lib.hid (bstep HR.out.2.1 b)
        clear b
        go_wp2_with fail
        go_ret2
        exact ⟨_, ret2 (by rw [HC.out]), by rw [HC.out]; exact World.ownsRow_nil _ _ _ _, HB.out⟩
      | true =>
        have HC : Hid (parsePerm t = (done, true)) := by rw [Hid, parsePerm_yes HALL.out (by rw [← HDE.out]; exact hp), ← HDE.out]
        have HPP := Lib.hid hp
        clear hp
        go_wp2_with fail
        refine (implPermOk_any HRD.out).mono ?_
        rw [HPP.out]
        rintro e w3 ⟨rfl, b⟩
        have HB : Hid (OI w3 w.heap.size (.slice A4 k c4) done ∧ Below w.heap.size w w3) := ⟨OI.step HR.out.1 b, bstep HR.out.2.1 b⟩
        clear b
        go_wp2_with fail
        go_ret2
        exact ⟨_, ret2 (by rw [HC.out]), by rw [HC.out]; exact HB.out.1, HB.out.2⟩

set_option maxHeartbeats 3200000 in
set_option maxRecDepth 100000 in
theorem l02Read_any {w : World} (t : ByteArray) (hs : t.size ≤ 1048576) :
    Calls Try.prog 55 #[.string t] w fun e w' => ∃ v, e = .returned (.tuple #[v, .bool (readP t).2]) ∧ OI w' w.heap.size v (readP t).1 ∧ Below w.heap.size w w' := by
  obtain ⟨ws, hws⟩ : ∃ ws, ws = splitAny t commaB := ⟨_, rfl⟩
  have hwl := splitAny_len t commaB
  have hpart := splitAny_part t commaB
  rw [← hws] at hwl hpart
  obtain ⟨n, hn⟩ : ∃ n, n = ws.length := ⟨_, rfl⟩
  have hl : n ≤ 1048577 := by omega
  have HL := Lib.hid hn
  have HP := Lib.hid hpart
  have HW := Lib.hid hws
  have HSP : Hid (∀ {w1 : World}, Calls Try.prog 70 #[.string t, .string ⟨#[44]⟩] w1 fun e w' => ∃ v, e = .returned v ∧ OSS w' w1.heap.size v ws ∧ Below w1.heap.size w1 w') := by
    intro w1; rw [hws]; exact specSplitAny_any t commaB hs (by decide)
  clear hwl hpart hws hn
  go_enter Try.func55, Try.ntmps55
  go_wp2_with fail
  have HLT : Hid (OI (w.alloc (.cells #[] 3)) w.heap.size (.slice (some ⟨w.heap.size, 0, none⟩) 0 0) [] ∧ Below w.heap.size w (w.alloc (.cells #[] 3))) := ⟨World.ownsRow_lit w #[] 0 (Nat.le_refl _) (by simp) rfl, (Below.refl _ _).alloc (Nat.le_refl _) _⟩
  refine HSP.out.mono ?_
  rintro e w1 ⟨vw, rfl, o, b⟩
  have HO : Hid (OSS w1 w.heap.size vw ws) := OSS.mono o (by simp)
  have H0 : Hid (OI w1 w.heap.size (.slice (some ⟨w.heap.size, 0, none⟩) 0 0) (vals (ws.take 0)) ∧ Below w.heap.size w w1) := ⟨OI.step HLT.out.1 b, bstep HLT.out.2 b⟩
  obtain ⟨Aw, cw, rfl⟩ := o.reads.shape
  rw [← HL.out] at HO ⊢
  clear o b
  go_wp2_with fail
  go_loopw [4, 13] (fun v i wr => ∃ k : Nat, k ≤ n ∧ i = .int .i64 k ∧ Hid (∀ x ∈ ws.take k, (parseInt x).2 = true) ∧ Hid (OI wr w.heap.size v (vals (ws.take k)) ∧ Below w.heap.size w wr ∧ OSS wr w.heap.size (.slice Aw n cw) ws)) (fun _ i _ => n - (intOf i).toNat)
  case atStart => exact ⟨0, Nat.zero_le _, rfl, fun x h => absurd h (by simp), H0.out.1, H0.out.2, HO.out⟩
  case round =>
    obtain ⟨k, hk, rfl, HK, HR⟩ := hrel
    obtain ⟨done, hdone⟩ : ∃ done, done = vals (ws.take k) := ⟨_, rfl⟩
    have hdl : done.length = k := by rw [hdone, vals_len, List.length_take]; have := HL.out; omega
    rw [← hdone] at HR
    obtain ⟨A4, c4, rfl, -⟩ := OI.form HR.out.1
    rw [hdl] at HR ⊢
    have HDL := Lib.hid hdl
    by_cases hlt : k < n
    · have hkl : k < ws.length := by have := HL.out; omega
      obtain ⟨Aq, cq, hvq, hgq⟩ := OSS.form HR.out.2.2
      obtain ⟨gw, hgw, -⟩ := hgq (by have := HL.out; omega)
      simp only [Value.slice.injEq] at hvq
      obtain ⟨rfl, -, rfl⟩ := hvq
      subst hgw
      have e1 := OSS.cell HR.out.2.2 HL.out.symm k hlt
      have hxm : ws.getD k ByteArray.empty ∈ ws := by simp [List.getElem?_eq_getElem hkl]
      have hxs := HP.out _ hxm
      have hvs := vals_snoc hkl
      have htk := takeB_succ hkl
      obtain ⟨x, hx⟩ : ∃ x, x = ws.getD k ByteArray.empty := ⟨_, rfl⟩
      rw [← hx] at e1 hxm hxs hvs htk
      rw [← hdone] at hvs
      obtain ⟨y, ok, hy⟩ : ∃ y ok, parseInt x = (y, ok) := ⟨_, _, rfl⟩
      have HY := Lib.hid hy
      have hxm2 : x.size ≤ maxLen := by unfold maxLen; omega
      cases ok with
      | false =>
        have HC : Hid (readP t = ([], false)) := readP_no fun h => by
          have := h x (by rw [← HW.out]; exact hxm)
          rw [hy] at this; cases this
        clear hgq hkl hxm hxs hvs htk hx hy hdone hdl
        go_wp2_with fail
        refine (specParseInt_any x hxm2).mono ?_
        rw [HY.out]
        rintro e w3 ⟨rfl, b⟩
        have HB := Lib.hid (bstep HR.out.2.1 b)
        clear b
        go_wp2_with fail
        go_ret2
        exact ⟨_, ret2 (by rw [HC.out]), by rw [HC.out]; exact World.ownsRow_nil _ _ _ _, HB.out⟩
      | true =>
        rw [hy] at hvs
        have HVS := Lib.hid hvs
        have HK2 : Hid (∀ z ∈ ws.take (k + 1), (parseInt z).2 = true) := fun z hz => by
          rw [htk] at hz
          rcases List.mem_append.1 hz with hz | hz
          · exact HK.out z hz
          · rw [List.mem_singleton.1 hz, hy]
        clear hgq hkl hxm hxs hvs htk hx hy hdone hdl
        go_wp2_with fail
        refine (specParseInt_any x hxm2).mono ?_
        rw [HY.out]
        rintro e w3 ⟨rfl, b⟩
        have HB := Lib.hid (And.intro (OI.step HR.out.1 b) (And.intro (bstep HR.out.2.1 b) (OSS.step HR.out.2.2 b)))
        clear b e1
        go_wp2_with (at_builtin; refine wpList_appInt _ rfl (.tmp 24) (.tmp 26) rfl w.heap.size _ done y rfl rfl rfl HB.out.1 (by have := HDL.out; omega) HB.out.2.1.size ?_; intro v5 w5 ho hb hgr)
        have HN : Hid (OI w5 w.heap.size v5 (vals (ws.take (k + 1))) ∧ Below w.heap.size w w5 ∧ OSS w5 w.heap.size (.slice (some ⟨gw, 0, none⟩) n cw) ws) :=
          ⟨by rw [HVS.out]; exact ho, HB.out.2.1.trans hb, own_reblock HB.out.2.2 fun g hg => hgr.block g (HB.out.2.2.lt g hg).2 fun e => own_ne HB.out.1 HB.out.2.2 (by decide) e.symm hg⟩
        clear ho hb hgr
        go_wp2_with fail
        go_roundw
        case rel => exact ⟨k + 1, by omega, by go_num, HK2.out, HN.out⟩
        case measure => simp [intOf]; omega
    · have hde : ws.take k = ws := List.take_of_length_le (by have := HL.out; omega)
      rw [hde] at hdone HK
      have HALL : Hid (AllOk (splitAny t commaB)) := by rw [Hid, ← HW.out]; exact HK.out
      have HDE : Hid (done = vals (splitAny t commaB)) := by rw [Hid, hdone, HW.out]
      clear hde hdone hdl
      have HC : Hid (readP t = (done, true)) := by rw [Hid, readP_yes HALL.out, ← HDE.out]
      go_wp2_with fail
      go_ret2
      exact ⟨_, ret2 (by rw [HC.out]), by rw [HC.out]; exact HR.out.1, HR.out.2.1⟩

set_option maxHeartbeats 1600000 in
set_option maxRecDepth 100000 in
theorem specParsePerm_any {w : World} (t : ByteArray) (hs : t.size ≤ 1048576) :
    Calls Try.prog 29 #[.string t] w fun e w' => ∃ v, e = .returned (.tuple #[v, .bool (parsePerm t).2]) ∧ OI w' w.heap.size v (parsePerm t).1 ∧ Below w.heap.size w w' := by
  have hrd := @l02Read_any w t hs
  by_cases hall : AllOk (splitAny t commaB)
  · rw [readP_yes hall] at hrd
    have HRD := Lib.hid hrd
    obtain ⟨p, hp⟩ : ∃ p, p = vals (splitAny t commaB) := ⟨_, rfl⟩
    rw [← hp] at HRD
    have hbk : joinInts p = t := by rw [hp]; exact text_back hall
    cases hpk : permOk p with
    | false =>
      have HC : Hid (parsePerm t = ([], false)) := parsePerm_no (by rw [← hp]; exact hpk)
      have HPP := Lib.hid hpk
      clear hpk hrd hp hbk hall
      go_enter Try.func29, Try.ntmps29
      go_wp2_with fail
      refine HRD.out.mono ?_
      rintro e w1 ⟨v, rfl, o, b⟩
      have HO := Lib.hid (And.intro o b)
      obtain ⟨A, c, rfl, -⟩ := OI.form o
      clear o b
      go_wp2_with fail
      refine (specPermOk_any HO.out.1.reads).mono ?_
      rw [HPP.out]
      rintro e w2 ⟨rfl, b⟩
      have HB := Lib.hid (bstep HO.out.2 b)
      clear b
      go_wp2_with fail
      go_ret2
      exact ⟨_, ret2 (by rw [HC.out]), by rw [HC.out]; exact World.ownsRow_nil _ _ _ _, HB.out⟩
    | true =>
      have HC : Hid (parsePerm t = (p, true)) := by rw [Hid, parsePerm_yes hall (by rw [← hp]; exact hpk), ← hp]
      have HPP := Lib.hid hpk
      have hft : ((formatPerm p).toList == t.toList) = true := beq_bytes.2 (by rw [formatPerm_yes hpk, hbk])
      clear hpk hrd hp hbk hall
      go_enter Try.func29, Try.ntmps29
      go_wp2_with fail
      refine HRD.out.mono ?_
      rintro e w1 ⟨v, rfl, o, b⟩
      have HO := Lib.hid (And.intro o b)
      obtain ⟨A, c, rfl, -⟩ := OI.form o
      clear o b
      go_wp2_with fail
      refine (specPermOk_any HO.out.1.reads).mono ?_
      rw [HPP.out]
      rintro e w2 ⟨rfl, b⟩
      have HB := Lib.hid (And.intro (OI.step HO.out.1 b) (bstep HO.out.2 b))
      clear b
      go_wp2_with fail
      refine (specFormatPerm_any HB.out.1.reads).mono ?_
      rintro e w3 ⟨rfl, b⟩
      have HB3 := Lib.hid (And.intro (OI.step HB.out.1 b) (bstep HB.out.2 b))
      clear b
      go_wp2_with fail
      go_ret2
      exact ⟨_, ret2 (by rw [HC.out]), by rw [HC.out]; exact HB3.out.1, HB3.out.2⟩
  · rw [readP_no hall] at hrd
    have HRD := Lib.hid hrd
    have HC := Lib.hid (parsePerm_bad hall)
    clear hrd hall
    go_enter Try.func29, Try.ntmps29
    go_wp2_with fail
    refine HRD.out.mono ?_
    rintro e w1 ⟨v, rfl, o, b⟩
    have HO := Lib.hid b
    obtain ⟨A, c, rfl, -⟩ := OI.form o
    clear o b
    go_wp2_with fail
    go_ret2
    exact ⟨_, ret2 (by rw [HC.out]), by rw [HC.out]; exact World.ownsRow_nil _ _ _ _, HO.out⟩
end Go.Proofs.Ytkibbomfpklghaa
