/-
  The helpers of package laws over slices of slices of integers: equality, copy, size, marks.
-/
import Derived.Test.YtfanohebejemmaaMem2
import Derived.Test.YtfanohebejemmaaEq
namespace Go.Proofs.Ytfanohebejemmaa
open Go.RowKit Go.Deep

set_option maxHeartbeats 800000 in
theorem eqIntSS_same {w : World} {a b : Value} {xss : List (List Int)} (ha : RII w a xss) (hb : RII w b xss) :
    Calls Try.prog 19 #[a, b] w fun e w' => e = .returned (.bool true) ∧ Below w.heap.size w w' := by
  have hlx := ha.lenle
  obtain ⟨A, c, rfl, -, hx⟩ := ha
  obtain ⟨B, d, rfl, -, hy⟩ := hb
  obtain ⟨n, hn⟩ : ∃ n, n = xss.length := ⟨_, rfl⟩
  rw [← hn] at hx hy hlx ⊢
  have HX := Lib.hid hx
  have HY := Lib.hid hy
  clear hn hx hy
  have h0 : ((n : Int) != n) = false := by simp
  go_enter Try.func19, Try.ntmps19
  go_wp2
  go_loopw [5] (fun i wr => ∃ k : Nat, k ≤ n ∧ i = .int .i64 k ∧ Still w wr) (fun i _ => n - (intOf i).toNat)
  case atStart => exact ⟨0, Nat.zero_le _, rfl, Still.refl _⟩
  case round =>
    obtain ⟨k, hk, rfl, HS⟩ := hrel
    by_cases hlt : k < n
    · obtain ⟨b1, o1, rfl, hb1, hc1⟩ := HX.out (by omega)
      obtain ⟨b2, o2, rfl, hb2, hc2⟩ := HY.out (by omega)
      obtain ⟨u1, c1, r1⟩ := hc1 k hlt
      obtain ⟨u2, c2, r2⟩ := hc2 k hlt
      have R := Lib.hid (And.intro (RI.same r1 HS.heap) (RI.same r2 HS.heap))
      rw [← HS.cell] at c1 c2
      clear hc1 hc2 r1 r2
      go_wp2
      go_quiet ((go_at_call 23; refine Calls.quiet_of (eqIntS_quiet (RI.same R.out.1 rfl) (RI.same R.out.2 rfl))))
      go_wp2
      go_roundw
      case rel => exact ⟨k + 1, by omega, by go_num, HS.drewN _⟩
      case measure => simp [intOf]; omega
    · go_wp2
      go_ret
      exact ⟨rfl, HS.below⟩

/-- How many numbers. -/
def total (xss : List (List Int)) : Nat := (xss.map List.length).sum
theorem total_snoc (xss : List (List Int)) (ys : List Int) : total (xss ++ [ys]) = total xss + ys.length := by simp [total]
theorem total_le_of {xss : List (List Int)} {m : Nat} (h : ∀ x ∈ xss, x.length ≤ m) : total xss ≤ xss.length * m := by
  induction xss with
  | nil => simp [total]
  | cons x l ih =>
    have h1 := h x (by simp)
    have h2 := ih (fun y hy => h y (by simp [hy]))
    simp only [total, List.map_cons, List.sum_cons, List.length_cons, Nat.succ_mul] at *
    omega

theorem takeS_succ {xss : List (List Int)} {k : Nat} (hk : k < xss.length) : xss.take (k + 1) = xss.take k ++ [xss.getD k []] := by
  rw [List.take_add_one, List.getElem?_eq_getElem hk]; simp [hk]
theorem total_take_le (xss : List (List Int)) (k : Nat) : total (xss.take k) ≤ total xss := by
  have h : total xss = total (xss.take k) + total (xss.drop k) := by
    unfold total; rw [← List.sum_append, ← List.map_append, List.take_append_drop]
  omega

/-- The marks of a list of lists: k, k + 1, .. row by row; as far as row j. -/
def markTo (xss : List (List Int)) (k : Int) (j : Nat) : List (List Int) := (List.range xss.length).map fun i => if i < j then marks (xss.getD i []).length (k + (total (xss.take i) : Int)) else xss.getD i []
def markSS (xss : List (List Int)) (k : Int) : List (List Int) := markTo xss k xss.length
theorem markTo_len (xss : List (List Int)) (k : Int) (j : Nat) : (markTo xss k j).length = xss.length := by simp [markTo]
theorem markTo_zero (xss : List (List Int)) (k : Int) : markTo xss k 0 = xss := by
  apply List.ext_getElem
  · simp [markTo]
  · intro i h1 h2; simp [markTo, List.getElem?_eq_getElem h2]
theorem markTo_get {xss : List (List Int)} {k : Int} {j i : Nat} (_h : i < xss.length) (hj : j ≤ i) : (markTo xss k j).getD i [] = xss.getD i [] := by
  simp [markTo, _h, show ¬ i < j from by omega]
theorem markTo_done {xss : List (List Int)} {k : Int} {j i : Nat} (h : i < xss.length) (hj : i < j) : (markTo xss k j).getD i [] = marks (xss.getD i []).length (k + (total (xss.take i) : Int)) := by
  simp [markTo, h, hj]
theorem markTo_set {xss : List (List Int)} {k : Int} {j : Nat} (_h : j < xss.length) : (markTo xss k j).set j (marks (xss.getD j []).length (k + (total (xss.take j) : Int))) = markTo xss k (j + 1) := by
  apply List.ext_getElem
  · simp [markTo]
  · intro i h1 h2
    have hi : i < xss.length := by simpa [markTo] using h2
    rw [List.getElem_set]
    simp only [markTo, List.getElem_map, List.getElem_range]
    by_cases e : j = i
    · subst e; rw [if_pos rfl, if_pos (by omega)]
    · rw [if_neg e]
      by_cases hlt : i < j
      · rw [if_pos hlt, if_pos (by omega)]
      · rw [if_neg hlt, if_neg (by omega)]

set_option maxHeartbeats 800000 in
/-- 'markIntSS': the rows then hold k, k + 1, ..; blocks from lo up to hi alone may have turned. -/
theorem markIntSS_step {w : World} {lo hi : Nat} {a : Value} {xss : List (List Int)} (k : Int) (h : OIIh w lo hi a xss) (h0 : 0 ≤ k) (h1 : k ≤ 4294967296) (hx : total xss ≤ 4294967296) :
    Calls Try.prog 30 #[a, .int .i64 k] w fun e w' => e = .returned (.int .i64 (k + (total xss : Int))) ∧ OIIh w' lo hi a (markSS xss k) ∧ Turned lo hi w w' := by
  obtain ⟨A, c, rfl, hA⟩ := OIIh.form h
  have hlx := OIIh.lenle h
  unfold maxLen at hlx
  obtain ⟨n, hn⟩ : ∃ n, n = xss.length := ⟨_, rfl⟩
  rw [← hn] at hA hlx ⊢
  have HL := Lib.hid hn
  have HA := Lib.hid hA
  have H := Lib.hid h
  have HX := Lib.hid hx
  clear h hA hn hx
  go_enter Try.func30, Try.ntmps30
  go_wp2
  go_loopw [1, 5] (fun q i wr => ∃ j t : Nat, j ≤ n ∧ i = .int .i64 j ∧ q = .int .i64 (k + t) ∧ t ≤ 4294967296 ∧ Hid (t = total (xss.take j) ∧ OIIh wr lo hi (.slice A n c) (markTo xss k j) ∧ Turned lo hi w wr)) (fun _ i _ => n - (intOf i).toNat)
  case atStart => exact ⟨0, 0, Nat.zero_le _, rfl, by simp, by omega, rfl, by rw [markTo_zero, HL.out]; exact H.out, Turned.refl _ _ _⟩
  case round =>
    obtain ⟨j, t, hj, rfl, rfl, ht, HO⟩ := hrel
    by_cases hlt : j < n
    · have hjl : j < xss.length := by have := HL.out; omega
      obtain ⟨g, rfl, hg1, hg2⟩ := HA.out (by omega)
      obtain ⟨u, c1, ou, hu, hstep⟩ := HO.out.2.1.at (by rw [markTo_len, ← HL.out]) hlt
      rw [markTo_get hjl (Nat.le_refl _)] at ou
      have hts : total (xss.take (j + 1)) = total (xss.take j) + (xss.getD j []).length := by rw [takeS_succ hjl, total_snoc]
      have htl := total_take_le xss (j + 1)
      have hlen : t + (xss.getD j []).length ≤ 4294967296 := by have := HO.out.1; have := HX.out; omega
      have hbz : ∀ g', u.ownBlock = some g' → g' < hi := hu
      have HU := Lib.hid (And.intro ou (And.intro hu (And.intro hstep (And.intro hts hbz))))
      clear ou hu hstep hts hbz htl hjl
      go_wp2_with fail
      refine (markIntS_any (k + (t : Int)) HU.out.1 (by omega) (by omega) (by omega)).mono ?_
      rintro e w1 ⟨rfl, o1, g1, s1⟩
      have e1 : OIIh w1 lo hi (.slice (some ⟨g, 0, none⟩) n c) (markTo xss k (j + 1)) := by
        rw [← markTo_set (by have := HL.out; omega), ← HO.out.1]
        exact HU.out.2.2.1 w1 _ o1 g1
      have t1 : Turned lo hi w w1 := HO.out.2.2.trans (Turned.of_grown g1 s1 fun g' hg' => ⟨(HU.out.1.lt g' hg').1, HU.out.2.2.2.2 g' hg'⟩)
      have HN := Lib.hid (And.intro e1 t1)
      clear e1 t1 o1 g1 s1
      go_wp2
      go_roundw
      case rel => exact ⟨j + 1, t + (xss.getD j []).length, by omega, by go_num, by go_num, hlen, by rw [HU.out.2.2.2.1, HO.out.1], HN.out⟩
      case measure => simp [intOf]; omega
    · go_wp2
      go_ret
      have hL := HL.out
      obtain rfl : j = n := by omega
      have hO := HO.out
      rw [List.take_of_length_le (by omega)] at hO
      rw [← hO.1]
      exact ⟨rfl, by unfold markSS; rw [← hL]; exact hO.2.1, hO.2.2⟩

set_option maxHeartbeats 800000 in
theorem heldIntSS_step {w : World} {a : Value} {xss : List (List Int)} (k : Int) (h : RII w a (markSS xss k)) (h0 : 0 ≤ k) (h1 : k ≤ 4294967296) (hx : total xss ≤ 4294967296) :
    Calls Try.prog 31 #[a, .int .i64 k] w fun e w' => e = .returned (.int .i64 (k + (total xss : Int))) ∧ Below w.heap.size w w' := by
  have hlx := h.lenle
  obtain ⟨A, c, rfl, -, hA⟩ := h
  obtain ⟨n, hn⟩ : ∃ n, n = xss.length := ⟨_, rfl⟩
  unfold markSS at hA hlx ⊢
  rw [markTo_len] at hA hlx ⊢
  rw [← hn] at hA hlx ⊢
  have HL := Lib.hid hn
  have HA := Lib.hid hA
  have HX := Lib.hid hx
  clear hA hn hx
  go_enter Try.func31, Try.ntmps31
  go_wp2
  go_loop [1, 5] (fun q i => ∃ j t : Nat, j ≤ n ∧ i = .int .i64 j ∧ q = .int .i64 (k + t) ∧ t ≤ 4294967296 ∧ Hid (t = total (xss.take j))) (fun _ i => n - (intOf i).toNat)
  case atStart => exact ⟨0, 0, Nat.zero_le _, rfl, by simp, by omega, rfl⟩
  case round =>
    obtain ⟨j, t, hj, rfl, rfl, ht, HO⟩ := hrel
    by_cases hlt : j < n
    · have hjl : j < xss.length := by have := HL.out; omega
      obtain ⟨b, off, rfl, hb, hc⟩ := HA.out (by omega)
      obtain ⟨u, c1, ru⟩ := hc j hlt
      rw [markTo_done hjl (by omega), ← HO.out] at ru
      have hts : total (xss.take (j + 1)) = total (xss.take j) + (xss.getD j []).length := by rw [takeS_succ hjl, total_snoc]
      have htl := total_take_le xss (j + 1)
      have hlen : t + (xss.getD j []).length ≤ 4294967296 := by have := HO.out; have := HX.out; omega
      have HU := Lib.hid (And.intro ru hts)
      clear ru hts htl hjl hc
      go_wp2_with fail
      refine (heldIntS_any (k + (t : Int)) HU.out.1 (by omega) (by omega) (by omega)).mono ?_
      rintro e w1 ⟨rfl, rfl⟩
      have hneg : ¬ (k + (t : Int) + ((xss.getD j []).length : Int) < 0) := by omega
      go_wp2
      go_round
      case rel => exact ⟨j + 1, t + (xss.getD j []).length, by omega, by go_num, by go_num, hlen, by rw [HU.out.2, HO.out]; rfl⟩
      case measure => simp [intOf]; omega
    · go_wp2
      go_ret
      have hL := HL.out
      obtain rfl : j = n := by omega
      have hO := HO.out
      rw [List.take_of_length_le (by omega)] at hO
      rw [← hO]
      exact ⟨rfl, Below.refl _ _⟩

theorem szIntS_any {w : World} {a : Value} {xs : List Int} (left : Int) (ha : RI w a xs) (h0 : 0 ≤ left) (h1 : left ≤ 1048576) :
    Calls Try.prog 52 #[a, .int .i64 left] w fun e w' => ∃ r, e = .returned (.int .i64 r) ∧ ((0 ≤ r ∧ r + (xs.length : Int) ≤ left) ∨ r = -1) ∧ w = w' := by
  have hl := ha.lenle
  obtain ⟨A, c, rfl, -⟩ := ha
  by_cases h : left - (xs.length : Int) < 0
  · go_enter Try.func52, Try.ntmps52
    go_wp2
    go_ret
    exact ⟨_, rfl, .inr rfl, rfl⟩
  · go_enter Try.func52, Try.ntmps52
    go_wp2
    go_ret
    exact ⟨_, rfl, .inl (by omega), rfl⟩

/-- The size of a list of lists: below zero where it is too great; else each part is short. -/
def SzOk (xss : List (List Int)) (r : Int) : Prop := (0 ≤ r ∧ xss.length ≤ 1048576 ∧ (∀ x ∈ xss, x.length ≤ 1048576) ∧ total xss ≤ 1048576) ∨ r = -1

theorem len_le_total {xss : List (List Int)} {x : List Int} (h : x ∈ xss) : x.length ≤ total xss := by
  have := (List.sublist_flatten_of_mem h).length_le
  rwa [List.length_flatten] at this
theorem allS_take_succ {p : List (List Int)} {P : List Int → Prop} {k : Nat} (hk : k < p.length) (h : ∀ x ∈ p.take k, P x) (h1 : P (p.getD k [])) : ∀ x ∈ p.take (k + 1), P x := by
  rw [takeS_succ hk]
  intro x hx
  rcases List.mem_append.1 hx with hx | hx
  · exact h x hx
  · simp only [List.mem_singleton] at hx; subst hx; exact h1

set_option maxHeartbeats 800000 in
theorem szIntSS_any {w : World} {a : Value} {xss : List (List Int)} (ha : RII w a xss) :
    Calls Try.prog 15 #[a, .int .i64 1048576] w fun e w' => ∃ r, e = .returned (.int .i64 r) ∧ SzOk xss r ∧ Below w.heap.size w w' := by
  have hl := ha.lenle
  obtain ⟨A, c, rfl, -, hA⟩ := ha
  obtain ⟨n, hn⟩ : ∃ n, n = xss.length := ⟨_, rfl⟩
  rw [← hn] at hA hl ⊢
  have HL := Lib.hid hn
  have HA := Lib.hid hA
  clear hA hn
  by_cases h : (1048576 : Int) - (n : Int) < 0
  · go_enter Try.func15, Try.ntmps15
    go_wp2
    go_ret
    exact ⟨_, rfl, .inr rfl, Below.refl _ _⟩
  · have hn2 : n ≤ 1048576 := by omega
    go_enter Try.func15, Try.ntmps15
    go_wp2
    go_loop [1, 5] (fun q i => ∃ (j : Nat) (l : Int), j ≤ n ∧ i = .int .i64 j ∧ q = .int .i64 l ∧ 0 ≤ l ∧ l ≤ 1048576 ∧ Hid (l + (total (xss.take j) : Int) ≤ 1048576)) (fun _ i => n - (intOf i).toNat)
    case atStart => exact ⟨0, _, Nat.zero_le _, rfl, rfl, by omega, by omega, by simp [Hid, total]; omega⟩
    case round =>
      obtain ⟨j, l, hj, rfl, rfl, hl0, hl1, HO⟩ := hrel
      by_cases hlt : j < n
      · have hjl : j < xss.length := by have := HL.out; omega
        obtain ⟨b, off, rfl, hb, hc⟩ := HA.out (by omega)
        obtain ⟨u, c1, ru⟩ := hc j hlt
        have hstep : total (xss.take (j + 1)) = total (xss.take j) + (xss.getD j []).length := by rw [takeS_succ hjl, total_snoc]
        have HU := Lib.hid (And.intro ru hstep)
        clear ru hjl hc hstep
        go_wp2_with fail
        refine (szIntS_any l HU.out.1 hl0 hl1).mono ?_
        rintro e w1 ⟨r, rfl, hr, rfl⟩
        rcases hr with ⟨r0, r1⟩ | rfl
        · have HF : Hid (r + (total (xss.take (j + 1)) : Int) ≤ 1048576) := by have h1 := HU.out.2; have h2 := HO.out; exact (by omega : r + (total (xss.take (j + 1)) : Int) ≤ 1048576)
          go_wp2
          go_round
          case rel => exact ⟨j + 1, r, by omega, by go_num, rfl, r0, by omega, HF.out⟩
          case measure => simp [intOf]; omega
        · go_wp2
          go_ret
          exact ⟨_, rfl, .inr rfl, Below.refl _ _⟩
      · go_wp2
        go_ret
        have hL := HL.out
        have hO := HO.out
        rw [List.take_of_length_le (by omega)] at hO
        exact ⟨_, rfl, .inl ⟨hl0, by omega, fun x hx => by have := len_le_total hx; omega, by omega⟩, Below.refl _ _⟩

theorem copyS_set {xss : List (List Int)} {n i : Nat} (hn : n = xss.length) (hi : i < n) : (xss.take i ++ List.replicate (n - i) []).set i (xss.getD i []) = xss.take (i + 1) ++ List.replicate (n - (i + 1)) [] := by
  have hl : (xss.take i).length = i := by simp; omega
  rw [List.set_append_right _ _ (by omega), hl, Nat.sub_self, show n - i = (n - (i + 1)) + 1 from by omega, List.replicate_succ, List.set_cons_zero, takeS_succ (by omega), List.append_assoc, List.singleton_append]

set_option maxHeartbeats 800000 in
/-- 'toIntSS': a copy in new memory. -/
theorem toIntSS_any {w : World} {a : Value} {xss : List (List Int)} (h : RII w a xss) (hx : xss.length ≤ 1048576 ∧ ∀ x ∈ xss, x.length ≤ 1048576) :
    Calls Try.prog 17 #[a] w fun e w' => ∃ v, e = .returned v ∧ OII w' w.heap.size v xss ∧ Below w.heap.size w w' := by
  obtain ⟨A, c, rfl, _, hA⟩ := h
  obtain ⟨n, hn⟩ : ∃ n, n = xss.length := ⟨_, rfl⟩
  obtain ⟨hx1, hx2⟩ := hx
  rw [← hn] at hA hx1 ⊢
  have hmk := run_make_row' (P := Try.prog) 22 27 (.slice none 0 0) 24 Try.underlying22 intS_info rfl .i64 .i64 n (by omega) (by omega)
  obtain ⟨g, hg⟩ : ∃ g, g = w.heap.size := ⟨_, rfl⟩
  have HG := Lib.hid hg
  have HL := Lib.hid hn
  have HA := Lib.hid hA
  have HX := Lib.hid hx2
  clear hA hn hg hx2
  go_enter Try.func17, Try.ntmps17
  go_wp2
  have h0 := OIIh.made w n (by unfold maxLen; omega)
  have hb0 : Below w.heap.size w (w.alloc (.cells (madeCells #[.slice none 0 0] n) 27)) := (Below.refl _ _).alloc (Nat.le_refl _) _
  have hz0 : g ≤ (w.alloc (.cells (madeCells #[.slice none 0 0] n) 27)).heap.size := by have := HG.out; simp; omega
  rw [← HG.out] at h0 ⊢
  have H0 := Lib.hid (And.intro (h0.mono (Nat.le_refl _) hz0) hb0)
  clear h0 hb0 hmk hz0
  go_loopw [4] (fun i wr => ∃ j : Nat, j ≤ n ∧ i = .int .i64 j ∧ Hid (OIIh wr g wr.heap.size (.slice (some ⟨g, 0, none⟩) n n) (xss.take j ++ List.replicate (n - j) []) ∧ Below w.heap.size w wr)) (fun i _ => n - (intOf i).toNat)
  case atStart => exact ⟨0, Nat.zero_le _, rfl, by have h := H0.out.1.toOII; unfold OII at h; simpa using h, H0.out.2⟩
  case round =>
    obtain ⟨j, hj, rfl, HR⟩ := hrel
    by_cases hlt : j < n
    · have hjl : j < xss.length := by have := HL.out; omega
      obtain ⟨b, off, rfl, hb, hc⟩ := HA.out (by omega)
      obtain ⟨u, cu, ru⟩ := hc j hlt
      have c1 := (HR.out.2.cell (p := ⟨b, off + j, none⟩) hb).trans cu
      have HU := Lib.hid (And.intro (ru.below HR.out.2) (HX.out _ (show xss.getD j [] ∈ xss by simp [List.getElem?_eq_getElem hjl])))
      clear ru cu hc hjl
      go_wp2_with fail
      refine (toIntS_any HU.out.1 HU.out.2).mono ?_
      rintro e w1 ⟨v1, rfl, o1, b1⟩
      have hlen : (xss.take j ++ List.replicate (n - j) []).length = n := by have := HL.out; simp; omega
      obtain ⟨hp, f1, ⟨old, cg⟩, hlo⟩ := OIIh.put (k := j) (hi' := w1.heap.size) (OIIh.below HR.out.1 b1 (Nat.le_refl _)) hlen hlt o1 (Nat.le_refl _) (by have := HR.out.2.size; have := HG.out; omega) o1.bound b1.size
      rw [copyS_set HL.out hlt] at hp
      have hb2 := (bstep HR.out.2 b1).setCell (p := ⟨g, j, none⟩) (by have := HG.out; simp; omega) v1
      obtain ⟨A1, c1', hv1, -⟩ := o1.form
      subst hv1
      have HP := Lib.hid (And.intro hp hb2)
      clear hp hb2 o1 b1 hlen hlo
      go_wp2
      go_roundw
      case rel => exact ⟨j + 1, by omega, by go_num, by simpa using HP.out.1, HP.out.2⟩
      case measure => simp [intOf]; omega
    · go_wp2
      go_ret
      have hL := HL.out
      obtain rfl : j = n := by omega
      have ho := HR.out.1
      rw [Nat.sub_self, List.replicate_zero, List.append_nil, List.take_of_length_le (by omega)] at ho
      exact ⟨_, rfl, by rw [← HG.out]; exact ho, HR.out.2⟩
end Go.Proofs.Ytfanohebejemmaa
