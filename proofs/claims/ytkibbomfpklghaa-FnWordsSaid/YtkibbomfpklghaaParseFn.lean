/-
  Plain Lean: an integer is read back from its text.
-/
import Derived.Test.YtkibbomfpklghaaFmtFn
namespace Go.Proofs.Ytkibbomfpklghaa
open Go.RowKit Go.Deep

/-- A text's bytes as numbers. -/
def bts (s : ByteArray) : List Int := s.data.toList.map fun b => (b.toNat : Int)
theorem bts_len (s : ByteArray) : (bts s).length = s.size := by unfold bts; rw [List.length_map, Array.length_toList]; rfl
theorem bts_at {s : ByteArray} {i : Nat} (h : i < s.size) : (bts s).getD i 0 = (s[i].toNat : Int) := by
  have h' : i < s.data.toList.length := by rw [Array.length_toList]; exact h
  simp only [bts, List.getD, List.getElem?_map, List.getElem?_eq_getElem h', Option.map_some, Option.getD_some]
  rfl
theorem bts_nums {l : List Int} (h : ∀ x ∈ l, 0 ≤ x ∧ x < 256) : bts (strOfNums l) = l := by
  unfold bts
  rw [strOfNums_data, List.map_map]
  conv => rhs; rw [← List.map_id l]
  apply List.map_congr_left
  intro x hx
  have := h x hx
  simp only [Function.comp_apply, id_eq, UInt8.toNat_ofNat']
  omega
theorem nums_bts (s : ByteArray) : strOfNums (bts s) = s := by
  apply ByteArray.ext
  apply Array.toList_inj.1
  rw [strOfNums_data, bts, List.map_map]
  conv => rhs; rw [← List.map_id s.data.toList]
  apply List.map_congr_left
  intro x _
  simp
theorem dec_mem : ∀ (n : Nat), ∀ x ∈ dec n, 48 ≤ x ∧ x ≤ 57 := by
  intro n
  induction n using Nat.strongRecOn with
  | ind n ih =>
    intro x hx
    by_cases h : n < 10
    · rw [dec_low h] at hx; have := List.mem_singleton.1 hx; omega
    · rw [dec_high h] at hx
      rcases List.mem_append.1 hx with hx | hx
      · exact ih (n / 10) (by omega) x hx
      · have := List.mem_singleton.1 hx; omega
theorem dec_ne (n : Nat) : 1 ≤ (dec n).length := by
  by_cases h : n < 10
  · rw [dec_low h]; simp
  · rw [dec_high h]; simp
/-- What digits say. -/
def decv (l : List Int) : Nat := l.foldl (fun (v : Nat) c => 10 * v + (c - 48).toNat) 0
theorem decv_snoc (l : List Int) (c : Int) : decv (l ++ [c]) = 10 * decv l + (c - 48).toNat := by unfold decv; rw [List.foldl_append]; rfl
theorem decv_dec : ∀ (n : Nat), decv (dec n) = n := by
  intro n
  induction n using Nat.strongRecOn with
  | ind n ih =>
    by_cases h : n < 10
    · rw [dec_low h]; simp [decv]; omega
    · rw [dec_high h, decv_snoc, ih (n / 10) (by omega)]; omega
theorem decv_take_succ {l : List Int} {k : Nat} (h : k < l.length) : decv (l.take (k + 1)) = 10 * decv (l.take k) + (l.getD k 0 - 48).toNat := by
  have : l.take (k + 1) = l.take k ++ [l.getD k 0] := by rw [List.take_add_one, List.getElem?_eq_getElem h]; simp [h]
  rw [this, decv_snoc]
theorem decv_step (l : List Int) (k : Nat) : decv (l.take k) ≤ decv (l.take (k + 1)) := by
  rcases Nat.lt_or_ge k l.length with h | h
  · rw [decv_take_succ h]; omega
  · rw [List.take_of_length_le h, List.take_of_length_le (by omega)]; exact Nat.le_refl _
theorem decv_more (l : List Int) (k : Nat) : ∀ j, decv (l.take k) ≤ decv (l.take (k + j)) := by
  intro j
  induction j with
  | zero => exact Nat.le_refl _
  | succ j ih => exact Nat.le_trans ih (decv_step l (k + j))
theorem decv_le (l : List Int) (k : Nat) : decv (l.take k) ≤ decv l := by
  have := decv_more l k l.length
  rwa [List.take_of_length_le (l := l) (i := k + l.length) (by omega)] at this
def inR (n : Int) : Prop := -9223372036854775808 ≤ n ∧ n ≤ 9223372036854775807
theorem fmt_inj {m n : Int} (h : fmt m = fmt n) : m = n := by
  have key : ∀ k : Nat, ∀ x ∈ dec k, 0 ≤ x ∧ x < 256 := fun k x hx => by have := dec_mem k x hx; omega
  have key2 : ∀ k : Nat, ∀ x ∈ (45 :: dec k : List Int), 0 ≤ x ∧ x < 256 := fun k x hx => by
    rcases List.mem_cons.1 hx with rfl | hx
    · omega
    · exact key k x hx
  have h45 : ∀ k l : Nat, (45 :: dec k : List Int) ≠ dec l := fun k l e => by
    have := dec_mem l 45 (by rw [← e]; simp)
    omega
  have hb : bts (fmt m) = bts (fmt n) := by rw [h]
  unfold fmt at hb
  by_cases hm : m < 0
  · by_cases hn : n < 0
    · rw [if_pos hm, if_pos hn, bts_nums (key2 _), bts_nums (key2 _)] at hb
      have h1 := (List.cons.inj hb).2
      have h2 : m.natAbs = n.natAbs := by rw [← decv_dec m.natAbs, h1, decv_dec]
      omega
    · rw [if_pos hm, if_neg hn, bts_nums (key2 _), bts_nums (key _)] at hb
      exact absurd hb (h45 _ _)
  · by_cases hn : n < 0
    · rw [if_neg hm, if_pos hn, bts_nums (key _), bts_nums (key2 _)] at hb
      exact absurd hb.symm (h45 _ _)
    · rw [if_neg hm, if_neg hn, bts_nums (key _), bts_nums (key _)] at hb
      have h2 : m.toNat = n.toNat := by rw [← decv_dec m.toNat, hb, decv_dec]
      omega

open Classical in
noncomputable def parseInt (s : ByteArray) : Int × Bool := if h : ∃ n, inR n ∧ fmt n = s then (h.choose, true) else (0, false)
theorem parseInt_yes {s : ByteArray} {n : Int} (hr : inR n) (h : fmt n = s) : parseInt s = (n, true) := by
  have hx : ∃ n, inR n ∧ fmt n = s := ⟨n, hr, h⟩
  unfold parseInt
  rw [dif_pos hx]
  have := hx.choose_spec
  rw [fmt_inj (this.2.trans h.symm)]
theorem parseInt_no {s : ByteArray} (h : ∀ n, inR n → fmt n ≠ s) : parseInt s = (0, false) := by
  unfold parseInt
  rw [dif_neg]
  rintro ⟨n, h1, h2⟩
  exact h n h1 h2
theorem parseInt_fmt {n : Int} (h : inR n) : parseInt (fmt n) = (n, true) := parseInt_yes h rfl
theorem parseInt_inR (s : ByteArray) : inR (parseInt s).1 := by
  unfold parseInt
  split
  · rename_i h; exact h.choose_spec.1
  · exact ⟨by decide, by decide⟩
/-- The text without its sign. -/
def minus (s : ByteArray) : Bool := decide (∃ h : 0 < s.size, s[0].toNat = 45)
/-- What a number's text looks like: t is the text behind the sign. -/
theorem fmt_shape {s : ByteArray} {m : Int} (h : fmt m = s) :
    (m < 0 ∧ minus s = true ∧ bts s = 45 :: dec m.natAbs) ∨ (0 ≤ m ∧ minus s = false ∧ bts s = dec m.natAbs) := by
  have key : ∀ k : Nat, ∀ x ∈ dec k, 0 ≤ x ∧ x < 256 := fun k x hx => by have := dec_mem k x hx; omega
  have key2 : ∀ k : Nat, ∀ x ∈ (45 :: dec k : List Int), 0 ≤ x ∧ x < 256 := fun k x hx => by
    rcases List.mem_cons.1 hx with rfl | hx
    · omega
    · exact key k x hx
  subst h
  unfold fmt
  by_cases hm : m < 0
  · left
    rw [if_pos hm]
    have hb := bts_nums (key2 m.natAbs)
    refine ⟨hm, decide_eq_true ?_, hb⟩
    have h0 : 0 < (strOfNums (45 :: dec m.natAbs)).size := by rw [strOfNums_size]; simp
    refine ⟨h0, ?_⟩
    have := bts_at h0
    rw [hb] at this
    simp only [List.getD_cons_zero] at this
    omega
  · right
    rw [if_neg hm, show m.toNat = m.natAbs from by omega]
    have hb := bts_nums (key m.natAbs)
    refine ⟨by omega, decide_eq_false ?_, hb⟩
    rintro ⟨h0, h1⟩
    have := bts_at h0
    rw [hb, h1] at this
    have h2 := dec_mem m.natAbs ((dec m.natAbs).getD 0 0) (getD_mem0 (dec_ne _))
    omega
where getD_mem0 {p : List Int} {k : Nat} (hk : k < p.length) : p.getD k 0 ∈ p := by simp [List.getElem?_eq_getElem hk]

/-- The text behind the sign. -/
def tailS (s : ByteArray) : ByteArray := if minus s = true then s.extract 1 s.size else s
theorem bts_tail {s : ByteArray} (h : minus s = true) : bts s = 45 :: bts (s.extract 1 s.size) := by
  obtain ⟨h0, h1⟩ := of_decide_eq_true h
  have e : (s.extract 1 s.size).size = s.size - 1 := by simp
  apply List.ext_getElem
  · rw [bts_len, List.length_cons, bts_len, e]; omega
  · intro i h2 h3
    have key : ∀ (l : List Int) (hh : i < l.length), l[i] = l.getD i 0 := fun l hh => by simp [hh]
    rw [key _ h2, key _ h3]
    rw [bts_len] at h2
    rw [bts_at h2]
    cases i with
    | zero => rw [List.getD_cons_zero]; omega
    | succ i =>
      rw [List.getD_cons_succ, bts_at (by rw [e]; omega)]
      congr 2
      rw [ByteArray.getElem_extract]
      congr 1
      omega
theorem fmt_tail {s : ByteArray} {m : Int} (h : fmt m = s) : bts (tailS s) = dec m.natAbs ∧ (m < 0 ↔ minus s = true) := by
  rcases fmt_shape h with ⟨h1, h2, h3⟩ | ⟨h1, h2, h3⟩
  · unfold tailS
    rw [if_pos h2]
    rw [bts_tail h2] at h3
    exact ⟨(List.cons.inj h3).2, ⟨fun _ => h2, fun _ => h1⟩⟩
  · unfold tailS
    rw [if_neg (by rw [h2]; simp)]
    exact ⟨h3, ⟨fun h => by omega, fun h => by rw [h2] at h; cases h⟩⟩
/-- The program's sum, with its turns. -/
def iv (l : List Int) : Nat → Int
  | 0 => 0
  | k + 1 => IntKind.i64.wrap (IntKind.i64.wrap (10 * iv l k) - (l.getD k 0 - 48))
theorem iv_inR (l : List Int) (k : Nat) : inR (iv l k) := by
  cases k with
  | zero => unfold iv inR; omega
  | succ k => rw [iv, IntKind.wrap_i64]; unfold inR; omega
theorem iv_exact {l : List Int} (hd : ∀ x ∈ l, 48 ≤ x ∧ x ≤ 57) (hv : decv l ≤ 9223372036854775808) : ∀ k, k ≤ l.length → iv l k = -(decv (l.take k) : Int) := by
  intro k
  induction k with
  | zero => intro _; simp [iv, decv]
  | succ k ih =>
    intro hk
    have h1 := ih (by omega)
    have h2 := decv_le l (k + 1)
    have h3 := decv_take_succ (l := l) (k := k) (by omega)
    have h4 := hd (l.getD k 0) (by simp [List.getElem?_eq_getElem (show k < l.length by omega)])
    rw [iv, h1, h3, IntKind.wrap_i64, IntKind.wrap_i64]
    omega
/-- What the program returns. -/
def lastI (s : ByteArray) : Int := if minus s = true then iv (bts (tailS s)) (tailS s).size else IntKind.i64.wrap (-(iv (bts (tailS s)) (tailS s).size))
theorem lastI_inR (s : ByteArray) : inR (lastI s) := by
  unfold lastI
  split
  · exact iv_inR _ _
  · rw [IntKind.wrap_i64]; unfold inR; omega
theorem lastI_fmt {s : ByteArray} {m : Int} (hr : inR m) (h : fmt m = s) : lastI s = m := by
  obtain ⟨h1, h2⟩ := fmt_tail h
  have hd : decv (dec m.natAbs) = m.natAbs := decv_dec _
  have hr' := hr
  unfold inR at hr'
  have he := iv_exact (l := dec m.natAbs) (dec_mem _) (by rw [hd]; omega) (dec m.natAbs).length (Nat.le_refl _)
  rw [List.take_length, hd] at he
  have hl : (tailS s).size = (dec m.natAbs).length := by rw [← bts_len, h1]
  unfold lastI
  rw [h1, hl, he]
  split
  · rename_i hm; have := h2.2 hm; omega
  · rename_i hm
    have : ¬ m < 0 := fun h => hm (h2.1 h)
    rw [IntKind.wrap_i64]; omega
theorem parseInt_lastI (s : ByteArray) : parseInt s = if fmt (lastI s) = s then (lastI s, true) else (0, false) := by
  split
  · rename_i h; exact parseInt_yes (lastI_inR s) h
  · rename_i h
    refine parseInt_no fun n hn he => h ?_
    rw [lastI_fmt hn he]; exact he
/-- What a number's text is like behind its sign. -/
theorem fmt_digits {s : ByteArray} {m : Int} (hr : inR m) (h : fmt m = s) : 1 ≤ (tailS s).size ∧ (tailS s).size ≤ 19 ∧ (∀ x ∈ bts (tailS s), 48 ≤ x ∧ x ≤ 57) ∧ decv (bts (tailS s)) = m.natAbs := by
  obtain ⟨h1, _⟩ := fmt_tail h
  have hl : (tailS s).size = (dec m.natAbs).length := by rw [← bts_len, h1]
  have hr' := hr
  unfold inR at hr'
  refine ⟨by rw [hl]; exact dec_ne _, by rw [hl]; exact dec_len 18 _ (by omega), by rw [h1]; exact dec_mem _, by rw [h1]; exact decv_dec _⟩
end Go.Proofs.Ytkibbomfpklghaa
