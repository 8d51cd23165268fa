/-
  FormatTerm, of the program and of the reference.
-/
import Derived.Test.YtkibbomfpklghaaJoin
import Derived.Test.YtkibbomfpklghaaFmt
import Derived.Test.YtkibbomfpklghaaFmtS
import Derived.Test.YtkibbomfpklghaaTermM
import Derived.Test.YtkibbomfpklghaaPermFn
namespace Go.Proofs.Ytkibbomfpklghaa
open Go.RowKit Go.Deep

def starB : ByteArray := ⟨#[42]⟩
def spaceB : ByteArray := ⟨#[32]⟩
def sB : ByteArray := ⟨#[115]⟩
def caretB : ByteArray := ⟨#[94]⟩
def InR (x : Int) : Prop := -9223372036854775808 ≤ x ∧ x ≤ 9223372036854775807
/-- The part of one length: i the place, n how many. -/
def partB (i : Nat) (n : Int) : ByteArray := if n = 1 then sB ++ fmt ((i : Int) + 1) else sB ++ fmt ((i : Int) + 1) ++ (caretB ++ fmt n)
def partsTo (xs : List Int) : Nat → List ByteArray
  | 0 => []
  | k + 1 => if xs.getD k 0 = 0 then partsTo xs k else partsTo xs k ++ [partB k (xs.getD k 0)]
def termText (c : Int) (ps : List ByteArray) : ByteArray := if ps = [] then fmt c else fmt c ++ starB ++ joinB ps spaceB
def formatTerm (t : List Int × Int) : ByteArray := termText t.2 (partsTo t.1 t.1.length)
theorem partB_one (i : Nat) : partB i 1 = sB ++ fmt ((i : Int) + 1) := by unfold partB; rw [if_pos rfl]
theorem partB_more {i : Nat} {n : Int} (h : n ≠ 1) : partB i n = sB ++ fmt ((i : Int) + 1) ++ (caretB ++ fmt n) := by unfold partB; rw [if_neg h]
theorem partB_size {i : Nat} {n : Int} (hi : i ≤ 1048576) (hn : InR n) : (partB i n).size ≤ 42 := by
  have h1 := fmt_size (n := (i : Int) + 1) ⟨by omega, by omega⟩
  have h2 := fmt_size hn
  have e1 : sB.size = 1 := rfl
  have e2 : caretB.size = 1 := rfl
  unfold partB
  split
  · rw [ByteArray.size_append]; omega
  · rw [ByteArray.size_append, ByteArray.size_append, ByteArray.size_append]; omega
theorem partsTo_len (xs : List Int) (k : Nat) : (partsTo xs k).length ≤ k := by
  induction k with
  | zero => exact Nat.le_refl _
  | succ k ih =>
    unfold partsTo
    split
    · omega
    · rw [List.length_append]; simp; omega
theorem partsTo_tot {xs : List Int} (hx : ∀ x ∈ xs, InR x) (hl : xs.length ≤ 1048576) : ∀ k, k ≤ xs.length → totB (partsTo xs k) ≤ 42 * k := by
  intro k
  induction k with
  | zero => intro _; exact Nat.le_refl _
  | succ k ih =>
    intro hk
    have h1 := ih (by omega)
    have h2 := partB_size (i := k) (by omega) (hx _ (getD_mem (p := xs) (k := k) (by omega)))
    unfold partsTo
    split
    · omega
    · unfold totB at *
      rw [List.map_append, List.sum_append]
      simp only [List.map_cons, List.map_nil, List.sum_cons, List.sum_nil]
      omega
theorem text_nil (c : Int) : termText c [] = fmt c := by unfold termText; rw [if_pos rfl]
theorem text_some {c : Int} {ps : List ByteArray} (h : ps ≠ []) : termText c ps = fmt c ++ starB ++ joinB ps spaceB := by unfold termText; rw [if_neg h]
theorem text_size {c : Int} (hc : InR c) (ps : List ByteArray) : (termText c ps).size ≤ 21 + ps.length + totB ps := by
  have h1 := fmt_size hc
  unfold termText
  split
  · omega
  · have h2 := joinB_size ps spaceB
    have e1 : spaceB.size = 1 := rfl
    have e2 : starB.size = 1 := rfl
    rw [ByteArray.size_append, ByteArray.size_append]
    rw [e1] at h2
    omega
theorem text_longer {c : Int} {ps : List ByteArray} (h : ps ≠ []) : termText c ps ≠ fmt c := fun e => by
  rw [text_some h] at e
  have := congrArg ByteArray.size e
  have e2 : starB.size = 1 := rfl
  rw [ByteArray.size_append, ByteArray.size_append, e2] at this
  omega
theorem beq_text {a b : ByteArray} : (a.toList == b.toList) = true ↔ a = b := by
  rw [beq_iff_eq, ByteArray.toList_eq, ByteArray.toList_eq]
  exact ⟨fun h => ByteArray.ext (Array.toList_inj.1 h), fun h => by rw [h]⟩
/-- What the reference puts ahead of the next part. -/
def sepOf (ps : List ByteArray) : ByteArray := if ps = [] then starB else spaceB
theorem text_snoc (c : Int) (ps : List ByteArray) (x : ByteArray) : termText c (ps ++ [x]) = termText c ps ++ sepOf ps ++ x := by
  rw [text_some (by simp)]
  by_cases h : ps = []
  · subst h
    rw [List.nil_append, joinB_one, text_nil]
    unfold sepOf; rw [if_pos rfl]
  · rw [joinB_snoc x spaceB h, text_some h]
    unfold sepOf; rw [if_neg h]
    simp only [ByteArray.append_assoc]

/-- The world in which the argument has been put into a block of its own. -/
def boxT (w : World) (v : Value) (c : Int) : World := w.alloc (.cells #[v, .int .i64 c] 42)
theorem boxT_size (w : World) (v : Value) (c : Int) : (boxT w v c).heap.size = w.heap.size + 1 := by simp [boxT]
theorem boxT_below (w : World) (v : Value) (c : Int) : Below w.heap.size w (boxT w v c) := (Below.refl w.heap.size w).alloc (Nat.le_refl _) _
theorem boxT_count (w : World) (v : Value) (c : Int) : (boxT w v c).cell? ⟨w.heap.size, 1, none⟩ = some (.int .i64 c) := by unfold boxT; rw [World.cell?_alloc_at _ _ _ _ rfl]; rfl
theorem boxT_old {w wr : World} {v : Value} {c : Int} (h : Below (w.heap.size + 1) (boxT w v c) wr) : Below w.heap.size w wr :=
  (boxT_below w v c).trans (h.mono (by omega))
theorem boxT_cell {w wr : World} {v : Value} {c : Int} (h : Below (w.heap.size + 1) (boxT w v c) wr) : wr.cell? ⟨w.heap.size, 1, none⟩ = some (.int .i64 c) :=
  (h.cell (p := ⟨w.heap.size, 1, none⟩) (by simp)).trans (boxT_count w v c)
theorem partsTo_succ_no {xs : List Int} {k : Nat} (h : xs.getD k 0 = 0) : partsTo xs (k + 1) = partsTo xs k := by rw [partsTo, if_pos h]
theorem partsTo_succ_yes {xs : List Int} {k : Nat} (h : xs.getD k 0 ≠ 0) : partsTo xs (k + 1) = partsTo xs k ++ [partB k (xs.getD k 0)] := by rw [partsTo, if_neg h]

set_option maxHeartbeats 3200000 in
theorem implFormatTerm_any {w : World} {a : Value} {t : List Int × Int} (ha : RT w a t) (hl : t.1.length ≤ 1048576) (hx : ∀ x ∈ t.1, InR x) (hc : InR t.2) :
    Calls Try.prog 27 #[a] w fun e w' => e = .returned (.string (formatTerm t)) ∧ Below w.heap.size w w' := by
  obtain ⟨u, rfl, hu⟩ := ha
  obtain ⟨xs, c⟩ := t
  simp only at hu hl hx hc ⊢
  have HC := Lib.hid hc
  have HXR := Lib.hid hx
  obtain ⟨A, cc, rfl, -, hxx⟩ := hu
  obtain ⟨n, hn⟩ : ∃ n, n = xs.length := ⟨_, rfl⟩
  rw [← hn] at hl hxx ⊢
  have HL := Lib.hid hn
  have HX := Lib.hid hxx
  have HF : Hid (formatTerm (xs, c) = termText c (partsTo xs n)) := by rw [Hid, formatTerm, hn]
  clear hn hxx hx hc
  go_enter Try.func27, Try.ntmps27
  go_wp2_with fail
  have H0 : Hid (OSS ((boxT w (.slice A n cc) c).alloc (.cells #[] 9)) (w.heap.size + 1) (.slice (some ⟨w.heap.size + 1, 0, none⟩) 0 0) (partsTo xs 0) ∧ Below (w.heap.size + 1) (boxT w (.slice A n cc) c) ((boxT w (.slice A n cc) c).alloc (.cells #[] 9))) := by
    have h := OSS.lit (boxT w (.slice A n cc) c)
    rw [boxT_size] at h
    exact ⟨h, (Below.refl _ _).alloc (by rw [boxT_size]; exact Nat.le_refl _) _⟩
  go_loopw [3, 11] (fun v i wr => ∃ k : Nat, k ≤ n ∧ i = .int .i64 k ∧ Hid (OSS wr (w.heap.size + 1) v (partsTo xs k) ∧ Below (w.heap.size + 1) (boxT w (.slice A n cc) c) wr)) (fun _ i _ => n - (intOf i).toNat)
  case atStart => exact ⟨0, Nat.zero_le _, rfl, H0.out⟩
  case round =>
    obtain ⟨k, hk, rfl, HR⟩ := hrel
    obtain ⟨ps, hps⟩ : ∃ ps, ps = partsTo xs k := ⟨_, rfl⟩
    rw [← hps] at HR
    obtain ⟨A3, c3, rfl, -⟩ := OSS.form HR.out.1
    obtain ⟨m, hm⟩ : ∃ m, m = ps.length := ⟨_, rfl⟩
    rw [← hm] at HR ⊢
    have hmk : m ≤ k := by rw [hm, hps]; exact partsTo_len xs k
    have HM := Lib.hid (And.intro hm hps)
    have HB : Hid (Below w.heap.size w wr) := boxT_old HR.out.2
    have ecount := boxT_cell HR.out.2
    have HM3 : Hid (ps.length ≤ 1099511627776 ∧ w.heap.size + 1 ≤ wr.heap.size) := ⟨by omega, by have := HR.out.2.size; rw [boxT_size] at this; exact this⟩
    by_cases hlt : k < n
    · obtain ⟨b1, o1, rfl, hb1, hc1⟩ := HX.out (by omega)
      have e1 := (HB.out.cell (p := ⟨b1, o1 + k, none⟩) hb1).trans (hc1 k (by have := HL.out; omega))
      have hkl : k < xs.length := by have := HL.out; omega
      have hxr := HXR.out (xs.getD k 0) (getD_mem hkl)
      have hno := partsTo_succ_no (xs := xs) (k := k)
      have hyes := partsTo_succ_yes (xs := xs) (k := k)
      rw [← hps] at hno hyes
      obtain ⟨x, hx⟩ : ∃ x, x = xs.getD k 0 := ⟨_, rfl⟩
      rw [← hx] at e1 hxr hno hyes
      have HNO := Lib.hid (And.intro hno hyes)
      have HXI := Lib.hid hxr
      clear hc1 hx hkl hxr hno hyes hm hps
      by_cases hx0 : x = 0
      · have z0 : (x == 0) = true := beq_iff_eq.2 hx0
        have HN := Lib.hid (HNO.out.1 hx0)
        clear hx0
        go_wp2_with fail
        go_roundw
        case rel => exact ⟨k + 1, by omega, by go_num, by rw [HN.out]; exact HR.out⟩
        case measure => simp [intOf]; omega
      · have z0 : (x == 0) = false := beq_eq_false_iff_ne.2 hx0
        have HN := Lib.hid (HNO.out.2 hx0)
        have hk1 : InR ((k : Int) + 1) := ⟨by omega, by omega⟩
        have hf1 := fmt_size hk1
        obtain ⟨f1, hf1e⟩ : ∃ f1, f1 = fmt ((k : Int) + 1) := ⟨_, rfl⟩
        have HK1 := Lib.hid hk1
        have HFE := Lib.hid hf1e
        rw [← hf1e] at hf1
        have g1 : (⟨#[115]⟩ : ByteArray).size + f1.size ≤ 9223372036854775807 := by show 1 + _ ≤ _; omega
        have g1' : 1 + f1.size ≤ 9223372036854775807 := g1
        clear hx0 hk1 hf1e
        by_cases hx1 : x = 1
        · have z1 : (x != 1) = false := by simp [hx1]
          have HP : Hid (partB k x = ⟨#[115]⟩ ++ f1) := by rw [Hid, hx1, partB_one, HFE.out]; rfl
          clear hx1
          go_wp2_with fail
          have hc := implFormatInt_any (w := wr) ((k : Int) + 1) HK1.out
          rw [← HFE.out] at hc
          refine hc.mono ?_
          clear hc
          rintro e w2 ⟨rfl, rfl⟩
          go_wp2_with (at_builtin; refine wpList_appStr _ rfl (.tmp 29) (.tmp 31) rfl (w.heap.size + 1) _ ps ((⟨#[115]⟩ : ByteArray) ++ f1) rfl rfl rfl HR.out.1 HM3.out.1 HM3.out.2 ?_; intro v3 w3 ho hb _)
          have HN3 : Hid (OSS w3 (w.heap.size + 1) v3 (partsTo xs (k + 1)) ∧ Below (w.heap.size + 1) (boxT w (.slice (some ⟨b1, o1, none⟩) n cc) c) w3) := ⟨by rw [HN.out, HP.out]; exact ho, HR.out.2.trans hb⟩
          clear ho hb
          go_wp2_with fail
          go_roundw
          case rel => exact ⟨k + 1, by omega, by go_num, HN3.out⟩
          case measure => simp [intOf]; omega
        · have z1 : (x != 1) = true := by simp [hx1]
          have hf2 := fmt_size HXI.out
          obtain ⟨f2, hf2e⟩ : ∃ f2, f2 = fmt x := ⟨_, rfl⟩
          rw [← hf2e] at hf2
          have HFE2 := Lib.hid hf2e
          have HP : Hid (partB k x = ⟨#[115]⟩ ++ f1 ++ (⟨#[94]⟩ ++ f2)) := by rw [Hid, partB_more hx1, HFE.out, HFE2.out]; rfl
          have g2 : (⟨#[94]⟩ : ByteArray).size + f2.size ≤ 9223372036854775807 := by show 1 + _ ≤ _; omega
          have g2' : 1 + f2.size ≤ 9223372036854775807 := g2
          have g3 : (⟨#[115]⟩ ++ f1 : ByteArray).size + (⟨#[94]⟩ ++ f2 : ByteArray).size ≤ 9223372036854775807 := by
            rw [ByteArray.size_append, ByteArray.size_append]
            show (1 + _) + (1 + _) ≤ _
            omega
          clear hx1 hf2e
          go_wp2_with fail
          have hc := implFormatInt_any (w := wr) ((k : Int) + 1) HK1.out
          rw [← HFE.out] at hc
          refine hc.mono ?_
          clear hc
          rintro e w2 ⟨rfl, rfl⟩
          go_wp2_with fail
          have hc := implFormatInt_any (w := wr) x HXI.out
          rw [← HFE2.out] at hc
          refine hc.mono ?_
          clear hc
          rintro e w2 ⟨rfl, rfl⟩
          go_wp2_with (at_builtin; refine wpList_appStr _ rfl (.tmp 29) (.tmp 31) rfl (w.heap.size + 1) _ ps ((⟨#[115]⟩ : ByteArray) ++ f1 ++ ((⟨#[94]⟩ : ByteArray) ++ f2)) rfl rfl rfl HR.out.1 HM3.out.1 HM3.out.2 ?_; intro v3 w3 ho hb _)
          have HN3 : Hid (OSS w3 (w.heap.size + 1) v3 (partsTo xs (k + 1)) ∧ Below (w.heap.size + 1) (boxT w (.slice (some ⟨b1, o1, none⟩) n cc) c) w3) := ⟨by rw [HN.out, HP.out]; exact ho, HR.out.2.trans hb⟩
          clear ho hb
          go_wp2_with fail
          go_roundw
          case rel => exact ⟨k + 1, by omega, by go_num, HN3.out⟩
          case measure => simp [intOf]; omega
    · have hkn : k = n := by omega
      subst hkn
      have hfc := fmt_size HC.out
      obtain ⟨f0, hf0⟩ : ∃ f0, f0 = fmt c := ⟨_, rfl⟩
      rw [← hf0] at hfc
      have HF0 := Lib.hid hf0
      have htot := partsTo_tot (xs := xs) HXR.out (by have := HL.out; omega) k (by have := HL.out; omega)
      rw [← hps] at htot
      have hjs := joinB_size ps spaceB
      have e1 : spaceB.size = 1 := rfl
      rw [e1, ← hm] at hjs
      have hsz : spaceB.size * ps.length + totB ps ≤ 140737488355328 := by rw [e1, ← hm]; omega
      have HSZ := Lib.hid hsz
      rw [← hps] at HF
      by_cases hm0 : m = 0
      · have hnil : ps = [] := List.length_eq_zero_iff.1 (by omega)
        have HE : Hid (f0 = formatTerm (xs, c)) := by rw [Hid, HF.out, hnil, text_nil, hf0]
        have z0 : ((m : Int) == 0) = true := beq_iff_eq.2 (by omega)
        clear hf0 hnil hm0 hps hm hjs htot hsz
        go_wp2_with fail
        have hc := implFormatInt_any (w := wr) c HC.out
        rw [← HF0.out] at hc
        refine hc.mono ?_
        clear hc
        rintro e w2 ⟨rfl, rfl⟩
        go_wp2_with fail
        go_ret
        exact ⟨retS HE.out, HB.out⟩
      · have hne : ps ≠ [] := fun h => hm0 (by rw [hm, h]; rfl)
        obtain ⟨j, hj⟩ : ∃ j, j = joinB ps spaceB := ⟨_, rfl⟩
        rw [← hj] at hjs
        have HJ := Lib.hid hj
        have HE : Hid (f0 ++ ⟨#[42]⟩ ++ j = formatTerm (xs, c)) := by rw [Hid, HF.out, text_some hne, hf0, hj]; rfl
        have z0 : ((m : Int) == 0) = false := beq_eq_false_iff_ne.2 (by omega)
        have HRS : Hid (RSS wr (.slice A3 m c3) ps) := OSS.reads HR.out.1
        have g1 : f0.size + (⟨#[42]⟩ : ByteArray).size ≤ 9223372036854775807 := by show _ + 1 ≤ _; omega
        have g1' : f0.size + 1 ≤ 9223372036854775807 := g1
        have g2 : (f0 ++ ⟨#[42]⟩ : ByteArray).size + j.size ≤ 9223372036854775807 := by
          rw [ByteArray.size_append]
          show (_ + 1) + _ ≤ _
          omega
        have hm2 : ps.length ≤ 1048576 := by omega
        have HM2 := Lib.hid hm2
        clear hf0 hne hm0 hps hm hjs htot hsz hj hm2
        go_wp2_with fail
        have hc := implFormatInt_any (w := wr) c HC.out
        rw [← HF0.out] at hc
        refine hc.mono ?_
        clear hc
        rintro e w2 ⟨rfl, rfl⟩
        go_wp2_with fail
        have hc := implJoin_any spaceB HRS.out HM2.out HSZ.out
        rw [← HJ.out] at hc
        refine hc.mono ?_
        clear hc
        rintro e w4 ⟨rfl, b⟩
        have HB2 := Lib.hid (bstep HB.out b)
        clear b
        go_wp2_with fail
        go_ret
        exact ⟨retS HE.out, HB2.out⟩

set_option maxHeartbeats 3200000 in
theorem specFormatTerm_any {w : World} {a : Value} {t : List Int × Int} (ha : RT w a t) (hl : t.1.length ≤ 1048576) (hx : ∀ x ∈ t.1, InR x) (hc : InR t.2) :
    Calls Try.prog 25 #[a] w fun e w' => e = .returned (.string (formatTerm t)) ∧ Below w.heap.size w w' := by
  obtain ⟨u, rfl, hu⟩ := ha
  obtain ⟨xs, c⟩ := t
  simp only at hu hl hx hc ⊢
  have HC := Lib.hid hc
  have HXR := Lib.hid hx
  obtain ⟨A, cc, rfl, -, hxx⟩ := hu
  obtain ⟨n, hn⟩ : ∃ n, n = xs.length := ⟨_, rfl⟩
  rw [← hn] at hl hxx ⊢
  have HL := Lib.hid hn
  have HX := Lib.hid hxx
  have HF : Hid (formatTerm (xs, c) = termText c (partsTo xs n)) := by rw [Hid, formatTerm, hn]
  have hfc := fmt_size hc
  obtain ⟨f0, hf0⟩ : ∃ f0, f0 = fmt c := ⟨_, rfl⟩
  rw [← hf0] at hfc
  have HF0 := Lib.hid hf0
  clear hn hxx hx hc hf0
  go_enter Try.func25, Try.ntmps25
  go_wp2_with fail
  have hc := specFormatInt_any (w := boxT w (.slice A n cc) c) c HC.out
  rw [← HF0.out] at hc
  refine hc.mono ?_
  clear hc
  rintro e w0 ⟨rfl, b0⟩
  rw [boxT_size] at b0
  have ecount0 := boxT_cell b0
  have e0 := (b0.cell (p := ⟨w.heap.size, 0, none⟩) (by simp)).trans (show (boxT w (.slice A n cc) c).cell? ⟨w.heap.size, 0, none⟩ = some (.slice A n cc) by unfold boxT; rw [World.cell?_alloc_at _ _ _ _ rfl]; rfl)
  have H0 := Lib.hid b0
  clear b0
  go_wp2_with fail
  clear e0 ecount0
  go_loopw [3, 12] (fun v i wr => ∃ k : Nat, k ≤ n ∧ i = .int .i64 k ∧ v = .string (termText c (partsTo xs k)) ∧ Hid (Below (w.heap.size + 1) (boxT w (.slice A n cc) c) wr)) (fun _ i _ => n - (intOf i).toNat)
  case atStart => exact ⟨0, Nat.zero_le _, rfl, by rw [show partsTo xs 0 = [] from rfl, text_nil, ← HF0.out], H0.out⟩
  case round =>
    obtain ⟨k, hk, rfl, rfl, HR⟩ := hrel
    obtain ⟨ps, hps⟩ : ∃ ps, ps = partsTo xs k := ⟨_, rfl⟩
    rw [← hps]
    have hmk : ps.length ≤ k := by rw [hps]; exact partsTo_len xs k
    have htot := partsTo_tot (xs := xs) HXR.out (by have := HL.out; omega) k (by have := HL.out; omega)
    rw [← hps] at htot
    have hts := text_size HC.out ps
    have hsn := text_snoc c ps
    have htn : ps = [] → termText c ps = f0 := fun h => by rw [h, text_nil, ← HF0.out]
    have htl : ps ≠ [] → termText c ps ≠ f0 := fun h => by rw [HF0.out]; exact text_longer h
    obtain ⟨s, hs⟩ : ∃ s, s = termText c ps := ⟨_, rfl⟩
    rw [← hs] at hts hsn htn htl ⊢
    have hss : s.size ≤ 46137365 := by omega
    have HB : Hid (Below w.heap.size w wr) := boxT_old HR.out
    have ecount := boxT_cell HR.out
    have HS := Lib.hid (And.intro hps (And.intro hs (And.intro hsn (And.intro htn htl))))
    clear hmk htot hts hs hps hsn htn htl
    by_cases hlt : k < n
    · obtain ⟨b1, o1, rfl, hb1, hc1⟩ := HX.out (by omega)
      have e1 := (HB.out.cell (p := ⟨b1, o1 + k, none⟩) hb1).trans (hc1 k (by have := HL.out; omega))
      have hkl : k < xs.length := by have := HL.out; omega
      have hxr := HXR.out (xs.getD k 0) (getD_mem hkl)
      have hno := partsTo_succ_no (xs := xs) (k := k)
      have hyes := partsTo_succ_yes (xs := xs) (k := k)
      rw [← HS.out.1] at hno hyes
      obtain ⟨x, hx⟩ : ∃ x, x = xs.getD k 0 := ⟨_, rfl⟩
      rw [← hx] at e1 hxr hno hyes
      have HNO := Lib.hid (And.intro hno hyes)
      have HXI := Lib.hid hxr
      clear hc1 hx hkl hxr hno hyes
      by_cases hx0 : x = 0
      · have z0 : (x == 0) = true := beq_iff_eq.2 hx0
        have HN : Hid (s = termText c (partsTo xs (k + 1))) := by rw [Hid, HNO.out.1 hx0]; exact HS.out.2.1
        clear hx0
        go_wp2_with fail
        go_roundw
        case rel => exact ⟨k + 1, by omega, by go_num, by rw [← HN.out], HR.out⟩
        case measure => simp [intOf]; omega
      · have z0 : (x == 0) = false := beq_eq_false_iff_ne.2 hx0
        have HN : Hid (termText c (partsTo xs (k + 1)) = s ++ sepOf ps ++ partB k x) := by rw [Hid, HNO.out.2 hx0]; exact HS.out.2.2.1 _
        have hk1 : InR ((k : Int) + 1) := ⟨by omega, by omega⟩
        have hf1 := fmt_size hk1
        obtain ⟨f1, hf1e⟩ : ∃ f1, f1 = fmt ((k : Int) + 1) := ⟨_, rfl⟩
        have HK1 := Lib.hid hk1
        have HFE := Lib.hid hf1e
        rw [← hf1e] at hf1
        have hf2 := fmt_size HXI.out
        obtain ⟨f2, hf2e⟩ : ∃ f2, f2 = fmt x := ⟨_, rfl⟩
        rw [← hf2e] at hf2
        have HFE2 := Lib.hid hf2e
        clear hx0 hk1 hf1e hf2e
        go_wp2_with fail
        have hc := specFormatInt_any (w := wr) c HC.out
        rw [← HF0.out] at hc
        refine hc.mono ?_
        clear hc
        rintro e w2 ⟨rfl, b⟩
        have HR2 : Hid (Below (w.heap.size + 1) (boxT w (.slice (some ⟨b1, o1, none⟩) n cc) c) w2) := HR.out.trans (b.mono (by have := HR.out.size; rw [boxT_size] at this; exact this))
        have HSS : Hid (∃ sep : ByteArray, sep.size = 1 ∧ ((ps = [] ∧ sep = ⟨#[42]⟩) ∨ (ps ≠ [] ∧ sep = ⟨#[32]⟩)) ∧ sepOf ps = sep) := by
          by_cases h : ps = []
          · exact ⟨⟨#[42]⟩, rfl, .inl ⟨h, rfl⟩, by unfold sepOf; rw [if_pos h]; rfl⟩
          · exact ⟨⟨#[32]⟩, rfl, .inr ⟨h, rfl⟩, by unfold sepOf; rw [if_neg h]; rfl⟩
        obtain ⟨sep, hs1, hs2, hs3⟩ := HSS.out
        rw [hs3] at HN
        clear b e1 ecount HSS hs3
        have g1 : s.size + sep.size ≤ 9223372036854775807 := by omega
        have g2 : (s ++ sep : ByteArray).size + (⟨#[115]⟩ : ByteArray).size ≤ 9223372036854775807 := by rw [ByteArray.size_append]; show _ + 1 ≤ _; omega
        have g3 : (s ++ sep ++ ⟨#[115]⟩ : ByteArray).size + f1.size ≤ 9223372036854775807 := by rw [ByteArray.size_append, ByteArray.size_append]; show _ + 1 + _ ≤ _; omega
        have g4 : (s ++ sep ++ ⟨#[115]⟩ ++ f1 : ByteArray).size + (⟨#[94]⟩ : ByteArray).size ≤ 9223372036854775807 := by rw [ByteArray.size_append, ByteArray.size_append, ByteArray.size_append]; show _ + 1 + _ + 1 ≤ _; omega
        have g5 : (s ++ sep ++ ⟨#[115]⟩ ++ f1 ++ ⟨#[94]⟩ : ByteArray).size + f2.size ≤ 9223372036854775807 := by rw [ByteArray.size_append, ByteArray.size_append, ByteArray.size_append, ByteArray.size_append]; show _ + 1 + _ + 1 + _ ≤ _; omega
        have g2' : (s ++ sep : ByteArray).size + 1 ≤ 9223372036854775807 := g2
        have g4' : (s ++ sep ++ ⟨#[115]⟩ ++ f1 : ByteArray).size + 1 ≤ 9223372036854775807 := g4
        have hq : (ps = [] ∧ sep = ⟨#[42]⟩ ∧ (s.toList == f0.toList) = true) ∨ (ps ≠ [] ∧ sep = ⟨#[32]⟩ ∧ (s.toList == f0.toList) = false) := by
          rcases hs2 with ⟨h, e⟩ | ⟨h, e⟩
          · exact .inl ⟨h, e, beq_text.2 (HS.out.2.2.2.1 h)⟩
          · exact .inr ⟨h, e, by rw [Bool.eq_false_iff]; exact fun h' => HS.out.2.2.2.2 h (beq_text.1 h')⟩
        have HP1 : Hid (x = 1 → termText c (partsTo xs (k + 1)) = s ++ sep ++ ⟨#[115]⟩ ++ f1) := fun h => by
          rw [HN, h, partB_one, HFE.out]
          show s ++ sep ++ (sB ++ _) = _
          rw [← ByteArray.append_assoc]; rfl
        have HP2 : Hid (x ≠ 1 → termText c (partsTo xs (k + 1)) = s ++ sep ++ ⟨#[115]⟩ ++ f1 ++ ⟨#[94]⟩ ++ f2) := fun h => by
          rw [HN, partB_more h, HFE.out, HFE2.out]
          simp only [← ByteArray.append_assoc]; rfl
        clear hs2 HN
        by_cases hx1 : x = 1
        · have z1 : (x != 1) = false := by simp [hx1]
          have HQ1 := Lib.hid (HP1.out hx1)
          clear hx1 HP1 HP2 g4 g5 g4'
          rcases hq with ⟨-, rfl, z2⟩ | ⟨-, rfl, z2⟩
          all_goals
            go_wp2_with fail
            have hc := specFormatInt_any (w := w2) ((k : Int) + 1) HK1.out
            rw [← HFE.out] at hc
            refine hc.mono ?_
            clear hc
            rintro e w3 ⟨rfl, b⟩
            have HR3 : Hid (Below (w.heap.size + 1) (boxT w (.slice (some ⟨b1, o1, none⟩) n cc) c) w3) := HR2.out.trans (b.mono (by have := HR2.out.size; rw [boxT_size] at this; exact this))
            clear b
            go_wp2_with fail
            go_roundw
            case rel => exact ⟨k + 1, by omega, by go_num, by rw [HQ1.out], HR3.out⟩
            case measure => simp [intOf]; omega
        · have z1 : (x != 1) = true := by simp [hx1]
          have HQ1 := Lib.hid (HP2.out hx1)
          clear hx1 HP1 HP2
          rcases hq with ⟨-, rfl, z2⟩ | ⟨-, rfl, z2⟩
          all_goals
            go_wp2_with fail
            have hc := specFormatInt_any (w := w2) ((k : Int) + 1) HK1.out
            rw [← HFE.out] at hc
            refine hc.mono ?_
            clear hc
            rintro e w3 ⟨rfl, b⟩
            have HR3 : Hid (Below (w.heap.size + 1) (boxT w (.slice (some ⟨b1, o1, none⟩) n cc) c) w3) := HR2.out.trans (b.mono (by have := HR2.out.size; rw [boxT_size] at this; exact this))
            clear b
            go_wp2_with fail
            have hc := specFormatInt_any (w := w3) x HXI.out
            rw [← HFE2.out] at hc
            refine hc.mono ?_
            clear hc
            rintro e w4 ⟨rfl, b⟩
            have HR4 : Hid (Below (w.heap.size + 1) (boxT w (.slice (some ⟨b1, o1, none⟩) n cc) c) w4) := HR3.out.trans (b.mono (by have := HR3.out.size; rw [boxT_size] at this; exact this))
            clear b
            go_wp2_with fail
            go_roundw
            case rel => exact ⟨k + 1, by omega, by go_num, by rw [HQ1.out], HR4.out⟩
            case measure => simp [intOf]; omega
    · have hkn : k = n := by omega
      subst hkn
      have HE : Hid (s = formatTerm (xs, c)) := by rw [Hid, HF.out, HS.out.2.1, HS.out.1]
      go_wp2_with fail
      go_ret
      exact ⟨retS HE.out, HB.out⟩
end Go.Proofs.Ytkibbomfpklghaa
