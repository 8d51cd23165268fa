/-
  FormatPerm, of the program and of the reference.
-/
import Derived.Test.YtkibbomfpklghaaJoin
import Derived.Test.YtkibbomfpklghaaFmt
import Derived.Test.YtkibbomfpklghaaFmtS
import Derived.Test.YtkibbomfpklghaaPermOk
namespace Go.Proofs.Ytkibbomfpklghaa
open Go.RowKit Go.Deep

def commaB : ByteArray := ⟨#[44]⟩
def joinInts (p : List Int) : ByteArray := joinB (p.map fmt) commaB
def formatPerm (p : List Int) : ByteArray := if permOk p = true then joinInts p else ⟨#[]⟩
theorem formatPerm_yes {p : List Int} (h : permOk p = true) : formatPerm p = joinInts p := by unfold formatPerm; rw [if_pos h]
theorem formatPerm_no {p : List Int} (h : permOk p = false) : formatPerm p = ⟨#[]⟩ := by unfold formatPerm; rw [if_neg (by rw [h]; simp)]
def IntsR (p : List Int) : Prop := p.length ≤ 1048576 ∧ ∀ x ∈ p, -9223372036854775808 ≤ x ∧ x ≤ 9223372036854775807
theorem permR {p : List Int} (h : permOk p = true) : IntsR p := by
  have h1 := permOk_le h
  exact ⟨by omega, fun x hx => by have := permOk_mem h x hx; omega⟩
theorem totB_fmt {p : List Int} (h : ∀ x ∈ p, -9223372036854775808 ≤ x ∧ x ≤ 9223372036854775807) : totB (p.map fmt) ≤ 20 * p.length := by
  induction p with
  | nil => simp [totB]
  | cons x p ih =>
    have h1 := fmt_size (h x (by simp))
    have h2 := ih fun y hy => h y (by simp [hy])
    simp only [totB, List.map_cons, List.sum_cons, List.length_cons] at *
    omega
theorem joinInts_size {p : List Int} (h : IntsR p) : (joinInts p).size ≤ 21 * p.length := by
  have h1 := joinB_size (p.map fmt) commaB
  have h2 := totB_fmt h.2
  rw [List.length_map] at h1
  have h3 : commaB.size = 1 := rfl
  rw [h3] at h1
  unfold joinInts
  omega
theorem formatPerm_size (p : List Int) : (formatPerm p).size ≤ 1048576 := by
  cases h : permOk p with
  | true =>
    rw [formatPerm_yes h]
    have h1 := joinInts_size (permR h)
    have h2 := permOk_le h
    omega
  | false => rw [formatPerm_no h]; exact Nat.zero_le _

set_option maxHeartbeats 1600000 in
theorem commas_any {w : World} {a : Value} {p : List Int} (ha : RI w a p) (hr : IntsR p) (sep : ByteArray) (hsep : sep = commaB) :
    Calls Try.prog 53 #[a, .string sep] w fun e w' => e = .returned (.string (joinInts p)) ∧ Below w.heap.size w w' := by
  obtain ⟨A, c, rfl, -, hx⟩ := ha
  obtain ⟨n, hn⟩ : ∃ n, n = p.length := ⟨_, rfl⟩
  have hl : n ≤ 1048576 := by have := hr.1; omega
  rw [← hn] at hx ⊢
  have HL := Lib.hid hn
  have HX := Lib.hid hx
  have HR0 := Lib.hid hr
  subst hsep
  clear hn hx hr
  go_enter Try.func53, Try.ntmps53
  go_wp2_with fail
  have H0 : Hid (OSS (w.alloc (.cells #[] 9)) w.heap.size (.slice (some ⟨w.heap.size, 0, none⟩) 0 0) ((p.take 0).map fmt) ∧ Below w.heap.size w (w.alloc (.cells #[] 9))) := ⟨OSS.lit w, (Below.refl _ _).alloc (Nat.le_refl _) _⟩
  go_loopw [5, 11] (fun v i wr => ∃ k : Nat, k ≤ n ∧ i = .int .i64 k ∧ Hid (OSS wr w.heap.size v ((p.take k).map fmt) ∧ Below w.heap.size w wr)) (fun _ i _ => n - (intOf i).toNat)
  case atStart => exact ⟨0, Nat.zero_le _, rfl, H0.out⟩
  case round =>
    obtain ⟨k, hk, rfl, HR⟩ := hrel
    obtain ⟨done, hdone⟩ : ∃ done, done = (p.take k).map fmt := ⟨_, rfl⟩
    have hdl : done.length = k := by rw [hdone, List.length_map, List.length_take]; have := HL.out; omega
    rw [← hdone] at HR
    obtain ⟨A3, c3, rfl, -⟩ := OSS.form HR.out.1
    rw [hdl] at HR ⊢
    have HDL := Lib.hid hdl
    by_cases hlt : k < n
    · obtain ⟨b1, o1, rfl, hb1, hc1⟩ := HX.out (by have := HL.out; omega)
      have hkl : k < p.length := by have := HL.out; omega
      have e1 := (HR.out.2.cell (p := ⟨b1, o1 + k, none⟩) hb1).trans (hc1 k (by have := HL.out; omega))
      have hxr := HR0.out.2 (p.getD k 0) (getD_mem hkl)
      have htk : p.take (k + 1) = p.take k ++ [p.getD k 0] := take_succ_getD hkl
      obtain ⟨x, hx⟩ : ∃ x, x = p.getD k 0 := ⟨_, rfl⟩
      rw [← hx] at e1 hxr htk
      have HT : Hid ((p.take (k + 1)).map fmt = done ++ [fmt x]) := by rw [Hid, htk, List.map_append, ← hdone]; rfl
      have HXR := Lib.hid hxr
      clear hc1 hkl hxr htk hx hdone hdl
      go_wp2_with fail
      refine (implFormatIntB_any x HXR.out).mono ?_
      rintro e w2 ⟨rfl, b⟩
      have HO2 := Lib.hid (And.intro (OSS.step HR.out.1 b) (bstep HR.out.2 b))
      clear b e1
      go_wp2_with (at_builtin; refine wpList_appStr _ rfl (.tmp 15) (.tmp 18) rfl w.heap.size _ done (fmt x) rfl rfl rfl HO2.out.1 (by have := HDL.out; omega) HO2.out.2.size ?_; intro v3 w3 ho hb _)
      have HN : Hid (OSS w3 w.heap.size v3 ((p.take (k + 1)).map fmt) ∧ Below w.heap.size w w3) := ⟨by rw [HT.out]; exact ho, HO2.out.2.trans hb⟩
      clear ho hb
      go_wp2_with fail
      go_roundw
      case rel => exact ⟨k + 1, by omega, by go_num, HN.out⟩
      case measure => simp [intOf]; omega
    · have hde : done = p.map fmt := by rw [hdone, List.take_of_length_le (by have := HL.out; omega)]
      have hsz : commaB.size * done.length + totB done ≤ 140737488355328 := by
        have h1 := totB_fmt HR0.out.2
        rw [← hde] at h1
        have h3 : commaB.size = 1 := rfl
        rw [h3]
        have := HR0.out.1
        have := HDL.out
        have := HL.out
        omega
      have HS := Lib.hid hsz
      have HJ : Hid (joinB done commaB = joinInts p) := by rw [hde]; rfl
      have HRS : Hid (RSS wr (.slice A3 k c3) done) := by
        have h := HR.out.1
        exact OSS.reads h
      clear hde hdone hsz hdl
      go_wp2_with fail
      refine (implJoin_any commaB HRS.out (by have := HDL.out; omega) HS.out).mono ?_
      rw [HJ.out]
      rintro e w4 ⟨rfl, b⟩
      have HB := Lib.hid (bstep HR.out.2 b)
      clear b
      go_wp2_with fail
      go_ret
      exact ⟨rfl, HB.out⟩

set_option maxHeartbeats 1600000 in
theorem l02Join_any {w : World} {a : Value} {p : List Int} (ha : RI w a p) (hr : IntsR p) :
    Calls Try.prog 51 #[a] w fun e w' => e = .returned (.string (joinInts p)) ∧ Below w.heap.size w w' := by
  obtain ⟨A, c, rfl, -, hx⟩ := ha
  obtain ⟨n, hn⟩ : ∃ n, n = p.length := ⟨_, rfl⟩
  have hl : n ≤ 1048576 := by have := hr.1; omega
  rw [← hn] at hx ⊢
  have HL := Lib.hid hn
  have HX := Lib.hid hx
  have HR0 := Lib.hid hr
  clear hn hx hr
  go_enter Try.func51, Try.ntmps51
  go_wp2_with fail
  have H0 : Hid (OSS (w.alloc (.cells #[] 9)) w.heap.size (.slice (some ⟨w.heap.size, 0, none⟩) 0 0) ((p.take 0).map fmt) ∧ Below w.heap.size w (w.alloc (.cells #[] 9))) := ⟨OSS.lit w, (Below.refl _ _).alloc (Nat.le_refl _) _⟩
  go_loopw [3, 9] (fun v i wr => ∃ k : Nat, k ≤ n ∧ i = .int .i64 k ∧ Hid (OSS wr w.heap.size v ((p.take k).map fmt) ∧ Below w.heap.size w wr)) (fun _ i _ => n - (intOf i).toNat)
  case atStart => exact ⟨0, Nat.zero_le _, rfl, H0.out⟩
  case round =>
    obtain ⟨k, hk, rfl, HR⟩ := hrel
    obtain ⟨done, hdone⟩ : ∃ done, done = (p.take k).map fmt := ⟨_, rfl⟩
    have hdl : done.length = k := by rw [hdone, List.length_map, List.length_take]; have := HL.out; omega
    rw [← hdone] at HR
    obtain ⟨A3, c3, rfl, -⟩ := OSS.form HR.out.1
    rw [hdl] at HR ⊢
    have HDL := Lib.hid hdl
    by_cases hlt : k < n
    · obtain ⟨b1, o1, rfl, hb1, hc1⟩ := HX.out (by have := HL.out; omega)
      have hkl : k < p.length := by have := HL.out; omega
      have e1 := (HR.out.2.cell (p := ⟨b1, o1 + k, none⟩) hb1).trans (hc1 k (by have := HL.out; omega))
      have hxr := HR0.out.2 (p.getD k 0) (getD_mem hkl)
      have htk : p.take (k + 1) = p.take k ++ [p.getD k 0] := take_succ_getD hkl
      obtain ⟨x, hx⟩ : ∃ x, x = p.getD k 0 := ⟨_, rfl⟩
      rw [← hx] at e1 hxr htk
      have HT : Hid ((p.take (k + 1)).map fmt = done ++ [fmt x]) := by rw [Hid, htk, List.map_append, ← hdone]; rfl
      have HXR := Lib.hid hxr
      clear hc1 hkl hxr htk hx hdone hdl
      go_wp2_with fail
      refine (specFormatInt_any x HXR.out).mono ?_
      rintro e w2 ⟨rfl, b⟩
      have HO2 := Lib.hid (And.intro (OSS.step HR.out.1 b) (bstep HR.out.2 b))
      clear b e1
      go_wp2_with (at_builtin; refine wpList_appStr _ rfl (.tmp 13) (.tmp 16) rfl w.heap.size _ done (fmt x) rfl rfl rfl HO2.out.1 (by have := HDL.out; omega) HO2.out.2.size ?_; intro v3 w3 ho hb _)
      have HN : Hid (OSS w3 w.heap.size v3 ((p.take (k + 1)).map fmt) ∧ Below w.heap.size w w3) := ⟨by rw [HT.out]; exact ho, HO2.out.2.trans hb⟩
      clear ho hb
      go_wp2_with fail
      go_roundw
      case rel => exact ⟨k + 1, by omega, by go_num, HN.out⟩
      case measure => simp [intOf]; omega
    · have hde : done = p.map fmt := by rw [hdone, List.take_of_length_le (by have := HL.out; omega)]
      have hsz : commaB.size * done.length + totB done ≤ 140737488355328 := by
        have h1 := totB_fmt HR0.out.2
        rw [← hde] at h1
        have h3 : commaB.size = 1 := rfl
        rw [h3]
        have := HR0.out.1
        have := HDL.out
        have := HL.out
        omega
      have HS := Lib.hid hsz
      have HJ : Hid (joinB done commaB = joinInts p) := by rw [hde]; rfl
      have HRS : Hid (RSS wr (.slice A3 k c3) done) := by
        have h := HR.out.1
        exact OSS.reads h
      clear hde hdone hsz hdl
      go_wp2_with fail
      refine (specJoin_any commaB HRS.out (by have := HDL.out; omega) HS.out).mono ?_
      rw [HJ.out]
      rintro e w4 ⟨rfl, b⟩
      have HB := Lib.hid (bstep HR.out.2 b)
      clear b
      go_wp2_with fail
      go_ret
      exact ⟨rfl, HB.out⟩

theorem implFormatPerm_any {w : World} {a : Value} {p : List Int} (ha : RI w a p) :
    Calls Try.prog 22 #[a] w fun e w' => e = .returned (.string (formatPerm p)) ∧ Below w.heap.size w w' := by
  have HA := Lib.hid ha
  obtain ⟨A, c, rfl⟩ := ha.shape
  clear ha
  cases hp : permOk p with
  | false =>
    have HC := Lib.hid (formatPerm_no hp)
    have HP := Lib.hid hp
    clear hp
    go_enter Try.func22, Try.ntmps22
    go_wp2_with fail
    refine (implPermOk_any HA.out).mono ?_
    rw [HP.out]
    rintro e w1 ⟨rfl, b1⟩
    have HB := Lib.hid b1
    clear b1
    go_wp2_with fail
    go_ret
    exact ⟨retS HC.out.symm, HB.out⟩
  | true =>
    have HC := Lib.hid (formatPerm_yes hp)
    have HP := Lib.hid hp
    have HR := Lib.hid (permR hp)
    clear hp
    go_enter Try.func22, Try.ntmps22
    go_wp2_with fail
    refine (implPermOk_any HA.out).mono ?_
    rw [HP.out]
    rintro e w1 ⟨rfl, b1⟩
    have HB := Lib.hid b1
    clear b1
    go_wp2_with fail
    refine (commas_any (HA.out.below HB.out) HR.out _ rfl).mono ?_
    rintro e w2 ⟨rfl, b⟩
    have HB2 := Lib.hid (bstep HB.out b)
    clear b
    go_wp2_with fail
    go_ret
    exact ⟨retS HC.out.symm, HB2.out⟩

theorem specFormatPerm_any {w : World} {a : Value} {p : List Int} (ha : RI w a p) :
    Calls Try.prog 20 #[a] w fun e w' => e = .returned (.string (formatPerm p)) ∧ Below w.heap.size w w' := by
  have HA := Lib.hid ha
  obtain ⟨A, c, rfl⟩ := ha.shape
  clear ha
  cases hp : permOk p with
  | false =>
    have HC := Lib.hid (formatPerm_no hp)
    have HP := Lib.hid hp
    clear hp
    go_enter Try.func20, Try.ntmps20
    go_wp2_with fail
    refine (specPermOk_any HA.out).mono ?_
    rw [HP.out]
    rintro e w1 ⟨rfl, b1⟩
    have HB := Lib.hid b1
    clear b1
    go_wp2_with fail
    go_ret
    exact ⟨retS HC.out.symm, HB.out⟩
  | true =>
    have HC := Lib.hid (formatPerm_yes hp)
    have HP := Lib.hid hp
    have HR := Lib.hid (permR hp)
    clear hp
    go_enter Try.func20, Try.ntmps20
    go_wp2_with fail
    refine (specPermOk_any HA.out).mono ?_
    rw [HP.out]
    rintro e w1 ⟨rfl, b1⟩
    have HB := Lib.hid b1
    clear b1
    go_wp2_with fail
    refine (l02Join_any (HA.out.below HB.out) HR.out).mono ?_
    rintro e w2 ⟨rfl, b⟩
    have HB2 := Lib.hid (bstep HB.out b)
    clear b
    go_wp2_with fail
    go_ret
    exact ⟨retS HC.out.symm, HB2.out⟩

end Go.Proofs.Ytkibbomfpklghaa
