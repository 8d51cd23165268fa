/-
  SplitAny, of the program and of the reference.
-/
import Derived.Test.YtkibbomfpklghaaMemS
import Derived.Test.YtkibbomfpklghaaParseFn
import Derived.Lib.Bytealg
import Derived.Test.YtkibbomfpklghaaShelf
namespace Go.Proofs.Ytkibbomfpklghaa
open Go.RowKit Go.Deep

def cutAt (s sep : ByteArray) (k : Nat) : Bool := decide ((bts s).getD k 0 ∈ bts sep)
/-- The parts before the sign at k, and where the next part begins. -/
def splitTo (s sep : ByteArray) : Nat → List ByteArray × Nat
  | 0 => ([], 0)
  | k + 1 => if cutAt s sep k = true then ((splitTo s sep k).1 ++ [s.extract (splitTo s sep k).2 k], k + 1) else splitTo s sep k
def splitAny (s sep : ByteArray) : List ByteArray := (splitTo s sep s.size).1 ++ [s.extract (splitTo s sep s.size).2 s.size]
theorem splitTo_yes {s sep : ByteArray} {k : Nat} (h : cutAt s sep k = true) : splitTo s sep (k + 1) = ((splitTo s sep k).1 ++ [s.extract (splitTo s sep k).2 k], k + 1) := by rw [splitTo, if_pos h]
theorem splitTo_no {s sep : ByteArray} {k : Nat} (h : cutAt s sep k = false) : splitTo s sep (k + 1) = splitTo s sep k := by rw [splitTo, if_neg (by rw [h]; simp)]
theorem splitTo_le (s sep : ByteArray) (k : Nat) : (splitTo s sep k).2 ≤ k ∧ (splitTo s sep k).1.length ≤ k := by
  induction k with
  | zero => simp [splitTo]
  | succ k ih =>
    cases h : cutAt s sep k with
    | true => rw [splitTo_yes h]; simp; omega
    | false => rw [splitTo_no h]; omega
theorem splitAny_len (s sep : ByteArray) : (splitAny s sep).length ≤ s.size + 1 := by
  unfold splitAny
  rw [List.length_append]
  have := (splitTo_le s sep s.size).2
  simp only [List.length_cons, List.length_nil]; omega
theorem splitAny_ne (s sep : ByteArray) : 1 ≤ (splitAny s sep).length := by unfold splitAny; simp
theorem mem_bts {b : ByteArray} {x : UInt8} : ((x.toNat : Int) ∈ bts b) ↔ x ∈ b.data.toList := by
  unfold bts
  rw [List.mem_map]
  constructor
  · rintro ⟨y, hy, he⟩
    have : y.toNat = x.toNat := by omega
    rw [← UInt8.toNat_inj.1 this]; exact hy
  · intro h; exact ⟨x, h, rfl⟩
theorem idx_mem (l : List UInt8) (c : UInt8) : decide (0 ≤ Lib.indexByte l c) = decide (c ∈ l) := by
  induction l with
  | nil => simp [Lib.indexByte]
  | cons b l ih =>
    have hg := Lib.indexByte_ge l c
    unfold Lib.indexByte
    by_cases h : b = c
    · subst h; simp
    · have hb : (b == c) = false := beq_eq_false_iff_ne.2 h
      rw [hb]
      simp only [Bool.false_eq_true, if_false]
      rw [decide_eq_decide] at ih ⊢
      rw [List.mem_cons]
      by_cases hm : c ∈ l
      · have h0 := ih.2 hm
        have h1 : (Lib.indexByte l c == -1) = false := beq_eq_false_iff_ne.2 (by omega)
        rw [h1]
        simp only [Bool.false_eq_true, if_false]
        exact ⟨fun _ => .inr hm, fun _ => by omega⟩
      · have h0 : ¬ 0 ≤ Lib.indexByte l c := fun h => hm (ih.1 h)
        have h1 : (Lib.indexByte l c == -1) = true := beq_iff_eq.2 (by omega)
        rw [h1]
        simp only [if_true]
        constructor
        · intro h; omega
        · rintro (h' | h')
          · exact absurd h'.symm h
          · exact absurd h' hm
theorem cut_idx {s sep : ByteArray} {k : Nat} (hk : k < s.size) : decide (0 ≤ Lib.indexByte sep.data.toList ((s[k].toNat : Int)).toNat.toUInt8) = cutAt s sep k := by
  rw [idx_mem]
  unfold cutAt
  rw [decide_eq_decide, bts_at hk, mem_bts, Int.toNat_natCast]
  have : s[k].toNat.toUInt8 = s[k] := UInt8.ofNat_toNat
  rw [this]
/-- What the loops of SplitAny know. -/
structure SplitSt (w wr : World) (s sep : ByteArray) (k : Nat) (v : Value) : Prop where
  below : Below w.heap.size w wr
  out : OSS wr w.heap.size v (splitTo s sep k).1
theorem SplitSt.drewN {w wr : World} {s sep : ByteArray} {k : Nat} {v : Value} (h : SplitSt w wr s sep k v) (n : Nat) : SplitSt w (wr.drewN n) s sep k v := ⟨bstepN h.below n, h.out⟩

set_option maxHeartbeats 1600000 in
theorem implSplitAny_any {w : World} (s sep : ByteArray) (hs : s.size ≤ 1048576) :
    Calls Try.prog 36 #[.string s, .string sep] w fun e w' => ∃ v, e = .returned v ∧ OSS w' w.heap.size v (splitAny s sep) ∧ Below w.heap.size w w' := by
  go_enter Try.func36, Try.ntmps36
  go_wp2_with fail
  have H0 : Hid (SplitSt w (w.alloc (.cells #[] 9)) s sep 0 (.slice (some ⟨w.heap.size, 0, none⟩) 0 0)) := ⟨(Below.refl _ _).alloc (Nat.le_refl _) _, OSS.lit w⟩
  go_loopw [5, 6, 11] (fun v f i wr => ∃ k : Nat, k ≤ s.size ∧ i = .int .i64 k ∧ f = .int .i64 (splitTo s sep k).2 ∧ Hid (SplitSt w wr s sep k v)) (fun _ _ i _ => s.size - (intOf i).toNat)
  case atStart => exact ⟨0, Nat.zero_le _, rfl, rfl, H0.out⟩
  case round =>
    obtain ⟨k, hk, rfl, rfl, HR⟩ := hrel
    obtain ⟨A5, c5, rfl, -⟩ := OSS.form HR.out.out
    obtain ⟨hf1, hf2⟩ := splitTo_le s sep k
    obtain ⟨f, hf⟩ : ∃ f, f = (splitTo s sep k).2 := ⟨_, rfl⟩
    obtain ⟨done, hd⟩ : ∃ done, done = (splitTo s sep k).1 := ⟨_, rfl⟩
    have HO : Hid (OSS wr w.heap.size (.slice A5 done.length c5) done) := by rw [hd]; exact HR.out.out
    have HB := Lib.hid HR.out.below
    rw [← hf] at hf1 ⊢
    rw [← hd] at hf2 ⊢
    clear HR
    by_cases hlt : k < s.size
    · have hci := cut_idx (sep := sep) hlt
      obtain ⟨z, hz⟩ : ∃ z, z = Lib.indexByte sep.data.toList ((s[k].toNat : Int)).toNat.toUInt8 := ⟨_, rfl⟩
      have hix := Sh.strings_IndexByte sep (s[k].toNat : Int) wr
      rw [← hz] at hix hci
      have HIX := Lib.hid hix
      clear hix hz
      cases hc : cutAt s sep k with
      | true =>
        rw [hc] at hci
        have HT := Lib.hid (splitTo_yes hc)
        rw [← hf, ← hd] at HT
        clear hc hf hd
        go_wp2_with fail
        refine HIX.out.mono ?_
        rintro e w1 ⟨rfl, rfl⟩
        go_wp2_with (at_builtin; refine wpList_appStr _ rfl (.tmp 20) (.tmp 25) rfl w.heap.size _ done (s.extract f k) rfl rfl rfl HO.out (by omega) HB.out.size ?_; intro v3 w3 ho hb _)
        have HN : Hid (SplitSt w w3 s sep (k + 1) v3) := ⟨HB.out.trans hb, by rw [HT.out]; exact ho⟩
        clear ho hb
        go_wp2_with fail
        go_roundw
        case rel => exact ⟨k + 1, by omega, by go_num, by rw [HT.out]; go_num, HN.out⟩
        case measure => simp [intOf]; omega
      | false =>
        rw [hc] at hci
        have HT := Lib.hid (splitTo_no hc)
        have HN : Hid (SplitSt w wr s sep (k + 1) (.slice A5 done.length c5)) := ⟨HB.out, by rw [HT.out, ← hd]; exact HO.out⟩
        have HF : Hid ((splitTo s sep (k + 1)).2 = f) := by rw [Hid, HT.out, ← hf]
        clear hc hf hd HT
        go_wp2_with fail
        refine HIX.out.mono ?_
        rintro e w1 ⟨rfl, rfl⟩
        go_wp2_with fail
        go_roundw
        case rel => exact ⟨k + 1, by omega, by go_num, by rw [HF.out], HN.out⟩
        case measure => simp [intOf]; omega
    · have hE : splitAny s sep = done ++ [s.extract f s.size] := by
        have e : s.size = k := by omega
        rw [hf, hd]
        unfold splitAny
        rw [e]
      have HE := Lib.hid hE
      clear hE
      have hfs : f ≤ s.size := by omega
      clear hf hd
      go_wp2_with (at_builtin; refine wpList_appStr _ rfl (.tmp 30) (.tmp 34) rfl w.heap.size _ done (s.extract f s.size) rfl rfl rfl HO.out (by omega) HB.out.size ?_; intro v3 w3 ho hb _)
      have HN : Hid (OSS w3 w.heap.size v3 (splitAny s sep) ∧ Below w.heap.size w w3) := ⟨by rw [HE.out]; exact ho, HB.out.trans hb⟩
      obtain ⟨A7, c7, rfl, -⟩ := OSS.form ho
      clear ho hb
      go_wp2_with fail
      go_ret
      exact ⟨_, rfl, HN.out.1, HN.out.2⟩

theorem cut_last {s sep : ByteArray} {k : Nat} (h : ∀ j, j < sep.size → (bts sep).getD j 0 ≠ (bts s).getD k 0) : cutAt s sep k = false := by
  refine decide_eq_false fun hm => ?_
  obtain ⟨j, hj, he⟩ := List.mem_iff_getElem.1 hm
  rw [bts_len] at hj
  exact h j hj (by rw [← he]; simp [show j < (bts sep).length by rw [bts_len]; exact hj])
theorem cut_hit {s sep : ByteArray} {k j : Nat} (hj : j < sep.size) (h : (bts sep).getD j 0 = (bts s).getD k 0) : cutAt s sep k = true :=
  decide_eq_true (by rw [← h]; simp [show j < (bts sep).length by rw [bts_len]; exact hj])
set_option maxHeartbeats 1600000 in
set_option maxRecDepth 100000 in
theorem specSplitAny_any {w : World} (s sep : ByteArray) (hs : s.size ≤ 1048576) (hp : sep.size ≤ 1048576) :
    Calls Try.prog 70 #[.string s, .string sep] w fun e w' => ∃ v, e = .returned v ∧ OSS w' w.heap.size v (splitAny s sep) ∧ Below w.heap.size w w' := by
  go_enter Try.func70, Try.ntmps70
  go_wp2_with fail
  have H0 : Hid (SplitSt w (w.alloc (.cells #[] 9)) s sep 0 (.slice (some ⟨w.heap.size, 0, none⟩) 0 0)) := ⟨(Below.refl _ _).alloc (Nat.le_refl _) _, OSS.lit w⟩
  go_loopw [5, 6, 7] (fun v f i wr => ∃ k : Nat, k ≤ s.size ∧ i = .int .i64 k ∧ f = .int .i64 (splitTo s sep k).2 ∧ Hid (SplitSt w wr s sep k v)) (fun _ _ i _ => s.size - (intOf i).toNat)
  case atStart => exact ⟨0, Nat.zero_le _, rfl, rfl, H0.out⟩
  case round =>
    obtain ⟨k, hk, rfl, rfl, HR⟩ := hrel
    obtain ⟨A5, c5, rfl, -⟩ := OSS.form HR.out.out
    obtain ⟨hf1, hf2⟩ := splitTo_le s sep k
    obtain ⟨f, hf⟩ : ∃ f, f = (splitTo s sep k).2 := ⟨_, rfl⟩
    obtain ⟨done, hd⟩ : ∃ done, done = (splitTo s sep k).1 := ⟨_, rfl⟩
    have HO : Hid (OSS wr w.heap.size (.slice A5 done.length c5) done) := by rw [hd]; exact HR.out.out
    have HB := Lib.hid HR.out.below
    rw [← hf] at hf1 ⊢
    rw [← hd] at hf2 ⊢
    clear HR
    by_cases hlt : k < s.size
    · have HFD := Lib.hid (And.intro hf hd)
      have HC0 : Hid ((bts s).getD k 0 = (s[k].toNat : Int)) := bts_at hlt
      clear hf hd
      go_wp2_with fail
      go_loopw [5, 6, 8] (fun v5 v6 i wi => ∃ j : Nat, j ≤ sep.size ∧ i = .int .i64 j ∧ v5 = .slice A5 done.length c5 ∧ v6 = .int .i64 f ∧ Hid (∀ i', i' < j → (bts sep).getD i' 0 ≠ (bts s).getD k 0) ∧ Hid (OSS wi w.heap.size (.slice A5 done.length c5) done ∧ Below w.heap.size w wi)) (fun _ _ i _ => sep.size - (intOf i).toNat)
      case atStart => exact ⟨0, Nat.zero_le _, rfl, rfl, rfl, fun i' h => absurd h (Nat.not_lt_zero _), HO.out, HB.out⟩
      case round =>
        obtain ⟨j, hj, rfl, rfl, rfl, HJ, HI⟩ := hrel
        by_cases hjl : j < sep.size
        · have HC1 : Hid ((bts sep).getD j 0 = (sep[j].toNat : Int)) := bts_at hjl
          by_cases he : s[k].toNat = sep[j].toNat
          · have hq1 : ((s[k].toNat : Int) == (sep[j].toNat : Int)) = true := beq_iff_eq.2 (by omega)
            have hq2 : (s[k].toNat == sep[j].toNat) = true := beq_iff_eq.2 he
            have HT := Lib.hid (splitTo_yes (cut_hit (s := s) (sep := sep) (k := k) (j := j) hjl (by rw [HC1.out, HC0.out, he])))
            rw [← HFD.out.1, ← HFD.out.2] at HT
            clear he
            go_wp2_with fail
            go_quiet (fail)
            obtain ⟨wd, hwd⟩ : ∃ wd, wd = wr.drewN nq := ⟨_, rfl⟩
            have HI2 : Hid (OSS wd w.heap.size (.slice A5 done.length c5) done ∧ Below w.heap.size w wd) := by rw [hwd]; exact ⟨HI.out.1, bstepN HI.out.2 _⟩
            rw [← hwd]
            clear hwd
            go_wp2_with (at_builtin; refine wpList_appStr _ rfl (.tmp 29) (.tmp 34) rfl w.heap.size _ done (s.extract f k) rfl rfl rfl HI2.out.1 (by omega) HI2.out.2.size ?_; intro v3 w3 ho hb _)
            have HN : Hid (SplitSt w w3 s sep (k + 1) v3) := ⟨HI2.out.2.trans hb, by rw [HT.out]; exact ho⟩
            clear ho hb
            go_wp2_with fail
            go_roundw
            case rel => exact ⟨k + 1, by omega, by go_num, by rw [HT.out]; go_num, HN.out⟩
            case measure => simp [intOf]; omega
          · have hq1 : ((s[k].toNat : Int) == (sep[j].toNat : Int)) = false := beq_eq_false_iff_ne.2 (by omega)
            have hq2 : (s[k].toNat == sep[j].toNat) = false := beq_eq_false_iff_ne.2 he
            have HNE : Hid (∀ i', i' < j + 1 → (bts sep).getD i' 0 ≠ (bts s).getD k 0) := fun i' h => by
              rcases Nat.lt_or_ge i' j with h' | h'
              · exact HJ.out i' h'
              · have e : i' = j := by omega
                rw [e, HC1.out, HC0.out]; omega
            clear he
            go_wp2_with fail
            go_quiet (fail)
            go_wp2_with fail
            go_roundw
            case rel => exact ⟨j + 1, by omega, by go_num, rfl, rfl, HNE.out, HI.out.1, bstepN HI.out.2 _⟩
            case measure => simp [intOf]; omega
        · have HT := Lib.hid (splitTo_no (cut_last (s := s) (sep := sep) (k := k) fun i' h => HJ.out i' (by omega)))
          have HN : Hid (SplitSt w wr s sep (k + 1) (.slice A5 done.length c5)) := ⟨HI.out.2, by rw [HT.out, ← HFD.out.2]; exact HI.out.1⟩
          have HF : Hid ((splitTo s sep (k + 1)).2 = f) := by rw [Hid, HT.out, ← HFD.out.1]
          go_wp2_with fail
          go_roundw
          case rel => exact ⟨k + 1, by omega, by go_num, by rw [HF.out], HN.out⟩
          case measure => simp [intOf]; omega
    · have hE : splitAny s sep = done ++ [s.extract f s.size] := by
        have e : s.size = k := by omega
        rw [hf, hd]
        unfold splitAny
        rw [e]
      have HE := Lib.hid hE
      clear hE
      have hfs : f ≤ s.size := by omega
      clear hf hd
      go_wp2_with (at_builtin; refine wpList_appStr _ rfl (.tmp 38) (.tmp 42) rfl w.heap.size _ done (s.extract f s.size) rfl rfl rfl HO.out (by omega) HB.out.size ?_; intro v3 w3 ho hb _)
      have HN : Hid (OSS w3 w.heap.size v3 (splitAny s sep) ∧ Below w.heap.size w w3) := ⟨by rw [HE.out]; exact ho, HB.out.trans hb⟩
      obtain ⟨A7, c7, rfl, -⟩ := OSS.form ho
      clear ho hb
      go_wp2_with fail
      go_ret
      exact ⟨_, rfl, HN.out.1, HN.out.2⟩
end Go.Proofs.Ytkibbomfpklghaa
