/-
  The draws of the laws: a cursor, its bytes, numbers below a bound.
-/
import Derived.Test.YtfanohebejemmaaPerm1
import Derived.Test.YtfanohebejemmaaCyc
import Derived.Test.YtfanohebejemmaaGenFn
import Derived.Laws.BitsAllLaws
import Derived.Laws.BitsLemmas
import Derived.StillTailTactics
namespace Go.Proofs.Ytfanohebejemmaa
open Go.RowKit Go.Deep

theorem and_small (x : Int) (m : Nat) (hm : m < 9223372036854775808) : 0 ≤ bits .and .i64 x (m : Int) ∧ bits .and .i64 x (m : Int) ≤ m := by
  show 0 ≤ IntKind.i64.wrap ((BitVec.ofInt 64 x &&& BitVec.ofInt 64 (m : Int)).toNat : Int) ∧ IntKind.i64.wrap ((BitVec.ofInt 64 x &&& BitVec.ofInt 64 (m : Int)).toNat : Int) ≤ m
  have e : (BitVec.ofInt 64 (m : Int)).toNat = m := by rw [BitVec.ofInt_natCast, BitVec.toNat_ofNat]; exact Nat.mod_eq_of_lt (by omega)
  rw [BitVec.toNat_and, e, IntKind.wrap_i64]
  have : (BitVec.ofInt 64 x).toNat &&& m ≤ m := Nat.and_le_right
  omega
theorem and_255 (x : Int) : 0 ≤ bits .and .i64 x 255 ∧ bits .and .i64 x 255 ≤ 255 := and_small x 255 (by omega)

/-- A value that reads as n bytes, in a block below lo. -/
def RBy (w : World) (lo : Nat) (v : Value) (n : Nat) : Prop :=
  ∃ A c, v = .slice A n c ∧ n ≤ maxLen ∧ (0 < n → ∃ b off, A = some ⟨b, off, none⟩ ∧ b < lo ∧ ∀ k, k < n → ∃ x : Int, w.cell? ⟨b, off + k, none⟩ = some (.int .u8 x) ∧ 0 ≤ x ∧ x < 256)
theorem RBy.keep {w w' : World} {lo : Nat} {v : Value} {n : Nat} (h : RBy w lo v n) (hc : ∀ b, b < lo → w'.heap[b]? = w.heap[b]?) : RBy w' lo v n := by
  obtain ⟨A, c, hv, hl, hx⟩ := h
  refine ⟨A, c, hv, hl, fun h0 => ?_⟩
  obtain ⟨b, off, hA, hb, hx⟩ := hx h0
  refine ⟨b, off, hA, hb, fun k hk => ?_⟩
  obtain ⟨x, h1, h2⟩ := hx k hk
  exact ⟨x, (World.cell?_of_block (a := ⟨b, off + k, none⟩) (hc b hb)).trans h1, h2⟩
theorem RBy.below {w w' : World} {lo : Nat} {v : Value} {n : Nat} (h : RBy w lo v n) (hb : Below lo w w') : RBy w' lo v n := h.keep hb.block

theorem RBy.mono {w : World} {lo lo' : Nat} {v : Value} {n : Nat} (h : RBy w lo v n) (hl : lo ≤ lo') : RBy w lo' v n := by
  obtain ⟨A, c, hv, hm, hx⟩ := h
  refine ⟨A, c, hv, hm, fun h0 => ?_⟩
  obtain ⟨b, off, hA, hb, hx⟩ := hx h0
  exact ⟨b, off, hA, Nat.lt_of_lt_of_le hb hl, hx⟩
/-- What was read at w reads the same at w'. -/
theorem RBy.step {w w' : World} {v : Value} {n : Nat} (h : RBy w w.heap.size v n) (hb : Below w.heap.size w w') : RBy w' w'.heap.size v n := (h.below hb).mono hb.size

def curF (v : Value) (i h : Int) : Nat → Value := fun j => if j = 0 then v else if j = 1 then .int .i64 i else .int .i64 h
/-- A cursor at block g, over bytes that lie below lo. -/
def Cur (w : World) (lo g : Nat) : Prop := ∃ (v : Value) (n i : Nat) (h : Int), RBy w lo v n ∧ i ≤ n ∧ lo ≤ g ∧ w.rowIs g 110 3 (curF v i h)
theorem Cur.lt {w : World} {lo g : Nat} (h : Cur w lo g) : g < w.heap.size := by obtain ⟨v, n, i, x, _, _, _, h⟩ := h; exact h.lt
theorem Cur.le {w : World} {lo g : Nat} (h : Cur w lo g) : lo ≤ g := by obtain ⟨v, n, i, x, _, _, h, _⟩ := h; exact h
theorem Cur.keep {w w' : World} {lo g : Nat} (h : Cur w lo g) (hc : ∀ b, b < lo ∨ b = g → w'.heap[b]? = w.heap[b]?) : Cur w' lo g := by
  obtain ⟨v, n, i, x, h1, h2, h3, h4⟩ := h
  exact ⟨v, n, i, x, h1.keep fun b hb => hc b (.inl hb), h2, h3, h4.of_block (hc g (.inr rfl))⟩
theorem Cur.below {w w' : World} {lo g : Nat} (h : Cur w lo g) (hb : Below w.heap.size w w') : Cur w' lo g := by
  have h1 := h.lt
  have h2 := h.le
  exact h.keep fun b hb' => hb.block b (by omega)
theorem grownBy_of_below {w w' : World} {row : Option Nat} (h : Below w.heap.size w w') : w.grownBy w' row := ⟨h.os, h.tape, h.output, h.size, fun k hk _ => h.block k hk⟩
theorem OI.beside {w w' : World} {lo g : Nat} {v : Value} {xs : List Int} (h : OI w lo v xs) (hg : w.grownBy w' (some g)) (hlo : g < lo) : OI w' lo v xs :=
  h.kept hg (by
    cases e : v.ownBlock with
    | none => exact .inl rfl
    | some k => right; have := (h.lt k e).1; intro h'; cases h'; omega)

set_option maxHeartbeats 1000000 in
theorem l01Byte_any {w : World} {lo g : Nat} (hc : Cur w lo g) :
    Calls Try.prog 102 #[.pointer (some ⟨g, 0, none⟩)] w fun e w' => ∃ x : Int, e = .returned (.int .i64 x) ∧ 0 ≤ x ∧ x ≤ 255 ∧ Cur w' lo g ∧ w.grownBy w' (some g) := by
  obtain ⟨v, n, i, h, hb, hi, hlo, hr⟩ := hc
  have HB := Lib.hid hb
  obtain ⟨A, c, rfl, hn, -⟩ := hb
  have hn2 : n ≤ 9223372036854775807 := by unfold maxLen at hn; omega
  have c0 := hr.cell (i := 0) (by omega)
  have c1 := hr.cell (i := 1) (by omega)
  have c2 := hr.cell (i := 2) (by omega)
  have f2 := hr.frozen 2
  simp only [curF, if_pos, Nat.one_ne_zero, reduceIte, show ¬ (2 = 0) from by omega, show ¬ (2 = 1) from by omega] at c0 c1 c2
  have HR := Lib.hid hr
  clear hr
  go_enter Try.func102, Try.ntmps102
  obtain ⟨h2, hh2⟩ : ∃ h2, h2 = wrap64 (wrap64 (h * 6364136223846793005) + 1442695040888963407) := ⟨_, rfl⟩
  obtain ⟨w1, hw1⟩ : ∃ w1, w1 = w.setCell ⟨g, 2, none⟩ (.int .i64 h2) := ⟨_, rfl⟩
  have HR1 : Hid (w1.rowIs g 110 3 (curF (.slice A n c) i h2)) := by
    rw [hw1]
    refine (HR.out.set 2 _).congr fun j hj => ?_
    unfold curF
    by_cases e : j = 2
    · subst e; rfl
    · rw [if_neg e]
      by_cases e1 : j = 0
      · rw [if_pos e1, if_pos e1]
      · rw [if_neg e1, if_neg e1, if_pos (by omega), if_pos (by omega)]
  have HG1 : Hid (w.grownBy w1 (some g) ∧ RBy w1 lo (.slice A n c) n) := by
    have hg := grownBy_set (grownBy_of_below (Below.refl w.heap.size w) (row := some g)) 2 (.int .i64 h2)
    rw [hw1]
    exact ⟨hg, HB.out.keep fun b hb => hg.block b (by have := HR.out.lt; omega) (by intro e; cases e; omega)⟩
  have d0 := HR1.out.cell (i := 0) (by omega)
  have d1 := HR1.out.cell (i := 1) (by omega)
  have d2 := HR1.out.cell (i := 2) (by omega)
  have g1 := HR1.out.frozen 1
  simp only [curF, if_pos, Nat.one_ne_zero, reduceIte, show ¬ (2 = 0) from by omega, show ¬ (2 = 1) from by omega] at d0 d1 d2
  have e2 : wrap64 (wrap64 (h * 6364136223846793005) + 1442695040888963407) = h2 := hh2.symm
  have ew : w.setCell ⟨g, 2, none⟩ (.int .i64 h2) = w1 := hw1.symm
  clear c0 c1 hh2 hw1
  go_wp2_with fail
  clear e2 ew c2 f2
  go_quiet (fail)
  generalize hx : bits BinOp.and _ _ 255 = x
  have hx0 : 0 ≤ x ∧ x ≤ 255 := by rw [← hx]; exact and_255 _
  clear hx
  by_cases hlt : i < n
  · obtain ⟨A', c', hA, -, hcell⟩ := HG1.out.2
    obtain ⟨rfl, rfl⟩ : A = A' ∧ c = c' := by
      simp only [Value.slice.injEq] at hA
      exact ⟨hA.1, hA.2.2⟩
    obtain ⟨b, off, rfl, hb, hcell⟩ := hcell (by omega)
    obtain ⟨y, cy, hy0, hy1⟩ := hcell i hlt
    clear hcell hA
    have hlt2 : (i : Int) < n := by omega
    go_wp2_with fail
    go_quiet (fail)
    go_wp2_with fail
    go_quiet (fail)
    generalize hz : bits BinOp.and _ _ 255 = z
    have hz0 : 0 ≤ z ∧ z ≤ 255 := by rw [← hz]; exact and_255 _
    clear hz
    have hi1 : IntKind.i64.wrap ((i : Int) + 1) = (i : Int) + 1 := by rw [IntKind.wrap_i64]; omega
    have HE : Hid (∀ m : Nat, Cur ((w1.drewN m).setCell ⟨g, 1, none⟩ (.int .i64 ((i : Int) + 1))) lo g ∧ w.grownBy ((w1.drewN m).setCell ⟨g, 1, none⟩ (.int .i64 ((i : Int) + 1))) (some g)) := by
      intro m
      have hg := grownBy_set (grownBy_of_below (Below.refl w1.heap.size w1) (row := some g)) 1 (.int .i64 ((i : Int) + 1))
      have hg' : w1.grownBy ((w1.drewN m).setCell ⟨g, 1, none⟩ (.int .i64 ((i : Int) + 1))) (some g) := ⟨hg.os, hg.tape, hg.output, hg.size, hg.block⟩
      refine ⟨⟨.slice (some ⟨b, off, none⟩) n c, n, i + 1, h2, HG1.out.2.keep fun k hk => hg'.block k (by have := HR1.out.lt; omega) (by intro e; cases e; omega), hlt, hlo, ?_⟩, grownBy.trans HG1.out.1 hg'⟩
      refine World.rowIs.congr (World.rowIs.set (w := w1.drewN m) HR1.out 1 _) fun j hj => ?_
      unfold curF
      by_cases e : j = 1
      · subst e; simp
      · rw [if_neg e]
        by_cases e1 : j = 0
        · rw [if_pos e1, if_pos e1]
        · rw [if_neg e1, if_neg e1, if_neg e, if_neg e]
    go_wp2_with fail
    go_ret
    exact ⟨z, rfl, hz0.1, hz0.2, (HE.out _).1, (HE.out _).2⟩
  · have hlt2 : ¬ (i : Int) < n := by omega
    go_wp2_with fail
    go_quiet (fail)
    go_wp2_with fail
    go_ret
    refine ⟨x, rfl, hx0.1, hx0.2, ⟨.slice A n c, n, i, h2, HG1.out.2, hi, hlo, HR1.out⟩, ?_⟩
    have hg := HG1.out.1
    exact ⟨hg.os, hg.tape, hg.output, hg.size, hg.block⟩

set_option maxHeartbeats 1000000 in
theorem l01New_any {w : World} {v : Value} {n : Nat} (hv : RBy w w.heap.size v n) :
    Calls Try.prog 101 #[v] w fun e w' => ∃ g : Nat, e = .returned (.pointer (some ⟨g, 0, none⟩)) ∧ Cur w' w.heap.size g ∧ Below w.heap.size w w' := by
  have HB := Lib.hid hv
  obtain ⟨A, c, rfl, hn, hx⟩ := hv
  have HX := Lib.hid hx
  have hn2 : n ≤ 9223372036854775807 := by unfold maxLen at hn; omega
  clear hx
  go_enter Try.func101, Try.ntmps101
  go_wp2
  go_loop [3, 4] (fun v i => ∃ (k : Nat) (h : Int), k ≤ n ∧ i = .int .i64 k ∧ v = .int .i64 h) (fun _ i => n - (intOf i).toNat)
  case atStart => exact ⟨0, _, Nat.zero_le _, rfl, rfl⟩
  case round =>
    obtain ⟨k, h, hk, rfl, rfl⟩ := hrel
    by_cases hlt : k < n ∧ k < 4000
    · obtain ⟨hlt, hk4⟩ := hlt
      obtain ⟨b, off, rfl, hb, hcell⟩ := HX.out (by omega)
      obtain ⟨y, cy, hy0, hy1⟩ := hcell k hlt
      have hk5 : (k : Int) < 4000 := by omega
      clear hcell
      go_wp2
      go_round
      case rel => exact ⟨k + 1, _, by omega, by go_num, rfl⟩
      case measure => simp [intOf]; omega
    · have hE : Hid (∀ w' : World, w' = w.alloc (.cells #[.slice A n c, .int .i64 0, .int .i64 h] 110) → Cur w' w.heap.size w.heap.size ∧ Below w.heap.size w w') := by
        rintro w' rfl
        refine ⟨⟨.slice A n c, n, 0, h, HB.out.below ((Below.refl _ _).alloc (Nat.le_refl _) _), Nat.zero_le _, Nat.le_refl _, ?_⟩, (Below.refl _ _).alloc (Nat.le_refl _) _⟩
        refine World.rowIs_alloc w #[.slice A n c, .int .i64 0, .int .i64 h] _ _ fun i hi => ?_
        match i, hi with
        | 0, _ => rfl
        | 1, _ => rfl
        | 2, _ => rfl
      by_cases hkn : k < n
      · have hk4 : decide ((k : Int) < 4000) = false := decide_eq_false (by omega)
        clear hlt
        go_wp2
        go_ret
        exact ⟨_, rfl, hE.out _ rfl⟩
      · clear hlt
        go_wp2
        go_ret
        exact ⟨_, rfl, hE.out _ rfl⟩

set_option maxHeartbeats 1000000 in
theorem l16New_any {w : World} {v : Value} {n : Nat} (hv : RBy w w.heap.size v n) (m : Nat) (hm : m ≤ 1000) :
    Calls Try.prog 82 #[v, .int .i64 (m : Int)] w fun e w' => ∃ g : Nat, e = .returned (.pointer (some ⟨g, 0, none⟩)) ∧ Cur w' w.heap.size g ∧ Below w.heap.size w w' := by
  have HB := Lib.hid hv
  obtain ⟨A, c, rfl, hn, hx⟩ := hv
  clear hx
  go_enter Try.func82, Try.ntmps82
  go_wp2_with fail
  refine (l01New_any HB.out).mono ?_
  rintro e w1 ⟨g, rfl, hc, hb⟩
  have HC := Lib.hid (And.intro hc hb)
  clear hc hb
  go_wp2_with fail
  go_loopw [6] (fun i wr => ∃ k : Nat, k ≤ m ∧ i = .int .i64 k ∧ Hid (Cur wr w.heap.size g ∧ Below w.heap.size w wr)) (fun i _ => m - (intOf i).toNat)
  case atStart => exact ⟨0, Nat.zero_le _, rfl, HC.out⟩
  case round =>
    obtain ⟨k, hk, rfl, HR⟩ := hrel
    by_cases hlt : k < m
    · go_wp2_with fail
      refine (l01Byte_any HR.out.1).mono ?_
      rintro e w2 ⟨x, rfl, -, -, h1, h2⟩
      have HN : Hid (Cur w2 w.heap.size g ∧ Below w.heap.size w w2) := ⟨h1, HR.out.2.grown h2 HR.out.2.size (fun k hk => by cases hk; exact h1.le)⟩
      clear h1 h2
      go_wp2_with fail
      go_roundw
      case rel => exact ⟨k + 1, by omega, by go_num, HN.out⟩
      case measure => simp [intOf]; omega
    · go_wp2_with fail
      go_ret
      exact ⟨g, rfl, HR.out.1, HR.out.2⟩

set_option maxHeartbeats 1000000 in
theorem l01Below_any {w : World} {lo g : Nat} (hc : Cur w lo g) (n : Nat) (h1 : 1 ≤ n) (h2 : n ≤ 256) (z : Int) (hzn : z = (n : Int)) :
    Calls Try.prog 95 #[.pointer (some ⟨g, 0, none⟩), .int .i64 z] w fun e w' => ∃ x : Nat, e = .returned (.int .i64 (x : Int)) ∧ x < n ∧ Cur w' lo g ∧ w.grownBy w' (some g) := by
  subst hzn
  have hz : ((n : Int) == 0) = false := by simp; omega
  go_enter Try.func95, Try.ntmps95
  go_wp2_with fail
  refine (l01Byte_any hc).mono ?_
  rintro e w1 ⟨x, rfl, hx0, hx1, k1, k2⟩
  have HC := Lib.hid (And.intro k1 k2)
  clear k1 k2
  obtain ⟨y, rfl⟩ := Int.eq_ofNat_of_zero_le hx0
  have hm : ((y : Int)).tmod (n : Int) = ((y % n : Nat) : Int) := rfl
  go_wp2_with fail
  go_ret
  exact ⟨y % n, rfl, Nat.mod_lt _ (by omega), HC.out⟩

/-- Two places of a permutation change their elements. -/
def swapI (xs : List Int) (i k : Nat) : List Int := (xs.set i (xs.getD k 0)).set k (xs.getD i 0)
theorem swapI_len (xs : List Int) (i k : Nat) : (swapI xs i k).length = xs.length := by simp [swapI]
theorem swapI_ok {xs : List Int} {i k : Nat} (h : permOk xs = true) (hi : i < xs.length) (hk : k < xs.length) : permOk (swapI xs i k) = true := by
  have e : (swapI xs i k).Perm xs := by
    unfold swapI
    rw [show xs.getD k 0 = xs[k] from by simp [List.getElem?_eq_getElem hk], show xs.getD i 0 = xs[i] from by simp [List.getElem?_eq_getElem hi]]
    exact List.set_set_perm hi hk
  obtain ⟨h1, h2, h3, h4⟩ := permOk_iff.1 h
  refine permOk_iff.2 ⟨by rw [swapI_len]; exact h1, by rw [swapI_len]; exact h2, fun x hx => ?_, e.nodup_iff.2 h4⟩
  rw [swapI_len]
  exact h3 x (e.mem_iff.1 hx)

set_option maxHeartbeats 2000000 in
theorem l02Draw_any {w : World} {lo g : Nat} (hc : Cur w lo g) (n : Nat) (h1 : 1 ≤ n) (h2 : n ≤ 10) (z : Int) (hz : z = (n : Int)) :
    Calls Try.prog 100 #[.pointer (some ⟨g, 0, none⟩), .int .i64 z] w fun e w' => ∃ v xs, e = .returned v ∧ OI w' w.heap.size v xs ∧ permOk xs = true ∧ xs.length = n ∧ Cur w' lo g ∧ w.grownBy w' (some g) := by
  subst hz
  have HI : Hid (identityPerm (n : Int) = identity n) := by unfold identityPerm Hid; rw [if_pos (by omega), Int.toNat_natCast]
  go_enter Try.func100, Try.ntmps100
  go_wp2_with fail
  refine (specIdentityPerm_any (n : Int)).mono ?_
  rw [HI.out]
  rintro e w1 ⟨v, rfl, o, b⟩
  obtain ⟨A, c, rfl, h3⟩ := OI.form o
  rw [identity_len] at h3 o ⊢
  obtain ⟨gp, rfl, hgp, -⟩ := h3 (by omega)
  have HO : Hid (∃ xs, OI w1 w.heap.size (.slice (some ⟨gp, 0, none⟩) n c) xs ∧ permOk xs = true ∧ xs.length = n ∧ Cur w1 lo g ∧ w.grownBy w1 (some g)) :=
    ⟨identity n, o, identity_ok h1 h2, identity_len n, hc.below b, grownBy_of_below b⟩
  have HGP : Hid (g < w.heap.size ∧ w.heap.size ≤ gp) := ⟨hc.lt, hgp⟩
  clear o b h3 hgp
  go_wp2_with fail
  go_loopw [6, 7, 8] (fun i _ _ wr => ∃ k : Nat, k + 1 ≤ n ∧ i = .int .i64 k ∧ Hid (∃ xs, OI wr w.heap.size (.slice (some ⟨gp, 0, none⟩) n c) xs ∧ permOk xs = true ∧ xs.length = n ∧ Cur wr lo g ∧ w.grownBy wr (some g))) (fun i _ _ _ => (intOf i).toNat)
  case atStart => exact ⟨n - 1, by omega, by congr 1; omega, HO.out⟩
  case round =>
    obtain ⟨k, hk, rfl, HR⟩ := hrel
    by_cases hlt : 0 < k
    · obtain ⟨xs, o, hp, hl, hcu, hgr⟩ := HR.out
      have HQ := Lib.hid (And.intro o (And.intro hp (And.intro hl (And.intro hcu hgr))))
      clear o hp hl hcu hgr
      go_wp2_with fail
      refine (l01Below_any HQ.out.2.2.2.1 (k + 1) (by omega) (by omega) _ (by omega)).mono ?_
      rintro e w2 ⟨i, rfl, hi, hcu, hgr⟩
      have hlt3 : i < n := by omega
      have ho : OI w2 w.heap.size (.slice (some ⟨gp, 0, none⟩) n c) xs := OI.beside HQ.out.1 hgr HGP.out.1
      have c1 := OI.cell ho HQ.out.2.2.1 i hlt3
      have c2 := OI.cell ho HQ.out.2.2.1 k (by omega)
      have f1 := OI.frozen ho HQ.out.2.2.1 i
      have s1 := OI.set ho HQ.out.2.2.1 i (xs.getD k 0)
      have s2 := OI.set s1.1 (by rw [List.length_set]; exact HQ.out.2.2.1) k (xs.getD i 0)
      have f2 := OI.frozen s1.1 (by rw [List.length_set]; exact HQ.out.2.2.1) k
      have c3 := OI.cell s1.1 (by rw [List.length_set]; exact HQ.out.2.2.1) k (by omega)
      generalize (xs.set i (xs.getD k 0)).getD k 0 = x3 at c3
      have hg2 := grownBy.trans s1.2 s2.2
      have HN : Hid (∃ ys, OI ((w2.setCell ⟨gp, i, none⟩ (.int .i64 (xs.getD k 0))).setCell ⟨gp, k, none⟩ (.int .i64 (xs.getD i 0))) w.heap.size (.slice (some ⟨gp, 0, none⟩) n c) ys ∧ permOk ys = true ∧ ys.length = n ∧ Cur ((w2.setCell ⟨gp, i, none⟩ (.int .i64 (xs.getD k 0))).setCell ⟨gp, k, none⟩ (.int .i64 (xs.getD i 0))) lo g ∧ w.grownBy ((w2.setCell ⟨gp, i, none⟩ (.int .i64 (xs.getD k 0))).setCell ⟨gp, k, none⟩ (.int .i64 (xs.getD i 0))) (some g)) := by
        refine ⟨swapI xs i k, s2.1, swapI_ok HQ.out.2.1 (by rw [HQ.out.2.2.1]; exact hlt3) (by rw [HQ.out.2.2.1]; omega), by rw [swapI_len]; exact HQ.out.2.2.1, ?_, ?_⟩
        · have h1 := hcu.lt
          have h2 := hcu.le
          have h3 := HGP.out
          exact hcu.keep fun b hb => hg2.block b (by omega) (by intro e; cases e; omega)
        · have h := grownBy.trans HQ.out.2.2.2.2 hgr
          refine ⟨hg2.os.trans h.os, hg2.tape.trans h.tape, hg2.output.trans h.output, Nat.le_trans h.size hg2.size, fun b hb hne => (hg2.block b (Nat.lt_of_lt_of_le hb h.size) (by have h3 := HGP.out; intro e; cases e; omega)).trans (h.block b hb hne)⟩
      generalize xs.getD k 0 = x at *
      generalize xs.getD i 0 = y at *
      clear s1 s2 hg2 ho hcu hgr
      go_wp2_with fail
      go_roundw
      case rel => exact ⟨k - 1, by omega, by congr 1; omega, HN.out⟩
      case measure => simp [intOf]; omega
    · go_wp2_with fail
      go_ret
      obtain ⟨xs, h⟩ := HR.out
      exact ⟨_, xs, rfl, h⟩

end Go.Proofs.Ytfanohebejemmaa
