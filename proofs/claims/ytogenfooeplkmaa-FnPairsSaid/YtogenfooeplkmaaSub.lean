/-
  SubsetsOf and PairsOf, of the program and of the reference.
-/
import Derived.Test.YtogenfooeplkmaaSubFn
import Derived.Test.YtogenfooeplkmaaMem3
import Derived.Test.YtogenfooeplkmaaIn
import Derived.Test.YtogenfooeplkmaaClone
import Derived.Test.YtogenfooeplkmaaSortF
import Derived.Test.YtogenfooeplkmaaGenI
namespace Go.Proofs.Ytogenfooeplkmaa
open Go.RowKit Go.Deep

theorem subs_bound : ∀ (k f n : Nat), n ≤ 5 → k ≤ 5 → (subs k f n).length ≤ 5 ^ k := by
  intro k
  induction k with
  | zero => intro f n _ _; simp [subs]
  | succ k ih =>
    intro f n hn hk
    have h : ∀ d, (subsUp k f d n).length ≤ d * 5 ^ k := by
      intro d
      induction d with
      | zero => simp [subsUp_zero]
      | succ d ihd =>
        rw [subsUp_succ, List.length_append, List.length_map, Nat.add_mul, Nat.one_mul]
        have := ih (f + d + 1) n hn (by omega)
        omega
    rw [subs_succ, Nat.pow_succ, Nat.mul_comm]
    exact Nat.le_trans (h (n - f)) (Nat.mul_le_mul_right _ (by omega))
theorem subsUp_bound (k f d n : Nat) (hn : n ≤ 5) (hk : k ≤ 5) : (subsUp k f d n).length ≤ d * 3125 := by
  induction d with
  | zero => simp [subsUp_zero]
  | succ d ihd =>
    rw [subsUp_succ, List.length_append, List.length_map, Nat.add_mul, Nat.one_mul]
    have h1 := subs_bound k (f + d + 1) n hn hk
    have h2 : 5 ^ k ≤ 3125 := Nat.le_trans (Nat.pow_le_pow_right (by omega) hk) (by decide)
    omega
theorem subs_short : ∀ (k f n : Nat), ∀ l ∈ subs k f n, l.length ≤ k := by
  intro k
  induction k with
  | zero => intro f n l hl; simp [subs] at hl; simp [hl]
  | succ k ih =>
    intro f n l hl
    simp only [subs, List.mem_flatMap, List.mem_map] at hl
    obtain ⟨d, _, l', hl', rfl⟩ := hl
    have := ih _ _ l' hl'
    simp only [List.length_cons]; omega
/-- What the inner loop of l04Subsets knows: wo is the world at its start, the rows ls lie apart from the row that grows. -/
structure SubIn (w wo wr wi : World) (vl : Value) (ls done : List (List Int)) (v : Value) : Prop where
  below : Below w.heap.size w wi
  out : OIIh wi w.heap.size wi.heap.size v done
  lists : OIIh wi wr.heap.size wo.heap.size vl ls
  apart : ∀ g, vl.ownBlock = some g → v.ownBlock ≠ some g
  size : wo.heap.size ≤ wi.heap.size
theorem OIIh.owner {w : World} {lo hi g : Nat} {v : Value} {xss : List (List Int)} (h : OIIh w lo hi v xss) (hg : v.ownBlock = some g) : lo ≤ g ∧ g < w.heap.size := by
  obtain ⟨vs, h1, _⟩ := h
  exact h1.lt g hg
theorem SubIn.app {w wo wr wi w1 w2 : World} {vl v v2 : Value} {ls done : List (List Int)} {ys : List Int} (h : SubIn w wo wr wi vl ls done v) (b1 : Below wi.heap.size wi w1)
    (ho : OIIh w2 w.heap.size w1.heap.size v2 (done ++ [ys])) (b2 : Below w.heap.size w1 w2) (hg : w1.grownBy w2 v.ownBlock) (hat : v2.ownBlock = v.ownBlock ∨ v2.ownBlock = some (w1.heap.size + 1)) : SubIn w wo wr w2 vl ls (done ++ [ys]) v2 := by
  have hl1 := OIIh.step h.lists b1
  have ho1 := OIIh.step h.out b1
  obtain ⟨vs, hvs, _⟩ := id ho1
  refine ⟨(bstep h.below b1).trans b2, OIIh.toOII ho, OIIh.aside hl1 hvs (fun g hgl => h.apart g hgl) hg, fun g hgl => ?_, Nat.le_trans h.size (Nat.le_trans b1.size hg.size)⟩
  rcases hat with e | e
  · rw [e]; exact h.apart g hgl
  · rw [e]
    have := (hl1.owner hgl).2
    intro hh
    simp only [Option.some.injEq] at hh
    omega

set_option maxHeartbeats 3200000 in
set_option maxRecDepth 100000 in
theorem l04Subsets_any : ∀ (k : Nat) (w : World) (f n : Nat) (z y : Int), z = (f : Int) → y = (k : Int) → n ≤ 5 → k ≤ 5 → f ≤ 6 →
    Calls Try.prog 80 #[.int .i64 z, .int .i64 n, .int .i64 y] w fun e w' => ∃ v, e = .returned v ∧ OII w' w.heap.size v (subs k f n) ∧ Below w.heap.size w w' := by
  intro k
  induction k with
  | zero =>
    intro w f n z y hz hy hn _ hf
    subst hz
    subst hy
    go_enter Try.func80, Try.ntmps80
    go_wp2_with fail
    go_ret
    have hb : Below w.heap.size w (w.alloc (.cells #[] 3)) := (Below.refl _ _).alloc (Nat.le_refl _) _
    have ho := OIIh.one (OI.lit w) hb.size
    rw [show (w.alloc (.cells #[] 3)).heap.size = w.heap.size + 1 from by simp] at ho
    exact ⟨_, rfl, OIIh.toOII ho, hb.alloc hb.size _⟩
  | succ k ih =>
    intro w f n z y hz hy hn hk5 hf
    subst hz
    have hy0 : (y == 0) = false := beq_eq_false_iff_ne.2 (by omega)
    have hy1 : y - 1 = (k : Int) := by omega
    clear hy
    have IH := Lib.hid ih
    obtain ⟨m, hm⟩ : ∃ m, m = n - f := ⟨_, rfl⟩
    have HM := Lib.hid hm
    clear ih hm
    go_enter Try.func80, Try.ntmps80
    go_wp2_with fail
    have H0 : Hid (OII (w.alloc (.cells #[] 33)) w.heap.size (.slice (some ⟨w.heap.size, 0, none⟩) 0 0) (subsUp k f 0 n) ∧ Below w.heap.size w (w.alloc (.cells #[] 33))) :=
      ⟨OIIh.toOII (OIIh.lit w), (Below.refl _ _).alloc (Nat.le_refl _) _⟩
    go_loopw [7, 8] (fun v i wr => ∃ d a : Nat, d ≤ m ∧ a = f + d ∧ i = .int .i64 a ∧ Hid (OII wr w.heap.size v (subsUp k f d n) ∧ Below w.heap.size w wr)) (fun _ i _ => n - (intOf i).toNat)
    case atStart => exact ⟨0, f, Nat.zero_le _, rfl, rfl, H0.out⟩
    case round =>
      obtain ⟨d, a, hd, ha, rfl, HR⟩ := hrel
      have ha6 : a ≤ 6 := by have := HM.out; omega
      by_cases hlt : a < n
      · obtain ⟨A7, c7, rfl, -⟩ := OIIh.form HR.out.1
        have hdm : d < m := by have := HM.out; omega
        have HA := Lib.hid ha
        clear ha
        go_wp2_with fail
        refine (IH.out wr (a + 1) n _ _ (by omega) (by omega) hn (by omega) (by omega)).mono ?_
        rintro e w1 ⟨v1, rfl, o, b⟩
        obtain ⟨ls, hls⟩ : ∃ ls, ls = subs k (a + 1) n := ⟨_, rfl⟩
        rw [← hls] at o
        have HLS := Lib.hid hls
        have HLB : Hid (ls.length ≤ 3125) := by
          have h1 := subs_bound k (a + 1) n hn (by omega)
          have h2 : 5 ^ k ≤ 3125 := Nat.le_trans (Nat.pow_le_pow_right (by omega) (show k ≤ 5 by omega)) (by decide)
          rw [← hls] at h1; exact (by omega : ls.length ≤ 3125)
        have HO1 := Lib.hid (And.intro o (And.intro b (HR.out.1.step b)))
        obtain ⟨L, hL⟩ : ∃ L, L = ls.length := ⟨_, rfl⟩
        have HL := Lib.hid hL
        have hLb : L ≤ 3125 := by have := HLB.out; omega
        obtain ⟨Al, cl, rfl, hl3⟩ := OIIh.form o
        rw [← hL] at hl3 HO1 ⊢
        clear o b hls hL
        have HDN : Hid (subsUp k f (d + 1) n = subsUp k f d n ++ ls.map fun l => (a : Int) :: l) := by rw [Hid, subsUp_succ, HLS.out, HA.out]
        have HS0 : Hid (SubIn w w1 wr w1 (.slice Al L cl) ls (subsUp k f d n ++ (ls.take 0).map fun l => (a : Int) :: l) (.slice A7 (subsUp k f d n).length c7)) := by
          refine ⟨bstep HR.out.2 HO1.out.2.1, ?_, HO1.out.1, fun g hgl hg => ?_, Nat.le_refl _⟩
          · rw [List.take_zero, List.map_nil, List.append_nil]; exact HO1.out.2.2
          · have h1 := HR.out.1.owner hg
            have h2 := HO1.out.1.owner hgl
            omega
        clear hl3
        go_wp2_with fail
        obtain ⟨ws, hws⟩ : ∃ ws : World, ws = wr := ⟨_, rfl⟩
        subst hws
        go_loopw [7, 29] (fun v i wi => ∃ j : Nat, j ≤ L ∧ i = .int .i64 j ∧ Hid (SubIn w w1 ws wi (.slice Al L cl) ls (subsUp k f d n ++ (ls.take j).map fun l => (a : Int) :: l) v)) (fun _ i _ => L - (intOf i).toNat)
        case atStart => exact ⟨0, Nat.zero_le _, rfl, HS0.out⟩
        case round =>
          obtain ⟨j, hj, rfl, HI⟩ := hrel
          obtain ⟨done, hdone⟩ : ∃ done, done = subsUp k f d n ++ (ls.take j).map fun l => (a : Int) :: l := ⟨_, rfl⟩
          have HDB : Hid (done.length ≤ 100000) := by
            have h1 := subsUp_bound k f d n hn (by omega)
            have h2 := HLB.out
            have h3 : (ls.take j).length ≤ ls.length := by rw [List.length_take]; omega
            have h4 := HM.out
            rw [Hid, hdone, List.length_append, List.length_map]; omega
          have HDN2 := Lib.hid hdone
          rw [← hdone] at HI
          clear hdone
          obtain ⟨A8, c8, rfl, -⟩ := OIIh.form HI.out.out
          by_cases hjL : j < L
          · obtain ⟨Ag, cg, hAg, h9⟩ := OIIh.form HI.out.lists
            obtain ⟨gl, hgl, -⟩ := h9 (by have := HL.out; omega)
            simp only [Value.slice.injEq] at hAg
            obtain ⟨rfl, hLL, rfl⟩ := hAg
            subst hgl
            obtain ⟨u, cu, ou, -, -⟩ := OIIh.at HI.out.lists HL.out.symm hjL
            obtain ⟨l, hl⟩ : ∃ l, l = ls.getD j [] := ⟨_, rfl⟩
            rw [← hl] at ou
            have hjl : j < ls.length := by have := HL.out; omega
            have HT : Hid (subsUp k f d n ++ ((ls.take (j + 1)).map fun l => (a : Int) :: l) = done ++ [(a : Int) :: l]) := by
              rw [Hid, takeG_succ hjl, ← hl, HDN2.out, List.map_append, List.append_assoc]; rfl
            have HLK : Hid (l.length ≤ 5) := by
              have : l ∈ subs k (a + 1) n := by rw [hl, ← HLS.out]; exact getD_memS hjl
              exact Nat.le_trans (subs_short k (a + 1) n l this) (by omega)
            obtain ⟨A9, c9, rfl, -⟩ := OI.form ou
            have HU := Lib.hid ou
            clear ou hl hjl h9 hLL
            have HB1 : Hid (Below wr.heap.size wr (wr.alloc (.cells #[.int .i64 (a : Int)] 3))) := (Below.refl _ _).alloc (Nat.le_refl _) _
            have HLT : Hid (OI (wr.alloc (.cells #[.int .i64 (a : Int)] 3)) wr.heap.size (.slice (some ⟨wr.heap.size, 0, none⟩) 1 1) [(a : Int)]) := World.ownsRow_lit wr #[.int .i64 (a : Int)] 1 (Nat.le_refl _) (by decide) rfl
            go_wp2_with (first | (at_builtin; refine wpList_appOI _ rfl (.tmp 35) (.tmp 36) rfl wr.heap.size _ _ _ [(a : Int)] l rfl rfl (OI.step HU.out HB1.out) HLT.out (by have := HLK.out; simp only [List.length_cons, List.length_nil]; omega) HB1.out.size ?_; intro v2 w2 ho hb _hg; have HO2 := Lib.hid (And.intro ho (HB1.out.trans hb)); obtain ⟨A2, c2, rfl, -⟩ := OI.form ho; clear ho hb _hg) | (at_builtin; refine wpList_appRow_at _ rfl (.tmp 33) (.tmp 38) rfl w.heap.size wr.heap.size wr.heap.size w2.heap.size _ _ done ([(a : Int)] ++ l) rfl rfl rfl (OIIh.step HI.out.out HO2.out.2) HO2.out.1 (Nat.le_refl _) HI.out.below.size (OI.bound HO2.out.1) HO2.out.2.size (by have := HDB.out; omega) (bstep HI.out.below HO2.out.2).size ?_; intro v3 w3 ho3 hb3 hg3 hat3; have HS3 := Lib.hid (SubIn.app HI.out HO2.out.2 ho3 hb3 hg3 hat3); clear ho3 hb3 hg3 hat3))
            go_roundw
            case rel => exact ⟨j + 1, by omega, by go_num, by rw [HT.out]; exact HS3.out⟩
            case measure => simp [intOf]; omega
          · have HN : Hid (OII wr w.heap.size (.slice A8 done.length c8) (subsUp k f (d + 1) n) ∧ Below w.heap.size w wr) := by
              have e : done = subsUp k f (d + 1) n := by
                rw [HDN2.out, HDN.out, List.take_of_length_le (by have := HL.out; omega)]
              rw [← e]
              exact ⟨HI.out.out, HI.out.below⟩
            go_wp2_with fail
            go_roundw
            case rel => exact ⟨d + 1, a + 1, by omega, by have := HA.out; omega, by go_num, HN.out⟩
            case measure => simp [intOf]; omega
      · obtain ⟨A7, c7, rfl, -⟩ := OIIh.form HR.out.1
        have e : subsUp k f d n = subs (k + 1) f n := by
          rw [subs_succ]
          have : d = n - f := by have := HM.out; omega
          rw [this]
        have HN : Hid (OII wr w.heap.size (.slice A7 (subsUp k f d n).length c7) (subs (k + 1) f n) ∧ Below w.heap.size w wr) := by rw [← e]; exact HR.out
        clear e
        go_wp2_with fail
        go_ret
        exact ⟨_, rfl, HN.out⟩
end Go.Proofs.Ytogenfooeplkmaa
