/-
  Plain Lean: cycles, powers and the order of a permutation.
-/
import Derived.Test.YtfanohebejemmaaActFn
import Derived.Test.YtfanohebejemmaaInvFn
namespace Go.Proofs.Ytfanohebejemmaa

theorem app_left {a b : List Int} {i : Nat} (h : i < a.length) : (a ++ b).getD i 0 = a.getD i 0 := by simp [List.getElem?_append_left h]
theorem nodup_getD {c : List Int} (h : c.Nodup) {i j : Nat} (hi : i < c.length) (hj : j < c.length) (e : c.getD i 0 = c.getD j 0) : i = j := by
  have h1 := List.Nodup.idxOf_getElem h i hi
  have h2 := List.Nodup.idxOf_getElem h j hj
  have e' : c[i] = c[j] := by simpa [List.getElem?_eq_getElem hi, List.getElem?_eq_getElem hj] using e
  rw [e', h2] at h1
  exact h1.symm
/-- p applied j times. -/
def itP (p : List Int) : Nat → Int → Int
  | 0, x => x
  | j + 1, x => p.getD (itP p j x).toNat 0
theorem itP_range {p : List Int} (hp : permOk p = true) {x : Int} (h0 : 0 ≤ x) (h1 : x < (p.length : Int)) (j : Nat) : 0 ≤ itP p j x ∧ itP p j x < (p.length : Int) := by
  induction j with
  | zero => exact ⟨h0, h1⟩
  | succ j ih => exact perm_next hp (x := (itP p j x).toNat) (by omega)
theorem powTo_at {p : List Int} (j : Nat) {i : Nat} (hi : i < p.length) : (powTo p j).getD i 0 = itP p j (i : Int) := by
  induction j with
  | zero => exact identity_at hi
  | succ j ih => unfold powTo itP; rw [comp_at (by rw [powTo_len]; exact hi), ih]
theorem powTo_one (p : List Int) : powTo p 1 = p := id_comp p

/-- A list of points of which each is carried to the next, the last to the first. -/
def CycOk (p c : List Int) : Prop := 1 ≤ c.length ∧ ∀ i, i < c.length → p.getD (c.getD i 0).toNat 0 = c.getD ((i + 1) % c.length) 0
/-- A list of points of which each is carried to the next; x comes next; x0 is the first. -/
def Chain (p c : List Int) (x0 x : Int) : Prop := (c = [] → x = x0) ∧ (c ≠ [] → c.getD 0 0 = x0 ∧ p.getD (c.getD (c.length - 1) 0).toNat 0 = x) ∧ ∀ i, i + 1 < c.length → p.getD (c.getD i 0).toNat 0 = c.getD (i + 1) 0
theorem Chain.snoc {p c : List Int} {x0 x : Int} (h : Chain p c x0 x) : Chain p (c ++ [x]) x0 (p.getD x.toNat 0) := by
  obtain ⟨h1, h2, h3⟩ := h
  refine ⟨fun e => by simp at e, fun _ => ⟨?_, by simp⟩, fun i hi => ?_⟩
  · cases c with
    | nil => simpa using h1 rfl
    | cons a c => simpa using (h2 (by simp)).1
  · simp only [List.length_append, List.length_cons, List.length_nil] at hi
    have hic : i < c.length := by omega
    rw [app_left hic]
    by_cases hl : i + 1 < c.length
    · rw [app_left hl]; exact h3 i hl
    · have hne : c ≠ [] := by intro e; rw [e] at hic; simp at hic
      have e1 : i + 1 = c.length := by omega
      have e2 : (c ++ [x]).getD (i + 1) 0 = x := by rw [e1]; simp
      rw [e2, ← (h2 hne).2, show c.length - 1 = i from by omega]
theorem flat_get {cs : List (List Int)} {x : Int} (h : x ∈ cs.flatten) : ∃ c ∈ cs, ∃ i, i < c.length ∧ c.getD i 0 = x := by
  obtain ⟨c, hc, hx⟩ := List.mem_flatten.1 h
  obtain ⟨i, hi, e⟩ := List.getElem_of_mem hx
  exact ⟨c, hc, i, hi, by simp [List.getElem?_eq_getElem hi, e]⟩
theorem mem_of_getD {c : List Int} {i : Nat} (hi : i < c.length) : c.getD i 0 ∈ c := getD_mem hi
/-- What is carried into whole cycles lies in them. -/
theorem back_in {p : List Int} (hp : permOk p = true) {cs : List (List Int)} (hcs : ∀ c ∈ cs, CycOk p c) (hm : Met p.length cs.flatten) {z : Int} (h0 : 0 ≤ z) (h1 : z < (p.length : Int)) (hz : p.getD z.toNat 0 ∈ cs.flatten) : z ∈ cs.flatten := by
  obtain ⟨c, hc, i, hi, e⟩ := flat_get hz
  obtain ⟨hl, hs⟩ := hcs c hc
  have hj : (i + c.length - 1) % c.length < c.length := Nat.mod_lt _ (by omega)
  have hs' := hs _ hj
  have e2 : ((i + c.length - 1) % c.length + 1) % c.length = i := by
    rw [Nat.add_mod, Nat.mod_mod, ← Nat.add_mod, show i + c.length - 1 + 1 = i + c.length from by omega, Nat.add_mod_right, Nat.mod_eq_of_lt hi]
  rw [e2, e] at hs'
  have hin : c.getD ((i + c.length - 1) % c.length) 0 ∈ cs.flatten := List.mem_flatten.2 ⟨c, hc, getD_mem hj⟩
  have hr := hm.2 _ hin
  have := perm_inj hp (i := z.toNat) (j := (c.getD ((i + c.length - 1) % c.length) 0).toNat) (by omega) (by omega) hs'.symm
  have e3 : z = c.getD ((i + c.length - 1) % c.length) 0 := by omega
  rw [e3]; exact hin
theorem walk_ok {p : List Int} (hp : permOk p = true) {cs : List (List Int)} (hcs : ∀ c ∈ cs, CycOk p c) {x0 : Int} (hx0 : x0 ∉ cs.flatten) :
    ∀ (f : Nat) (c : List Int) (x : Int), Chain p c x0 x → Met p.length (cs.flatten ++ c) → 0 ≤ x → x < (p.length : Int) → p.length + 1 ≤ f + (cs.flatten ++ c).length →
      CycOk p (c ++ walkC p f (cs.flatten ++ c) x) := by
  intro f
  induction f with
  | zero => intro c x _ hm _ _ hf; have := hm.len; omega
  | succ f ih =>
    intro c x hch hm h0 h1 hf
    unfold walkC
    split
    · rename_i hx
      rw [List.append_nil]
      have hne : c ≠ [] := by
        rintro rfl
        rw [List.append_nil] at hx
        rw [hch.1 rfl] at hx
        exact hx0 hx
      have hl : 1 ≤ c.length := List.length_pos_iff.2 hne
      obtain ⟨hf0, hlast⟩ := hch.2.1 hne
      have hml : c.getD (c.length - 1) 0 ∈ cs.flatten ++ c := List.mem_append.2 (.inr (getD_mem (by omega)))
      have hrl := hm.2 _ hml
      have hnd := hm.1
      rw [List.nodup_append] at hnd
      -- the next point is the first
      have hxx : x = x0 := by
        rcases List.mem_append.1 hx with hx | hx
        · exfalso
          rw [← hlast] at hx
          have hmet : Met p.length cs.flatten := ⟨hnd.1, fun y hy => hm.2 y (List.mem_append.2 (.inl hy))⟩
          have := back_in hp hcs hmet hrl.1 hrl.2 hx
          exact hnd.2.2 _ this _ (getD_mem (k := c.length - 1) (by omega)) rfl
        · obtain ⟨i, hi, e⟩ := List.getElem_of_mem hx
          have e' : c.getD i 0 = x := by simp [List.getElem?_eq_getElem hi, e]
          cases i with
          | zero => rw [← e', hf0]
          | succ i =>
            exfalso
            have h3 := hch.2.2 i hi
            rw [e', ← hlast] at h3
            have hri := hm.2 _ (List.mem_append.2 (.inr (getD_mem (p := c) (k := i) (by omega))))
            have hq := perm_inj hp (i := (c.getD i 0).toNat) (j := (c.getD (c.length - 1) 0).toNat) (by omega) (by omega) h3
            have hq2 : c.getD i 0 = c.getD (c.length - 1) 0 := by omega
            have := nodup_getD hnd.2.1 (by omega) (by omega) hq2
            omega
      refine ⟨hl, fun i hi => ?_⟩
      by_cases hi1 : i + 1 < c.length
      · rw [Nat.mod_eq_of_lt hi1]; exact hch.2.2 i hi1
      · have e : i + 1 = c.length := by omega
        rw [e, Nat.mod_self, hf0, ← hxx, ← hlast, show c.length - 1 = i from by omega]
    · rename_i hx
      have hn := perm_next hp (x := x.toNat) (by omega)
      have := ih (c ++ [x]) (p.getD x.toNat 0) hch.snoc (by rw [← List.append_assoc]; exact hm.snoc h0 h1 hx) hn.1 hn.2 (by simp only [List.length_append, List.length_cons, List.length_nil] at hf ⊢; omega)
      rw [← List.append_assoc] at this
      rw [show c ++ x :: walkC p f (cs.flatten ++ c ++ [x]) (p.getD x.toNat 0) = c ++ [x] ++ walkC p f (cs.flatten ++ c ++ [x]) (p.getD x.toNat 0) from by simp]
      exact this
theorem cyclesTo_ok {p : List Int} (hp : permOk p = true) : ∀ k, k ≤ p.length → ∀ c ∈ cyclesTo p k, CycOk p c := by
  intro k
  induction k with
  | zero => intro _ c hc; simp [cyclesTo_zero] at hc
  | succ k ih =>
    intro hk c hc
    rw [cyclesTo_succ] at hc
    unfold cycStep at hc
    split at hc
    · exact ih (by omega) c hc
    · rename_i hk'
      rcases List.mem_append.1 hc with hc | hc
      · exact ih (by omega) c hc
      · simp only [List.mem_singleton] at hc
        have hm := cyclesTo_met hp k (by omega)
        have := walk_ok hp (ih (by omega)) hk' (p.length + 1 - (cyclesTo p k).flatten.length) [] (k : Int) ⟨fun _ => rfl, fun h => absurd rfl h, fun i hi => by simp at hi⟩ (by rw [List.append_nil]; exact hm) (by omega) (by omega) (by rw [List.append_nil]; omega)
        rw [List.append_nil, List.nil_append] at this
        rw [hc]; exact this
theorem cyclesOf_ok {p : List Int} (hp : permOk p = true) : ∀ c ∈ cyclesOf p, CycOk p c := by
  rw [cyclesOf_yes hp]; exact cyclesTo_ok hp _ (Nat.le_refl _)
theorem cyclesTo_cover {p : List Int} (hp : permOk p = true) : ∀ k, k ≤ p.length → ∀ j, j < k → (j : Int) ∈ (cyclesTo p k).flatten := by
  intro k
  induction k with
  | zero => intro _ j hj; omega
  | succ k ih =>
    intro hk j hj
    rw [cyclesTo_succ]
    unfold cycStep
    split
    · rename_i hin
      by_cases e : j = k
      · subst e; exact hin
      · exact ih (by omega) j (by omega)
    · rename_i hk'
      rw [List.flatten_append, List.mem_append]
      by_cases e : j = k
      · subst e
        right
        rw [cycFrom_go (cyclesTo_met hp j (by omega)) hk']
        simp
      · exact .inl (ih (by omega) j (by omega))
theorem cyclesOf_cover {p : List Int} (hp : permOk p = true) {j : Nat} (hj : j < p.length) : (j : Int) ∈ (cyclesOf p).flatten := by
  rw [cyclesOf_yes hp]; exact cyclesTo_cover hp _ (Nat.le_refl _) j hj
theorem cyclesOf_met {p : List Int} (hp : permOk p = true) : Met p.length (cyclesOf p).flatten := by
  rw [cyclesOf_yes hp]; exact cyclesTo_met hp _ (Nat.le_refl _)
theorem cyclesOf_sum {p : List Int} (hp : permOk p = true) : (cyclesOf p).flatten.length = p.length := by
  have h1 := (cyclesOf_met hp).len
  have h2 : (identity p.length).length ≤ (cyclesOf p).flatten.length := List.Nodup.length_le_of_subset (permOk_nodup (identity_ok (permOk_le hp).1 (permOk_le hp).2)) fun x hx => by
    obtain ⟨j, hj, rfl⟩ := List.mem_map.1 hx
    exact cyclesOf_cover hp (List.mem_range.1 hj)
  rw [identity_len] at h2
  omega
theorem it_cycle {p c : List Int} (h : CycOk p c) {i : Nat} (hi : i < c.length) (j : Nat) : itP p j (c.getD i 0) = c.getD ((i + j) % c.length) 0 := by
  induction j with
  | zero => rw [Nat.add_zero, Nat.mod_eq_of_lt hi]; rfl
  | succ j ih =>
    unfold itP
    rw [ih, h.2 _ (Nat.mod_lt _ (by omega)), Nat.add_mod, Nat.mod_mod, ← Nat.add_mod, Nat.add_assoc]
theorem cycle_nodup {p : List Int} (hp : permOk p = true) {c : List Int} (hc : c ∈ cyclesOf p) : c.Nodup := (cyclesOf_met hp).1.sublist (List.sublist_flatten_of_mem hc)
theorem pow_id_iff {p : List Int} (hp : permOk p = true) (j : Nat) : powTo p j = identity p.length ↔ ∀ c ∈ cyclesOf p, c.length ∣ j := by
  constructor
  · intro h c hc
    have hok := cyclesOf_ok hp c hc
    have h0 : 0 < c.length := hok.1
    have hin : c.getD 0 0 ∈ (cyclesOf p).flatten := List.mem_flatten.2 ⟨c, hc, getD_mem h0⟩
    have hr := (cyclesOf_met hp).2 _ hin
    obtain ⟨m, hm⟩ := Int.eq_ofNat_of_zero_le hr.1
    have h1 := powTo_at (p := p) j (i := m) (by omega)
    rw [h, identity_at (by omega), ← hm, it_cycle hok h0, Nat.zero_add] at h1
    have hlt : j % c.length < c.length := Nat.mod_lt _ h0
    have := nodup_getD (cycle_nodup hp hc) h0 hlt (by first | exact h1 | exact h1.symm)
    exact Nat.dvd_of_mod_eq_zero this.symm
  · intro h
    refine list_ext0 (by rw [powTo_len, identity_len]) fun i hi => ?_
    rw [powTo_len] at hi
    rw [powTo_at j hi, identity_at hi]
    obtain ⟨c, hc, a, ha, e⟩ := flat_get (cyclesOf_cover hp hi)
    obtain ⟨m, hm⟩ := h c hc
    rw [← e, it_cycle (cyclesOf_ok hp c hc) ha, hm, Nat.add_mul_mod_self_left, Nat.mod_eq_of_lt ha]
/-- The reference's sum: the least common multiple of the lengths. -/
def lcmStep (a : Nat) (c : List Int) : Nat := a / Nat.gcd a c.length * c.length
def lcmL (cs : List (List Int)) : Nat := cs.foldl lcmStep 1
theorem lcmL_snoc (cs : List (List Int)) (c : List Int) : lcmL (cs ++ [c]) = lcmStep (lcmL cs) c := by unfold lcmL; rw [List.foldl_append]; rfl
theorem lcmStep_eq {a : Nat} {c : List Int} : lcmStep a c = Nat.lcm a c.length := by
  unfold lcmStep Nat.lcm
  rw [Nat.div_mul_right_comm (Nat.gcd_dvd_left _ _)]
theorem foldl_lcm_dvd (cs : List (List Int)) : ∀ (a m : Nat), cs.foldl lcmStep a ∣ m ↔ a ∣ m ∧ ∀ c ∈ cs, c.length ∣ m := by
  induction cs with
  | nil => intro a m; simp
  | cons c cs ih =>
    intro a m
    rw [List.foldl_cons, ih, lcmStep_eq, Nat.lcm_dvd_iff]
    simp [and_assoc]
theorem lcmL_dvd (cs : List (List Int)) (m : Nat) : lcmL cs ∣ m ↔ ∀ c ∈ cs, c.length ∣ m := by
  unfold lcmL; rw [foldl_lcm_dvd]; simp
theorem two_mul_le_pow {l : Nat} (h : 1 ≤ l) : l * 2 ≤ 2 ^ l := by
  induction l with
  | zero => omega
  | succ l ih =>
    rcases Nat.eq_zero_or_pos l with rfl | h0
    · decide
    · have := ih h0
      rw [Nat.pow_succ]; omega
theorem foldl_lcm_bound (cs : List (List Int)) (h : ∀ c ∈ cs, 1 ≤ c.length) : ∀ a : Nat, 1 ≤ a → 1 ≤ cs.foldl lcmStep a ∧ cs.foldl lcmStep a * 2 ^ cs.length ≤ a * 2 ^ cs.flatten.length := by
  induction cs with
  | nil => intro a ha; simp; exact ha
  | cons c cs ih =>
    intro a ha
    have hc := h c (by simp)
    have hpos : 1 ≤ lcmStep a c := by rw [lcmStep_eq]; exact Nat.lcm_pos (by omega) (by omega)
    obtain ⟨h1, h2⟩ := ih (fun d hd => h d (by simp [hd])) (lcmStep a c) hpos
    rw [List.foldl_cons]
    refine ⟨h1, ?_⟩
    have hle : lcmStep a c ≤ a * c.length := by
      unfold lcmStep
      exact Nat.mul_le_mul_right _ (Nat.div_le_self _ _)
    rw [List.length_cons, List.flatten_cons, List.length_append, Nat.pow_succ, Nat.pow_add]
    calc cs.foldl lcmStep (lcmStep a c) * (2 ^ cs.length * 2) = cs.foldl lcmStep (lcmStep a c) * 2 ^ cs.length * 2 := by rw [Nat.mul_assoc]
      _ ≤ lcmStep a c * 2 ^ cs.flatten.length * 2 := Nat.mul_le_mul_right _ h2
      _ ≤ a * c.length * 2 ^ cs.flatten.length * 2 := Nat.mul_le_mul_right _ (Nat.mul_le_mul_right _ hle)
      _ = a * (c.length * 2 * 2 ^ cs.flatten.length) := by rw [Nat.mul_assoc, Nat.mul_assoc, Nat.mul_assoc]; congr 2; rw [Nat.mul_comm (2 ^ _) 2]
      _ ≤ a * (2 ^ c.length * 2 ^ cs.flatten.length) := Nat.mul_le_mul_left _ (Nat.mul_le_mul_right _ (two_mul_le_pow hc))
def orderOf (p : List Int) : Nat := if permOk p = true then lcmL (cyclesOf p) else 0
theorem orderOf_yes {p : List Int} (hp : permOk p = true) : orderOf p = lcmL (cyclesOf p) := by unfold orderOf; rw [if_pos hp]
theorem orderOf_no {p : List Int} (hp : permOk p = false) : orderOf p = 0 := by unfold orderOf; rw [if_neg (by rw [hp]; simp)]
theorem lcm_take {p : List Int} (hp : permOk p = true) (k : Nat) : 1 ≤ lcmL ((cyclesOf p).take k) ∧ lcmL ((cyclesOf p).take k) ≤ 1024 := by
  have h := foldl_lcm_bound ((cyclesOf p).take k) (fun c hc => (cyclesOf_ne hp c (List.mem_of_mem_take hc)).1) 1 (by omega)
  refine ⟨h.1, ?_⟩
  have h2 := h.2
  have h3 : ((cyclesOf p).take k).flatten.length ≤ 10 := by
    have hs : (((cyclesOf p).take k).flatten).length ≤ (cyclesOf p).flatten.length := by
      have : cyclesOf p = (cyclesOf p).take k ++ (cyclesOf p).drop k := (List.take_append_drop _ _).symm
      conv => rhs; rw [this, List.flatten_append, List.length_append]
      omega
    have := cyclesOf_total p
    omega
  have h4 : 2 ^ ((cyclesOf p).take k).flatten.length ≤ 2 ^ 10 := Nat.pow_le_pow_right (by omega) h3
  have h5 : 1 ≤ 2 ^ ((cyclesOf p).take k).length := Nat.one_le_two_pow
  have h6 : lcmL ((cyclesOf p).take k) * 1 ≤ lcmL ((cyclesOf p).take k) * 2 ^ ((cyclesOf p).take k).length := Nat.mul_le_mul_left _ h5
  unfold lcmL at h6 ⊢
  omega
theorem order_bound {p : List Int} (hp : permOk p = true) : 1 ≤ orderOf p ∧ orderOf p ≤ 512 := by
  rw [orderOf_yes hp]
  have h := foldl_lcm_bound (cyclesOf p) (fun c hc => (cyclesOf_ne hp c hc).1) 1 (by omega)
  refine ⟨h.1, ?_⟩
  have h2 := h.2
  have h3 : 2 ^ (cyclesOf p).flatten.length ≤ 2 ^ 10 := Nat.pow_le_pow_right (by omega) (cyclesOf_total p)
  have hne : 1 ≤ (cyclesOf p).length := by
    have := cyclesOf_cover hp (j := 0) (by have := permOk_le hp; omega)
    obtain ⟨c, hc, _⟩ := List.mem_flatten.1 this
    exact List.length_pos_iff.2 (fun e => by rw [e] at hc; simp at hc)
  have h4 : 2 ^ 1 ≤ 2 ^ (cyclesOf p).length := Nat.pow_le_pow_right (by omega) hne
  have h5 : lcmL (cyclesOf p) * 2 ^ 1 ≤ lcmL (cyclesOf p) * 2 ^ (cyclesOf p).length := Nat.mul_le_mul_left _ h4
  unfold lcmL at h5 ⊢
  omega
theorem pow_id_order {p : List Int} (hp : permOk p = true) (j : Nat) : powTo p j = identity p.length ↔ orderOf p ∣ j := by
  rw [pow_id_iff hp, orderOf_yes hp, lcmL_dvd]
/-- The order is the first power that is the identity. -/
theorem order_first {p : List Int} (hp : permOk p = true) {j : Nat} (h1 : 1 ≤ j) (h2 : j ≤ orderOf p) : powTo p j = identity p.length ↔ j = orderOf p := by
  rw [pow_id_order hp]
  constructor
  · intro h; have := Nat.le_of_dvd (by omega) h; omega
  · rintro rfl; exact Nat.dvd_refl _
theorem order_cycle {p : List Int} (hp : permOk p = true) {c : List Int} (hc : c ∈ cyclesOf p) : c.length ∣ orderOf p := by
  rw [orderOf_yes hp]; exact (lcmL_dvd _ _).1 (Nat.dvd_refl _) c hc
end Go.Proofs.Ytfanohebejemmaa
