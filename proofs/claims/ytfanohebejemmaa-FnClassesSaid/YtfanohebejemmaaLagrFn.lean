/-
  Plain Lean: counting in groups: a part that is closed has an order that divides the group's; orbits and stabilizers; kept points count the orbits.
-/
import Derived.Test.YtfanohebejemmaaAlgFn
import Derived.Test.YtfanohebejemmaaOrbFn
namespace Go.Proofs.Ytfanohebejemmaa

theorem filter_split {α : Type} (p : α → Bool) (l : List α) : l.length = (l.filter p).length + (l.filter fun x => !p x).length := by
  induction l with
  | nil => rfl
  | cons x l ih =>
    cases h : p x with
    | true => simp only [List.filter_cons, h, if_true, List.length_cons, Bool.not_true, Bool.false_eq_true, if_false]; omega
    | false => simp only [List.filter_cons, h, Bool.false_eq_true, if_false, Bool.not_false, if_true, List.length_cons]; omega
theorem fib_count {α β : Type} [DecidableEq β] {f : α → β} : ∀ (vs : List β) (l : List α), vs.Nodup → (∀ x ∈ l, f x ∈ vs) → l.length = (vs.map fun v => (l.filter fun x => decide (f x = v)).length).sum := by
  intro vs
  induction vs with
  | nil =>
    intro l _ h
    cases l with
    | nil => rfl
    | cons x l => have := h x (by simp); simp at this
  | cons v vs ih =>
    intro l hv h
    obtain ⟨h1, h2⟩ := List.nodup_cons.1 hv
    have h3 := ih (l.filter fun x => !decide (f x = v)) h2 fun x hx => by
      obtain ⟨h4, h5⟩ := List.mem_filter.1 hx
      rcases List.mem_cons.1 (h x h4) with h6 | h6
      · rw [h6] at h5; simp at h5
      · exact h6
    have h4 := filter_split (fun x => decide (f x = v)) l
    have h5 : (vs.map fun u => ((l.filter fun x => !decide (f x = v)).filter fun x => decide (f x = u)).length) = vs.map fun u => (l.filter fun x => decide (f x = u)).length := by
      refine List.map_congr_left fun u hu => ?_
      rw [List.filter_filter]
      congr 1
      refine List.filter_congr fun x _ => ?_
      by_cases hx : f x = u
      · have : f x ≠ v := fun e => h1 (by rw [← e, hx]; exact hu)
        simp [hx]
        intro e; exact this (hx.trans e)
      · simp [hx]
    rw [List.map_cons, List.sum_cons, ← h5, ← h3]
    exact h4
theorem sum_const {β : Type} {F : β → Nat} {k : Nat} : ∀ (vs : List β), (∀ v ∈ vs, F v = k) → (vs.map F).sum = vs.length * k := by
  intro vs
  induction vs with
  | nil => intro _; simp
  | cons v vs ih =>
    intro h
    rw [List.map_cons, List.sum_cons, h v (by simp), ih fun u hu => h u (by simp [hu]), List.length_cons, Nat.succ_mul]
    omega
theorem len_le_inj {l m : List (List Int)} {f : List Int → List Int} (hl : l.Nodup) (hin : ∀ x ∈ l, f x ∈ m) (hinj : ∀ x ∈ l, ∀ y ∈ l, f x = f y → x = y) : l.length ≤ m.length := by
  have h0 : (l.map f).Nodup := by
    rw [List.nodup_iff_pairwise_ne, List.pairwise_map]
    exact hl.imp_of_mem fun {a b} ha hb hab he => hab (hinj a ha b hb he)
  have h1 : (l.map f).length ≤ m.length := List.Nodup.length_le_of_subset h0 fun y hy => by
    obtain ⟨x, hx, rfl⟩ := List.mem_map.1 hy; exact hin x hx
  rwa [List.length_map] at h1
theorem dedup {β : Type} [DecidableEq β] (l : List β) : ∃ vs : List β, vs.Nodup ∧ ∀ x, x ∈ vs ↔ x ∈ l := by
  induction l with
  | nil => exact ⟨[], by simp, by simp⟩
  | cons y l ih =>
    obtain ⟨vs, h1, h2⟩ := ih
    by_cases h : y ∈ vs
    · refine ⟨vs, h1, fun x => ?_⟩
      rw [h2, List.mem_cons]
      constructor
      · exact .inr
      · rintro (rfl | hx)
        · exact (h2 _).1 h
        · exact hx
    · refine ⟨y :: vs, List.nodup_cons.2 ⟨h, h1⟩, fun x => ?_⟩
      rw [List.mem_cons, List.mem_cons, h2]
/-- A function on the group whose values go along with composing on the right has fibres of one length. -/
theorem Grp.fib {g : List (List Int)} (hg : Grp g) {β : Type} [DecidableEq β] {f : List Int → β} (hC : ∀ p ∈ g, ∀ q ∈ g, ∀ r ∈ g, f p = f q → f (compose p r) = f (compose q r)) {q : List Int} (hq : q ∈ g) :
    (g.filter fun x => decide (f x = f q)).length = (g.filter fun x => decide (f x = f (identity (deg g)))).length := by
  have hQ := hg.permN hq
  have hn := hg.asc.nodup
  have hqi := hg.inv_mem hq
  refine Nat.le_antisymm ?_ ?_
  · refine len_le_inj (f := fun p => compose p (inverse q)) (hn.sublist List.filter_sublist) (fun x hx => ?_) fun x hx y hy e => ?_
    · obtain ⟨h1, h2⟩ := List.mem_filter.1 hx
      refine List.mem_filter.2 ⟨hg.closed x h1 _ hqi, decide_eq_true ?_⟩
      rw [hC x h1 q hq _ hqi (of_decide_eq_true h2), hQ.invr]
    · exact hQ.inv.cancel_right (hg.permN (List.mem_filter.1 hx).1) (hg.permN (List.mem_filter.1 hy).1) e
  · refine len_le_inj (f := fun p => compose p q) (hn.sublist List.filter_sublist) (fun x hx => ?_) fun x hx y hy e => ?_
    · obtain ⟨h1, h2⟩ := List.mem_filter.1 hx
      refine List.mem_filter.2 ⟨hg.closed x h1 _ hq, decide_eq_true ?_⟩
      rw [hC x h1 _ hg.id_mem _ hq (of_decide_eq_true h2), hQ.idl]
    · exact hQ.cancel_right (hg.permN (List.mem_filter.1 hx).1) (hg.permN (List.mem_filter.1 hy).1) e
theorem Grp.count {g : List (List Int)} (hg : Grp g) {β : Type} [DecidableEq β] {f : List Int → β} (hC : ∀ p ∈ g, ∀ q ∈ g, ∀ r ∈ g, f p = f q → f (compose p r) = f (compose q r)) {vs : List β} (hv : vs.Nodup) (hm : ∀ v, v ∈ vs ↔ ∃ q ∈ g, f q = v) :
    g.length = vs.length * (g.filter fun x => decide (f x = f (identity (deg g)))).length := by
  rw [fib_count (f := f) vs g hv fun x hx => (hm _).2 ⟨x, hx, rfl⟩]
  refine sum_const vs fun v hv' => ?_
  obtain ⟨q, hq, rfl⟩ := (hm v).1 hv'
  exact hg.fib hC hq
/-- A part of a group that is closed has an order that divides the group's. -/
theorem Grp.lagrange {g : List (List Int)} (hg : Grp g) {c : List (List Int)} (hn : c.Nodup) (hin : ∀ x ∈ c, x ∈ g) (hid : identity (deg g) ∈ c) (hcl : ∀ x ∈ c, ∀ y ∈ c, compose x y ∈ c) : c.length ∣ g.length := by
  let f : List Int → List (List Int) := fun p => g.filter fun y => decide (y ∈ c.map fun s => compose s p)
  have hmem : ∀ p y, y ∈ f p ↔ y ∈ g ∧ ∃ s ∈ c, compose s p = y := fun p y => by
    show y ∈ g.filter _ ↔ _
    rw [List.mem_filter, decide_eq_true_iff, List.mem_map]
  have hext : ∀ p q, (∀ y ∈ g, (∃ s ∈ c, compose s p = y) ↔ (∃ s ∈ c, compose s q = y)) → f p = f q := fun p q h => by
    refine List.filter_congr fun y hy => ?_
    rw [decide_eq_decide, List.mem_map, List.mem_map]
    exact h y hy
  have half : ∀ p ∈ g, ∀ q ∈ g, ∀ r ∈ g, f p = f q → ∀ y, (∃ s ∈ c, compose s (compose p r) = y) → ∃ s ∈ c, compose s (compose q r) = y := fun p hp q hq r hr h y ⟨s, hs, e⟩ => by
    have h1 : compose s p ∈ f p := (hmem p _).2 ⟨hg.closed s (hin s hs) p hp, s, hs, rfl⟩
    rw [h] at h1
    obtain ⟨_, t, ht, e2⟩ := (hmem q _).1 h1
    refine ⟨t, ht, ?_⟩
    rw [← (hg.permN (hin t ht)).assoc (hg.permN hq), e2, (hg.permN (hin s hs)).assoc (hg.permN hp), e]
  have hC : ∀ p ∈ g, ∀ q ∈ g, ∀ r ∈ g, f p = f q → f (compose p r) = f (compose q r) := fun p hp q hq r hr h =>
    hext _ _ fun y _ => ⟨half p hp q hq r hr h y, half q hq p hp r hr h.symm y⟩
  obtain ⟨vs, hv, hvm⟩ := dedup (g.map f)
  have h1 := hg.count hC hv fun v => by rw [hvm, List.mem_map]
  have h2 : (g.filter fun x => decide (f x = f (identity (deg g)))).length = c.length := by
    refine ((List.perm_ext_iff_of_nodup (hg.asc.nodup.sublist List.filter_sublist) hn).2 fun x => ?_).length_eq
    rw [List.mem_filter, decide_eq_true_iff]
    constructor
    · rintro ⟨hx, e⟩
      have h3 : x ∈ f x := (hmem x x).2 ⟨hx, _, hid, (hg.permN hx).idl⟩
      rw [e] at h3
      obtain ⟨_, s, hs, e2⟩ := (hmem _ _).1 h3
      rw [(hg.permN (hin s hs)).idr] at e2
      rw [← e2]; exact hs
    · intro hx
      refine ⟨hin x hx, hext _ _ fun y _ => ?_⟩
      constructor
      · rintro ⟨s, hs, e⟩
        have hy : y ∈ c := by rw [← e]; exact hcl s hs x hx
        exact ⟨y, hy, (hg.permN (hin y hy)).idr⟩
      · rintro ⟨s, hs, e⟩
        rw [(hg.permN (hin s hs)).idr] at e
        rw [← e]
        exact onto_of_inj hn (fun z hz => hcl z hz x hx) (fun a ha b hb e => (hg.permN (hin x hx)).cancel_right (hg.permN (hin a ha)) (hg.permN (hin b hb)) e) s hs
  rw [h2] at h1
  exact ⟨vs.length, by rw [h1, Nat.mul_comm]⟩
/-- The order of a member divides the order of the group. -/
theorem Grp.order_dvd {g : List (List Int)} (hg : Grp g) {p : List Int} (hp : p ∈ g) : orderOf p ∣ g.length := by
  have hP := hg.permN hp
  have hb := order_bound hP.1
  have hlen : p.length = deg g := hP.2
  have hid : ∀ j, powTo p j = identity (deg g) ↔ orderOf p ∣ j := fun j => by rw [← hlen]; exact pow_id_order hP.1 j
  have hinj : ∀ i j, i < j → j < orderOf p → powTo p i ≠ powTo p j := fun i j hij hj e => by
    have h1 := hP.pow_add (j - i) i
    rw [show j - i + i = j from by omega, ← e] at h1
    have h2 : identity (deg g) = powTo p (j - i) := (hP.powTo i).cancel_right (PermN.id hg.deg_le.1 hg.deg_le.2) (hP.powTo _) (by rw [(hP.powTo i).idl]; exact h1)
    have := Nat.le_of_dvd (by omega) ((hid (j - i)).1 h2.symm)
    omega
  have hmod : ∀ j, powTo p j = powTo p (j % orderOf p) := fun j => by
    have h1 := hP.pow_add (orderOf p * (j / orderOf p)) (j % orderOf p)
    rw [Nat.div_add_mod, (hid _).2 ⟨_, rfl⟩, (hP.powTo _).idl] at h1
    exact h1
  have hmem : ∀ x, x ∈ powsTo p (orderOf p) ↔ ∃ j, j < orderOf p ∧ powTo p j = x := fun x => by
    unfold powsTo; rw [List.mem_map]
    constructor
    · rintro ⟨j, hj, e⟩; exact ⟨j, List.mem_range.1 hj, e⟩
    · rintro ⟨j, hj, e⟩; exact ⟨j, List.mem_range.2 hj, e⟩
  have h := hg.lagrange (c := powsTo p (orderOf p)) ?_ (fun x hx => ?_) ((hmem _).2 ⟨0, by omega, by show identity p.length = _; rw [hlen]⟩) fun x hx y hy => ?_
  · rwa [powsTo_len] at h
  · unfold powsTo
    rw [List.nodup_iff_pairwise_ne, List.pairwise_map, List.pairwise_iff_getElem]
    intro i j hi hj hij
    simp only [List.length_range] at hi hj
    simp only [List.getElem_range]
    exact hinj i j hij hj
  · obtain ⟨j, _, rfl⟩ := (hmem x).1 hx
    exact hg.pow_mem hp j
  · obtain ⟨i, _, rfl⟩ := (hmem x).1 hx
    obtain ⟨j, _, rfl⟩ := (hmem y).1 hy
    rw [← hP.pow_add, hmod]
    exact (hmem _).2 ⟨_, Nat.mod_lt _ (by omega), rfl⟩
theorem asc_of_pairwise {g : List (List Int)} (h : g.Pairwise fun a b => ltL a b = true) : Asc g := by
  intro i j hij hj
  rw [List.pairwise_iff_getElem] at h
  have := h i j (by omega) hj hij
  simp only [List.getD, List.getElem?_eq_getElem hj, List.getElem?_eq_getElem (show i < g.length by omega), Option.getD_some]
  exact this
theorem Asc.pairwise {g : List (List Int)} (h : Asc g) : g.Pairwise fun a b => ltL a b = true := by
  rw [List.pairwise_iff_getElem]
  intro i j hi hj hij
  have := h i j hij hj
  simpa only [List.getD, List.getElem?_eq_getElem hj, List.getElem?_eq_getElem hi, Option.getD_some] using this
theorem Grp.mem_stab {g : List (List Int)} {p : List Int} {x : Int} : p ∈ stab g x ↔ p ∈ g ∧ p.getD x.toNat 0 = x := by
  unfold stab; rw [List.mem_filter, beq_iff_eq]
/-- The permutations that keep a point are a group. -/
theorem Grp.stab_ok {g : List (List Int)} (hg : Grp g) {x : Int} (h0 : 0 ≤ x) (h1 : x < (deg g : Int)) : groupOk (stab g x) = true := by
  have hid : identity (deg g) ∈ stab g x := Grp.mem_stab.2 ⟨hg.id_mem, by rw [identity_at (by omega)]; omega⟩
  refine groupOk_intro (n := deg g) (List.length_pos_of_mem hid) (Nat.le_trans (stab_len g x) hg.le) (fun p hp => ⟨hg.perm p (Grp.mem_stab.1 hp).1, hg.len p (Grp.mem_stab.1 hp).1⟩) (asc_of_pairwise (hg.asc.pairwise.sublist List.filter_sublist)) fun p hp q hq => ?_
  obtain ⟨p1, p2⟩ := Grp.mem_stab.1 hp
  obtain ⟨q1, q2⟩ := Grp.mem_stab.1 hq
  refine Grp.mem_stab.2 ⟨hg.closed p p1 q q1, ?_⟩
  rw [comp_at (by rw [hg.len p p1]; omega), p2, q2]
/-- What lies in one orbit with x is where x is carried. -/
theorem Grp.orbit_mem {g : List (List Int)} (hg : Grp g) {i : Nat} (hi : i < deg g) {x : Int} (hx : x ∈ orbit g i) (v : Int) : v ∈ orbit g i ↔ ∃ q ∈ g, q.getD x.toNat 0 = v := by
  obtain ⟨h0, h1, p, hp, e⟩ := mem_orbTo.1 hx
  constructor
  · intro hv
    obtain ⟨_, _, q, hq, e2⟩ := mem_orbTo.1 hv
    refine ⟨compose (inverse p) q, hg.closed _ (hg.inv_mem hp) _ hq, ?_⟩
    have hl := hg.len p hp
    have h2 := inv_at (hg.perm p hp) (i := i) (by omega)
    rw [e] at h2
    rw [comp_at (by rw [inv_len]; omega), h2, Int.toNat_natCast, e2]
  · rintro ⟨q, hq, e2⟩
    have h3 := hg.img hq (i := x.toNat) (by omega)
    rw [e2] at h3
    exact mem_orbTo.2 ⟨h3.1, h3.2, compose p q, hg.closed p hp q hq, by rw [comp_at (by rw [hg.len p hp]; exact hi), e, e2]⟩
theorem orbit_nodup (g : List (List Int)) (i : Nat) : (orbit g i).Nodup := (orbTo_asc g i (deg g)).imp fun {a b} h => by omega
/-- The orbit of a point times its stabilizer is the order. -/
theorem Grp.orbit_stab {g : List (List Int)} (hg : Grp g) {i : Nat} (hi : i < deg g) {x : Int} (hx : x ∈ orbit g i) : (orbit g i).length * (stab g x).length = g.length := by
  obtain ⟨h0, h1, -⟩ := mem_orbTo.1 hx
  have h := hg.count (f := fun p => p.getD x.toNat 0) (fun p hp q hq r hr e => by
    show (compose p r).getD x.toNat 0 = (compose q r).getD x.toNat 0
    have e' : p.getD x.toNat 0 = q.getD x.toNat 0 := e
    rw [comp_at (by rw [hg.len p hp]; omega), comp_at (by rw [hg.len q hq]; omega), e']) (orbit_nodup g i) (hg.orbit_mem hi hx)
  have e : (g.filter fun p => decide (p.getD x.toNat 0 = (identity (deg g)).getD x.toNat 0)) = stab g x := by
    unfold stab
    refine List.filter_congr fun p _ => ?_
    rw [identity_at (by omega), Int.toNat_of_nonneg h0]
    by_cases hp : p.getD x.toNat 0 = x
    · rw [decide_eq_true hp, beq_iff_eq.2 hp]
    · rw [decide_eq_false hp, beq_eq_false_iff_ne.2 hp]
  rw [e] at h
  exact h.symm
theorem Grp.orbits_met {g : List (List Int)} (hg : Grp g) : ∀ k, k ≤ deg g → (orbitsTo g k).flatten.Nodup ∧ ∀ j, j < k → (j : Int) ∈ (orbitsTo g k).flatten := by
  intro k
  induction k with
  | zero => intro _; rw [orbitsTo_zero]; exact ⟨by simp, fun j hj => by omega⟩
  | succ k ih =>
    intro hk
    obtain ⟨h1, h2⟩ := ih (by omega)
    cases hm : memB (orbitsTo g k).flatten k with
    | true =>
      rw [orbitsTo_old hm]
      refine ⟨h1, fun j hj => ?_⟩
      by_cases e : j = k
      · rw [e]; exact of_decide_eq_true hm
      · exact h2 j (by omega)
    | false =>
      rw [orbitsTo_new hm, List.flatten_append]
      refine ⟨?_, fun j hj => ?_⟩
      · rw [List.nodup_append]
        refine ⟨h1, by simpa using orbit_nodup g k, fun a ha b hb e => ?_⟩
        have hb' : b ∈ orbit g k := by simpa using hb
        obtain ⟨_, _, p, hp, e2⟩ := mem_orbTo.1 hb'
        exact hg.orbit_new (by omega) hm p hp (by rw [e2, ← e]; exact ha)
      · rw [List.mem_append]
        by_cases e : j = k
        · right; rw [e]; simpa using hg.self_orbit (i := k) (by omega)
        · exact .inl (h2 j (by omega))
theorem Grp.orbits_perm {g : List (List Int)} (hg : Grp g) : (orbitsTo g (deg g)).flatten.Perm (identity (deg g)) := by
  obtain ⟨h1, h2⟩ := hg.orbits_met (deg g) (Nat.le_refl _)
  refine (List.perm_ext_iff_of_nodup h1 (permOk_nodup (identity_ok hg.deg_le.1 hg.deg_le.2))).2 fun x => ?_
  constructor
  · intro hx
    have := hg.orbits_closed _ (Nat.le_refl _) x hx
    exact List.mem_map.2 ⟨x.toNat, List.mem_range.2 (by omega), by omega⟩
  · intro hx
    obtain ⟨j, hj, rfl⟩ := List.mem_map.1 hx
    exact h2 j (List.mem_range.1 hj)
theorem Grp.orbits_sum {g : List (List Int)} (hg : Grp g) : (orbitsTo g (deg g)).flatten.length = deg g := by rw [hg.orbits_perm.length_eq, identity_len]
theorem perm_sum {l m : List Nat} (h : l.Perm m) : l.sum = m.sum := by
  induction h with
  | nil => rfl
  | cons x _ ih => simp only [List.sum_cons, ih]
  | swap x y l => simp only [List.sum_cons]; omega
  | trans _ _ h1 h2 => exact h1.trans h2
theorem flat_sum (s : Int → Nat) (cs : List (List Int)) : (cs.flatten.map s).sum = (cs.map fun c => (c.map s).sum).sum := by
  induction cs with
  | nil => rfl
  | cons c cs ih => rw [List.flatten_cons, List.map_append, List.sum_append, ih, List.map_cons, List.sum_cons]
theorem fix_swap (g : List (List Int)) (n : Nat) : (g.map fun p => fixTo p n).sum = ((identity n).map fun x => (stab g x).length).sum := by
  induction n with
  | zero =>
    rw [sum_const (k := 0) g (fun p _ => by simp [fixTo])]
    simp [identity]
  | succ n ih =>
    rw [identity_succ, List.map_append, List.sum_append, ← ih]
    clear ih
    induction g with
    | nil => simp [stab]
    | cons p g ih =>
      simp only [List.map_cons, List.sum_cons, List.map_nil, List.sum_nil, Nat.add_zero] at ih ⊢
      rw [fixTo_succ, ih]
      have e : (stab (p :: g) (n : Int)).length = (if p.getD n 0 = (n : Int) then 1 else 0) + (stab g (n : Int)).length := by
        unfold stab
        by_cases h : p.getD n 0 = (n : Int)
        · have hb : (p.getD n 0 == (n : Int)) = true := beq_iff_eq.2 h
          simp only [List.filter_cons, Int.toNat_natCast, hb, if_true, List.length_cons, if_pos h]
          omega
        · have hb : (p.getD n 0 == (n : Int)) = false := beq_eq_false_iff_ne.2 h
          simp only [List.filter_cons, Int.toNat_natCast, hb, Bool.false_eq_true, if_false, if_neg h]
          omega
      rw [e]
      omega
/-- The points that are kept count the orbits. -/
theorem Grp.burnside {g : List (List Int)} (hg : Grp g) : fixSum g = (orbitsTo g (deg g)).length * g.length := by
  have h1 : fixSum g = (g.map fun p => fixTo p (deg g)).sum := by
    unfold fixSum
    congr 1
    refine List.map_congr_left fun p hp => ?_
    unfold fixPts
    rw [hg.len p hp]
  rw [h1, fix_swap, ← perm_sum (hg.orbits_perm.map fun x => (stab g x).length), flat_sum]
  refine sum_const _ fun o ho => ?_
  obtain ⟨i, hi, rfl⟩ := mem_orbitsTo ho
  have h2 := hg.self_orbit hi
  have h3 := hg.orbit_stab hi h2
  have hpos : 0 < (orbit g i).length := List.length_pos_of_mem h2
  rw [sum_const (k := (stab g (i : Int)).length) (orbit g i) fun x hx => ?_]
  · exact h3
  · have h4 := hg.orbit_stab hi hx
    rw [← h3] at h4
    exact Nat.eq_of_mul_eq_mul_left hpos h4
end Go.Proofs.Ytfanohebejemmaa
