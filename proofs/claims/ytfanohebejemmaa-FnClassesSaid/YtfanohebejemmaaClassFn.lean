/-
  Plain Lean: what the numbers of the classes say: conjugates and no others have one number, numbers are given in order, a class's size divides the order, cycle types agree.
-/
import Derived.Test.YtfanohebejemmaaLagrFn
namespace Go.Proofs.Ytfanohebejemmaa

/-- Some member carries g[i] to g[j]. -/
def Cj (g : List (List Int)) (i j : Nat) : Prop := ∃ x ∈ g, conj x (g.getD i []) = g.getD j []
theorem Grp.cj_refl {g : List (List Int)} (hg : Grp g) {i : Nat} (hi : i < g.length) : Cj g i i := ⟨_, hg.id_mem, (hg.permN (getD_memS hi)).conj_id⟩
theorem Grp.cj_symm {g : List (List Int)} (hg : Grp g) {i j : Nat} (hi : i < g.length) (h : Cj g i j) : Cj g j i := by
  obtain ⟨x, hx, e⟩ := h
  exact ⟨inverse x, hg.inv_mem hx, by rw [← e, (hg.permN hx).conj_back (hg.permN (getD_memS hi))]⟩
theorem Grp.cj_trans {g : List (List Int)} (hg : Grp g) {i j k : Nat} (hi : i < g.length) (h : Cj g i j) (h2 : Cj g j k) : Cj g i k := by
  obtain ⟨x, hx, e⟩ := h
  obtain ⟨y, hy, e2⟩ := h2
  exact ⟨compose y x, hg.closed y hy x hx, by rw [(hg.permN hy).conj_comp (hg.permN hx) (hg.permN (getD_memS hi)), e, e2]⟩
theorem Grp.at_inj {g : List (List Int)} (hg : Grp g) {i j : Nat} (hi : i < g.length) (hj : j < g.length) (h : g.getD i [] = g.getD j []) : i = j := by
  have h1 := findIdx_at hg.asc hi
  rw [h, findIdx_at hg.asc hj] at h1
  omega
theorem Grp.cls_iff {g : List (List Int)} (hg : Grp g) {x : List Int} (hx : x ∈ g) {i j : Nat} (hi : i < g.length) (hj : j < g.length) : clsAt g x (g.getD i []) = j ↔ conj x (g.getD i []) = g.getD j [] := by
  have hm := hg.conj_mem hx (getD_memS hi)
  constructor
  · intro h
    have := findIdx_get hm
    unfold clsAt at h
    rw [h] at this
    exact this.symm
  · intro h
    unfold clsAt
    rw [h, findIdx_at hg.asc hj]; simp
theorem clsRow_get {g : List (List Int)} {p : List Int} {m : Int} : ∀ (xs : List (List Int)) (out : List Int) (j : Nat), j < out.length →
    ((∃ x ∈ xs, clsAt g x p = j) → (clsRow g p m out xs).getD j 0 = m) ∧ ((¬ ∃ x ∈ xs, clsAt g x p = j) → (clsRow g p m out xs).getD j 0 = out.getD j 0) := by
  intro xs
  induction xs with
  | nil => intro out j _; exact ⟨fun ⟨x, hx, _⟩ => by simp at hx, fun _ => rfl⟩
  | cons x xs ih =>
    intro out j hj
    have e : clsRow g p m out (x :: xs) = clsRow g p m (out.set (clsAt g x p) m) xs := rfl
    obtain ⟨h1, h2⟩ := ih (out.set (clsAt g x p) m) j (by rw [List.length_set]; exact hj)
    rw [e]
    by_cases hx : ∃ y ∈ xs, clsAt g y p = j
    · refine ⟨fun _ => h1 hx, fun h => absurd ?_ h⟩
      obtain ⟨y, hy, e2⟩ := hx
      exact ⟨y, by simp [hy], e2⟩
    · rw [h2 hx]
      by_cases hxj : clsAt g x p = j
      · refine ⟨fun _ => ?_, fun h => absurd ⟨x, by simp, hxj⟩ h⟩
        rw [hxj]; simp [hj]
      · refine ⟨fun ⟨y, hy, e2⟩ => ?_, fun _ => ?_⟩
        · rcases List.mem_cons.1 hy with rfl | hy
          · exact absurd e2 hxj
          · exact absurd ⟨y, hy, e2⟩ hx
        · simp [hxj]
/-- What is known after k places. -/
structure ClsInv (g : List (List Int)) (k : Nat) (out : List Int) (m : Int) : Prop where
  rng : ∀ j, j < g.length → out.getD j 0 = -1 ∨ (0 ≤ out.getD j 0 ∧ out.getD j 0 < m)
  fst : ∀ j, j < k → j < g.length → 0 ≤ out.getD j 0
  all : ∀ i j, i < g.length → j < g.length → 0 ≤ out.getD i 0 → Cj g i j → out.getD j 0 = out.getD i 0
  onl : ∀ i j, i < g.length → j < g.length → 0 ≤ out.getD i 0 → out.getD i 0 = out.getD j 0 → Cj g i j
  met : ∀ v : Int, 0 ≤ v → v < m → ∃ r, r < k ∧ r < g.length ∧ out.getD r 0 = v
  ord : ∀ i, i < k → i < g.length → out.getD i 0 = 0 ∨ ∃ j, j < i ∧ out.getD j 0 = out.getD i 0 - 1
theorem Grp.cls_inv {g : List (List Int)} (hg : Grp g) : ∀ k, k ≤ g.length → ClsInv g k (clsTo g k).1 (clsTo g k).2 := by
  intro k
  induction k with
  | zero =>
    intro _
    rw [clsTo_zero]
    have e : ∀ j, j < g.length → (List.replicate g.length (-1 : Int)).getD j 0 = -1 := fun j hj => by simp [hj]
    refine ⟨fun j hj => .inl (e j hj), fun j hj => by omega, fun i j hi _ h => ?_, fun i j hi _ h => ?_, fun v h0 h1 => ?_, fun i hi => by omega⟩
    · have := e i hi
      rw [this] at h; omega
    · have := e i hi
      rw [this] at h; omega
    · exfalso
      have h1' : v < 0 := h1
      omega
  | succ k ih =>
    intro hk
    have hI := ih (by omega)
    have hm0 := (clsTo_next g k).1
    have hlen := clsTo_len g k
    by_cases hneg : (clsTo g k).1.getD k 0 < 0
    · rw [clsTo_new hneg]
      generalize hout : (clsTo g k).1 = out at hI hneg hlen
      generalize (clsTo g k).2 = m at hI hm0
      have hyes : ∀ j, j < g.length → Cj g k j → (clsRow g (g.getD k []) m out g).getD j 0 = m := fun j hj h => by
        refine (clsRow_get g out j (by omega)).1 ?_
        obtain ⟨x, hx, e⟩ := h
        exact ⟨x, hx, (hg.cls_iff hx (by omega) hj).2 e⟩
      have hno : ∀ j, j < g.length → ¬ Cj g k j → (clsRow g (g.getD k []) m out g).getD j 0 = out.getD j 0 := fun j hj h => by
        refine (clsRow_get g out j (by omega)).2 ?_
        rintro ⟨x, hx, e⟩
        exact h ⟨x, hx, (hg.cls_iff hx (by omega) hj).1 e⟩
      have hfree : ∀ j, j < g.length → 0 ≤ out.getD j 0 → ¬ Cj g k j := fun j hj h0 h => by
        have := hI.all j k hj (by omega) h0 (hg.cj_symm (by omega) h)
        omega
      show ClsInv g (k + 1) (clsRow g (g.getD k []) m out g) (m + 1)
      refine ⟨fun j hj => ?_, fun j hj hjg => ?_, fun i j hi hj h0 h => ?_, fun i j hi hj h0 h => ?_, fun v h0 h1 => ?_, fun i hi hig => ?_⟩
      · by_cases h : Cj g k j
        · rw [hyes j hj h]; omega
        · rw [hno j hj h]; have := hI.rng j hj; omega
      · by_cases h : Cj g k j
        · rw [hyes j hjg h]; exact hm0
        · rw [hno j hjg h]
          by_cases e : j = k
          · subst e; exact absurd (hg.cj_refl hjg) h
          · exact hI.fst j (by omega) hjg
      · by_cases hki : Cj g k i
        · rw [hyes i hi hki, hyes j hj (hg.cj_trans (by omega) hki h)]
        · have hkj : ¬ Cj g k j := fun h' => hki (hg.cj_trans (by omega) h' (hg.cj_symm hi h))
          rw [hno i hi hki] at h0 ⊢
          rw [hno j hj hkj]
          exact hI.all i j hi hj h0 h
      · by_cases hki : Cj g k i
        · by_cases hkj : Cj g k j
          · exact hg.cj_trans hi (hg.cj_symm (by omega) hki) hkj
          · rw [hyes i hi hki, hno j hj hkj] at h
            have := hI.rng j hj
            omega
        · rw [hno i hi hki] at h h0
          by_cases hkj : Cj g k j
          · rw [hyes j hj hkj] at h
            have := hI.rng i hi
            omega
          · rw [hno j hj hkj] at h
            exact hI.onl i j hi hj h0 h
      · by_cases e : v = m
        · subst e
          exact ⟨k, by omega, by omega, hyes k (by omega) (hg.cj_refl (by omega))⟩
        · obtain ⟨r, h2, h3, h4⟩ := hI.met v h0 (by omega)
          exact ⟨r, by omega, h3, by rw [hno r h3 (hfree r h3 (by omega))]; exact h4⟩
      · by_cases e : i = k
        · subst e
          rw [hyes i hig (hg.cj_refl hig)]
          by_cases hz : m = 0
          · exact .inl hz
          · obtain ⟨r, h2, h3, h4⟩ := hI.met (m - 1) (by omega) (by omega)
            exact .inr ⟨r, h2, by rw [hno r h3 (hfree r h3 (by omega))]; exact h4⟩
        · have h5 := hI.fst i (by omega) hig
          rw [hno i hig (hfree i hig h5)]
          rcases hI.ord i (by omega) hig with h6 | ⟨j, h6, h7⟩
          · exact .inl h6
          · have h8 := hI.fst j (by omega) (by omega)
            exact .inr ⟨j, h6, by rw [hno j (by omega) (hfree j (by omega) h8)]; exact h7⟩
    · rw [clsTo_old hneg]
      generalize (clsTo g k).1 = out at hI hneg hlen
      generalize (clsTo g k).2 = m at hI hm0
      refine ⟨hI.rng, fun j hj hjg => ?_, hI.all, hI.onl, fun v h0 h1 => ?_, fun i hi hig => ?_⟩
      · by_cases e : j = k
        · subst e; omega
        · exact hI.fst j (by omega) hjg
      · obtain ⟨r, h2, h3, h4⟩ := hI.met v h0 h1
        exact ⟨r, by omega, h3, h4⟩
      · by_cases e : i = k
        · subst e
          by_cases hz : out.getD i 0 = 0
          · exact .inl hz
          · have := hI.rng i hig
            obtain ⟨r, h2, h3, h4⟩ := hI.met (out.getD i 0 - 1) (by omega) (by omega)
            exact .inr ⟨r, h2, h4⟩
        · exact hI.ord i (by omega) hig
/-- How many of the first k places have the number v; the first number that none of them has. -/
def sizeTo (c : List Int) (v : Int) (k : Nat) : Nat := ((List.range k).filter fun j => c.getD j 0 == v).length
theorem sizeTo_succ (c : List Int) (v : Int) (k : Nat) : sizeTo c v (k + 1) = sizeTo c v k + if c.getD k 0 = v then 1 else 0 := by
  unfold sizeTo
  rw [List.range_succ, List.filter_append, List.length_append]
  by_cases h : c.getD k 0 = v
  · rw [if_pos h]
    have hb : (c.getD k 0 == v) = true := beq_iff_eq.2 h
    simp only [List.filter_cons, hb, if_true, List.filter_nil, List.length_cons, List.length_nil]
  · rw [if_neg h]
    have hb : (c.getD k 0 == v) = false := beq_eq_false_iff_ne.2 h
    simp only [List.filter_cons, hb, Bool.false_eq_true, if_false, List.filter_nil, List.length_nil]
theorem sizeTo_le (c : List Int) (v : Int) (k : Nat) : sizeTo c v k ≤ k := by
  unfold sizeTo
  have := List.length_filter_le (fun j => c.getD j 0 == v) (List.range k)
  simpa using this
theorem sizeTo_pos {c : List Int} {i k : Nat} (h : i < k) : 1 ≤ sizeTo c (c.getD i 0) k := by
  unfold sizeTo
  exact List.length_pos_of_mem (List.mem_filter.2 ⟨List.mem_range.2 h, by simp⟩)
def mostTo (c : List Int) : Nat → Int
  | 0 => 0
  | k + 1 => max (mostTo c k) (c.getD k 0 + 1)
theorem mostTo_ge (c : List Int) : ∀ k, 0 ≤ mostTo c k ∧ ∀ j, j < k → c.getD j 0 + 1 ≤ mostTo c k := by
  intro k
  induction k with
  | zero => exact ⟨Int.le_refl _, fun j hj => by omega⟩
  | succ k ih =>
    unfold mostTo
    refine ⟨by omega, fun j hj => ?_⟩
    by_cases e : j = k
    · subst e; omega
    · have := ih.2 j (by omega); omega
theorem mostTo_le {c : List Int} {m : Int} (h0 : 0 ≤ m) : ∀ k, (∀ j, j < k → c.getD j 0 + 1 ≤ m) → mostTo c k ≤ m := by
  intro k
  induction k with
  | zero => intro _; exact h0
  | succ k ih =>
    intro h
    have h1 := ih fun j hj => h j (by omega)
    have h2 := h k (by omega)
    unfold mostTo; omega
theorem Grp.cls_final {g : List (List Int)} (hg : Grp g) : ClsInv g g.length (clsTo g g.length).1 (clsTo g g.length).2 := hg.cls_inv _ (Nat.le_refl _)
theorem Grp.cls_most {g : List (List Int)} (hg : Grp g) : mostTo (clsTo g g.length).1 g.length = (clsTo g g.length).2 := by
  have hI := hg.cls_final
  have h0 := (clsTo_next g g.length).1
  refine Int.le_antisymm (mostTo_le h0 _ fun j hj => ?_) ?_
  · have := hI.rng j hj; omega
  · by_cases hz : (clsTo g g.length).2 = 0
    · rw [hz]; exact (mostTo_ge _ _).1
    · obtain ⟨r, h1, _, h2⟩ := hI.met ((clsTo g g.length).2 - 1) (by omega) (by omega)
      have := (mostTo_ge (clsTo g g.length).1 g.length).2 r h1
      omega
theorem Grp.cls_step {g : List (List Int)} (hg : Grp g) {i : Nat} (hi : i < g.length) : (clsTo g g.length).1.getD i 0 ≤ mostTo (clsTo g g.length).1 i := by
  rcases hg.cls_final.ord i hi hi with h | ⟨j, h1, h2⟩
  · rw [h]; exact (mostTo_ge _ _).1
  · have := (mostTo_ge (clsTo g g.length).1 i).2 j h1; omega
theorem Grp.cls_abelian {g : List (List Int)} (hg : Grp g) (hk : groupOk g = true) : isAbelian g = decide ((clsTo g g.length).2 = (g.length : Int)) := by
  have hI := hg.cls_final
  have hlen := clsTo_len g g.length
  have hnx := clsTo_next g g.length
  generalize (clsTo g g.length).1 = c at hI hlen
  generalize (clsTo g g.length).2 = m at hI hnx ⊢
  obtain ⟨n, rfl⟩ := Int.eq_ofNat_of_zero_le hnx.1
  by_cases hm : n = g.length
  · rw [hm, decide_eq_true rfl]
    have hinj : ∀ i j, i < g.length → j < g.length → c.getD i 0 = c.getD j 0 → i = j := fun i j hi hj e => by
      by_cases hij : i = j
      · exact hij
      · exfalso
        have h1 : (identity n).length ≤ (c.eraseIdx j).length := List.Nodup.length_le_of_subset (by
          unfold identity
          rw [List.nodup_iff_pairwise_ne, List.pairwise_map]
          exact List.pairwise_lt_range.imp fun {a b} h => by omega) fun v hv => by
          obtain ⟨a, ha, rfl⟩ := List.mem_map.1 hv
          have ha' := List.mem_range.1 ha
          obtain ⟨r, _, hr, e2⟩ := hI.met (a : Int) (by omega) (by omega)
          have hin : ∀ r, r < g.length → r ≠ j → c.getD r 0 ∈ c.eraseIdx j := fun r hr hrj => by
            rw [List.mem_eraseIdx_iff_getElem?]
            exact ⟨r, hrj, by simp [List.getElem?_eq_getElem (show r < c.length by omega)]⟩
          by_cases hrj : r = j
          · rw [← e2, hrj, ← e]; exact hin i hi hij
          · rw [← e2]; exact hin r hr hrj
        rw [identity_len, List.length_eraseIdx_of_lt (by omega)] at h1
        omega
    refine isAbelian_yes hk fun p hp q hq => ?_
    obtain ⟨i, hi, rfl⟩ := mem_getD hq
    have hcm := hg.conj_mem hp (getD_memS hi)
    obtain ⟨j, hj, e⟩ := mem_getD hcm
    have h1 := hI.all i j hi hj (hI.fst i hi hi) ⟨p, hp, e.symm⟩
    obtain rfl := hinj j i hj hi h1
    exact (PermN.conj_comm (hg.permN hp) (hg.permN hq)).1 e.symm
  · rw [decide_eq_false (by omega : ¬ ((n : Int) = (g.length : Int)))]
    rw [Bool.eq_false_iff]
    intro hab
    have hcomm : ∀ p ∈ g, ∀ q ∈ g, compose p q = compose q p := fun p hp q hq => by
      unfold isAbelian at hab
      rw [Bool.and_eq_true] at hab
      exact of_decide_eq_true (List.all_eq_true.1 (List.all_eq_true.1 hab.2 p hp) q hq)
    have hnd : c.Nodup := nodup_of_inj fun i j hi hj e => by
      rw [hlen] at hi hj
      obtain ⟨x, hx, e2⟩ := hI.onl i j hi hj (hI.fst i hi hi) e
      rw [(PermN.conj_comm (hg.permN hx) (hg.permN (getD_memS hi))).2 (hcomm x hx _ (getD_memS hi))] at e2
      exact hg.at_inj hi hj e2
    have h1 : c.length ≤ (identity n).length := List.Nodup.length_le_of_subset hnd fun v hv => by
      obtain ⟨j, hj, rfl⟩ := List.getElem_of_mem hv
      have h2 := hI.rng j (by omega)
      have h3 := hI.fst j (by omega) (by omega)
      rw [show c.getD j 0 = c[j] from by simp [List.getElem?_eq_getElem hj]] at h2 h3
      exact List.mem_map.2 ⟨(c[j]).toNat, List.mem_range.2 (by omega), by omega⟩
    rw [identity_len] at h1
    omega
/-- The size of a class divides the order. -/
theorem Grp.cls_size {g : List (List Int)} (hg : Grp g) {i : Nat} (hi : i < g.length) : sizeTo (clsTo g g.length).1 ((clsTo g g.length).1.getD i 0) g.length ∣ g.length := by
  have hI := hg.cls_final
  generalize (clsTo g g.length).1 = c at hI
  have hp := hg.permN (getD_memS hi)
  have h := hg.count (f := fun x => conj (inverse x) (g.getD i [])) (fun x hx y hy r hr e => by
    show conj (inverse (compose x r)) _ = conj (inverse (compose y r)) _
    have e' : conj (inverse x) (g.getD i []) = conj (inverse y) (g.getD i []) := e
    rw [(hg.permN hx).inv_comp (hg.permN hr), (hg.permN hy).inv_comp (hg.permN hr), (hg.permN hr).inv.conj_comp (hg.permN hx).inv hp, (hg.permN hr).inv.conj_comp (hg.permN hy).inv hp, e'])
    (vs := ((List.range g.length).filter fun j => c.getD j 0 == c.getD i 0).map fun j => g.getD j []) (by
      rw [List.nodup_iff_pairwise_ne, List.pairwise_map]
      refine ((List.nodup_range (n := g.length)).sublist List.filter_sublist).imp_of_mem fun {a b} ha hb hab e => hab ?_
      exact hg.at_inj (List.mem_range.1 (List.mem_filter.1 ha).1) (List.mem_range.1 (List.mem_filter.1 hb).1) e) fun v => by
      rw [List.mem_map]
      constructor
      · rintro ⟨j, hj, rfl⟩
        obtain ⟨h1, h2⟩ := List.mem_filter.1 hj
        have hjl := List.mem_range.1 h1
        obtain ⟨x, hx, e⟩ := hI.onl i j hi hjl (hI.fst i hi hi) (beq_iff_eq.1 h2).symm
        exact ⟨inverse x, hg.inv_mem hx, by show conj (inverse (inverse x)) _ = _; rw [(hg.permN hx).inv_inv]; exact e⟩
      · rintro ⟨q, hq, rfl⟩
        have hqi := hg.inv_mem hq
        obtain ⟨j, hj, e⟩ := mem_getD (hg.conj_mem hqi (getD_memS hi))
        refine ⟨j, List.mem_filter.2 ⟨List.mem_range.2 hj, beq_iff_eq.2 ?_⟩, e⟩
        exact hI.all i j hi hj (hI.fst i hi hi) ⟨_, hqi, e.symm⟩
  rw [List.length_map] at h
  exact ⟨_, h⟩
/-- How often a point has to be carried to come back. -/
def perB (p : List Int) (l : Nat) (x : Int) : Bool := decide (itP p l x = x) && (List.range l).all fun k => k == 0 || decide (itP p k x ≠ x)
theorem perB_iff {p : List Int} {l : Nat} {x : Int} : perB p l x = true ↔ itP p l x = x ∧ ∀ k, k < l → 1 ≤ k → itP p k x ≠ x := by
  unfold perB
  simp only [Bool.and_eq_true, decide_eq_true_iff, List.all_eq_true, List.mem_range, Bool.or_eq_true, beq_iff_eq]
  constructor
  · rintro ⟨h1, h2⟩
    refine ⟨h1, fun k hk h0 => ?_⟩
    rcases h2 k hk with h | h
    · omega
    · exact h
  · rintro ⟨h1, h2⟩
    refine ⟨h1, fun k hk => ?_⟩
    rcases Nat.eq_zero_or_pos k with h | h
    · exact .inl h
    · exact .inr (h2 k hk h)
theorem per_cycle {p c : List Int} (hp : permOk p = true) (hc : c ∈ cyclesOf p) {x : Int} (hx : x ∈ c) {l : Nat} (hl : 1 ≤ l) : perB p l x = (c.length == l) := by
  have hok := cyclesOf_ok hp c hc
  have hnd := cycle_nodup hp hc
  obtain ⟨a, ha, e⟩ := List.getElem_of_mem hx
  have e' : c.getD a 0 = x := by simp [List.getElem?_eq_getElem ha, e]
  have hit : ∀ j, itP p j x = x ↔ c.length ∣ j := fun j => by
    have h1 := it_cycle hok ha j
    rw [e'] at h1
    rw [h1]
    constructor
    · intro h
      rw [← e'] at h
      have h2 := nodup_getD hnd (Nat.mod_lt _ (by omega)) ha h
      have h3 := Nat.div_add_mod (a + j) c.length
      rw [h2] at h3
      exact ⟨(a + j) / c.length, by omega⟩
    · rintro ⟨k, rfl⟩
      rw [Nat.add_mul_mod_self_left, Nat.mod_eq_of_lt ha, e']
  cases hb : perB p l x with
  | true =>
    obtain ⟨h1, h2⟩ := perB_iff.1 hb
    have h3 := (hit l).1 h1
    have h4 := Nat.le_of_dvd (by omega) h3
    have h5 : ¬ c.length < l := fun h => h2 _ h hok.1 ((hit _).2 (Nat.dvd_refl _))
    exact (beq_iff_eq.2 (by omega)).symm
  | false =>
    refine (beq_eq_false_iff_ne.2 fun h => ?_).symm
    have : perB p l x = true := perB_iff.2 ⟨(hit l).2 (by rw [h]; exact Nat.dvd_refl _), fun k hk h1 e => by
      have := Nat.le_of_dvd (by omega) ((hit k).1 e); omega⟩
    rw [this] at hb; cases hb
theorem filter_flat {p : List Int} {l : Nat} (cs : List (List Int)) (h : ∀ c ∈ cs, ∀ x ∈ c, perB p l x = (c.length == l)) : (cs.flatten.filter (perB p l)).length = (cs.filter fun c => c.length == l).length * l := by
  induction cs with
  | nil => simp
  | cons c cs ih =>
    have h1 := ih fun d hd => h d (by simp [hd])
    rw [List.flatten_cons, List.filter_append, List.length_append, h1]
    have h2 : c.filter (perB p l) = if c.length = l then c else [] := by
      by_cases e : c.length = l
      · rw [if_pos e]
        refine List.filter_eq_self.2 fun x hx => ?_
        rw [h c (by simp) x hx]; exact beq_iff_eq.2 e
      · rw [if_neg e]
        refine List.filter_eq_nil_iff.2 fun x hx => ?_
        rw [h c (by simp) x hx]
        simp [e]
    rw [h2]
    by_cases e : c.length = l
    · have hb : (c.length == l) = true := beq_iff_eq.2 e
      rw [if_pos e, List.filter_cons, hb, if_pos rfl, List.length_cons, Nat.succ_mul, e]
      omega
    · have hb : (c.length == l) = false := beq_eq_false_iff_ne.2 e
      rw [if_neg e, List.filter_cons, hb]
      simp
theorem type_count {p : List Int} (hp : permOk p = true) {l : Nat} (hl : 1 ≤ l) : ((cyclesOf p).filter fun c => c.length == l).length * l = ((identity p.length).filter (perB p l)).length := by
  rw [← filter_flat (p := p) (cyclesOf p) fun c hc x hx => per_cycle hp hc hx hl]
  refine List.Perm.length_eq (List.Perm.filter _ ?_)
  refine (List.perm_ext_iff_of_nodup (cyclesOf_met hp).1 (permOk_nodup (identity_ok (permOk_le hp).1 (permOk_le hp).2))).2 fun x => ?_
  constructor
  · intro hx
    have := (cyclesOf_met hp).2 x hx
    exact List.mem_map.2 ⟨x.toNat, List.mem_range.2 (by omega), by omega⟩
  · intro hx
    obtain ⟨j, hj, rfl⟩ := List.mem_map.1 hx
    exact cyclesOf_cover hp (List.mem_range.1 hj)
theorem conj_it {n : Nat} {x p : List Int} (hx : PermN n x) (hp : PermN n p) {i : Nat} (hi : i < n) (j : Nat) : x.getD (itP (conj x p) j (i : Int)).toNat 0 = itP p j (x.getD i 0) := by
  have hxr : ∀ k, k < n → 0 ≤ x.getD k 0 ∧ x.getD k 0 < (n : Int) := fun k hk => by
    have := perm_next hx.1 (x := k) (by rw [hx.2]; exact hk)
    rw [hx.2] at this; exact this
  induction j with
  | zero => show x.getD ((i : Int)).toNat 0 = x.getD i 0; rw [Int.toNat_natCast]
  | succ j ih =>
    have hr := itP_range (hx.conj hp).1 (x := (i : Int)) (by omega) (by rw [(hx.conj hp).2]; omega) j
    rw [(hx.conj hp).2] at hr
    unfold itP
    rw [← ih]
    generalize itP (conj x p) j (i : Int) = y at hr ih ⊢
    have h1 := hxr y.toNat (by omega)
    have h2 := perm_next hp.1 (x := (x.getD y.toNat 0).toNat) (by rw [hp.2]; omega)
    rw [hp.2] at h2
    have h3 : (compose x p).getD y.toNat 0 = p.getD (x.getD y.toNat 0).toNat 0 := comp_at (by rw [hx.2]; omega)
    have h4 : (conj x p).getD y.toNat 0 = (inverse x).getD ((compose x p).getD y.toNat 0).toNat 0 := by
      unfold conj
      exact comp_at (by rw [compose_len, hx.2]; omega)
    rw [h4, h3]
    generalize p.getD (x.getD y.toNat 0).toNat 0 = z at h2 ⊢
    obtain ⟨a, ha, e⟩ := perm_onto hx.1 (x := z.toNat) (by rw [hx.2]; omega)
    have h5 := inv_at hx.1 ha
    rw [e, Int.toNat_natCast] at h5
    rw [h5, Int.toNat_natCast, e]; omega
/-- Conjugates have one cycle type. -/
theorem conj_type {n : Nat} {x p : List Int} (hx : PermN n x) (hp : PermN n p) : cycleType (conj x p) = cycleType p := by
  have hq := hx.conj hp
  rw [cycleType_yes hq.1, cycleType_yes hp.1, hq.2, hp.2]
  unfold typeTo
  refine List.map_congr_left fun j hj => ?_
  have h1 := type_count hq.1 (l := j + 1) (by omega)
  have h2 := type_count hp.1 (l := j + 1) (by omega)
  rw [hq.2] at h1
  rw [hp.2] at h2
  have h3 : ((identity n).filter (perB (conj x p) (j + 1))).length = ((identity n).filter (perB p (j + 1))).length := by
    have e1 : (identity n).filter (perB (conj x p) (j + 1)) = (identity n).filter fun i => perB p (j + 1) (x.getD i.toNat 0) := by
      refine List.filter_congr fun i hi => ?_
      obtain ⟨a, ha, rfl⟩ := List.mem_map.1 hi
      have han := List.mem_range.1 ha
      have hiff : ∀ k, itP (conj x p) k (a : Int) = (a : Int) ↔ itP p k (x.getD a 0) = x.getD a 0 := fun k => by
        rw [← conj_it hx hp han k]
        have hr := itP_range hq.1 (x := (a : Int)) (by omega) (by rw [hq.2]; omega) k
        rw [hq.2] at hr
        constructor
        · intro h; rw [h, Int.toNat_natCast]
        · intro h
          have := perm_inj hx.1 (i := (itP (conj x p) k (a : Int)).toNat) (j := a) (by rw [hx.2]; omega) (by rw [hx.2]; omega) h
          omega
      rw [Int.toNat_natCast, Bool.eq_iff_iff, perB_iff, perB_iff, hiff]
      constructor
      · rintro ⟨h1, h2⟩; exact ⟨h1, fun k hk h0 e => h2 k hk h0 ((hiff k).2 e)⟩
      · rintro ⟨h1, h2⟩; exact ⟨h1, fun k hk h0 e => h2 k hk h0 ((hiff k).1 e)⟩
    have e2 : ((identity n).map fun i => x.getD i.toNat 0) = x := by
      refine list_ext0 (by rw [List.length_map, identity_len, hx.2]) fun i hi => ?_
      rw [List.length_map, identity_len] at hi
      simp [identity, hi]
    have e3 : ((identity n).filter fun i => perB p (j + 1) (x.getD i.toNat 0)).length = (x.filter (perB p (j + 1))).length := by
      conv => rhs; rw [← e2, List.filter_map, List.length_map]
      rfl
    rw [e1, e3]
    refine List.Perm.length_eq (List.Perm.filter _ ?_)
    refine (List.perm_ext_iff_of_nodup (permOk_nodup hx.1) (permOk_nodup (identity_ok hp.deg.1 hp.deg.2))).2 fun y => ?_
    constructor
    · intro hy
      have := hx.rng y hy
      exact List.mem_map.2 ⟨y.toNat, List.mem_range.2 (by omega), by omega⟩
    · intro hy
      obtain ⟨a, ha, rfl⟩ := List.mem_map.1 hy
      obtain ⟨i, hi, e⟩ := perm_onto hx.1 (x := a) (by rw [hx.2]; exact List.mem_range.1 ha)
      rw [← e]; exact getD_mem hi
  rw [h3, ← h2] at h1
  have := Nat.eq_of_mul_eq_mul_right (by omega) h1
  exact congrArg Int.ofNat this
theorem Grp.cls_type {g : List (List Int)} (hg : Grp g) {i j : Nat} (hi : i < g.length) (hj : j < g.length) (h : (clsTo g g.length).1.getD i 0 = (clsTo g g.length).1.getD j 0) : cycleType (g.getD i []) = cycleType (g.getD j []) := by
  have hI := hg.cls_final
  obtain ⟨x, hx, e⟩ := hI.onl i j hi hj (hI.fst i hi hi) h
  rw [← e, conj_type (hg.permN hx) (hg.permN (getD_memS hi))]
end Go.Proofs.Ytfanohebejemmaa
