/-
  Plain Lean: a group of permutations holds the identity and each inverse; its orbits do not meet.
-/
import Derived.Test.YtfanohebejemmaaGrpFn
namespace Go.Proofs.Ytfanohebejemmaa

theorem comp_at {p q : List Int} {i : Nat} (hi : i < p.length) : (compose p q).getD i 0 = q.getD (p.getD i 0).toNat 0 := by
  unfold compose; simp [hi]
theorem list_ext0 {p q : List Int} (hl : p.length = q.length) (h : ∀ i, i < p.length → p.getD i 0 = q.getD i 0) : p = q := by
  apply List.ext_getElem hl
  intro i h1 h2
  have := h i h1
  simpa [h1, h2] using this
theorem perm_inj {p : List Int} (hp : permOk p = true) {i j : Nat} (hi : i < p.length) (hj : j < p.length) (h : p.getD i 0 = p.getD j 0) : i = j := by
  have hn := permOk_nodup hp
  simp only [List.getD, List.getElem?_eq_getElem hi, List.getElem?_eq_getElem hj, Option.getD_some] at h
  rw [List.nodup_iff_pairwise_ne, List.pairwise_iff_getElem] at hn
  rcases Nat.lt_trichotomy i j with hlt | rfl | hlt
  · exact absurd h (hn i j hi hj hlt)
  · rfl
  · exact absurd h.symm (hn j i hj hi hlt)
theorem identity_at {n i : Nat} (hi : i < n) : (identity n).getD i 0 = (i : Int) := by simp [identity, hi]
theorem perm_onto {p : List Int} (hp : permOk p = true) {x : Nat} (hx : x < p.length) : ∃ i, i < p.length ∧ p.getD i 0 = (x : Int) := by
  by_cases hm : (x : Int) ∈ p
  · obtain ⟨i, hi, he⟩ := List.mem_iff_getElem.1 hm
    exact ⟨i, hi, by simpa [hi] using he⟩
  · exfalso
    have h1 : ((x : Int) :: p).Nodup := List.nodup_cons.2 ⟨hm, permOk_nodup hp⟩
    have h2 : ((x : Int) :: p).length ≤ (identity p.length).length := List.Nodup.length_le_of_subset h1 fun y hy => by
      have hy' : 0 ≤ y ∧ y < (p.length : Int) := by
        rcases List.mem_cons.1 hy with rfl | hy
        · omega
        · exact permOk_mem hp y hy
      exact List.mem_map.2 ⟨y.toNat, List.mem_range.2 (by omega), by omega⟩
    rw [identity_len, List.length_cons] at h2
    omega
theorem comp_cancel {p p' q : List Int} (hq : permOk q = true) (hp : permOk p = true) (hp' : permOk p' = true) (hl : p.length = q.length) (hl' : p'.length = q.length) (h : compose p q = compose p' q) : p = p' := by
  refine list_ext0 (by omega) fun i hi => ?_
  have h1 : (compose p q).getD i 0 = (compose p' q).getD i 0 := by rw [h]
  rw [comp_at hi, comp_at (by omega)] at h1
  obtain ⟨a0, a1⟩ := perm_next hp hi
  obtain ⟨b0, b1⟩ := perm_next hp' (x := i) (by omega)
  have := perm_inj hq (by omega) (by omega) h1
  omega
theorem asc_nodup {g : List (List Int)} (h : Asc g) : g.Nodup := by
  rw [List.nodup_iff_pairwise_ne, List.pairwise_iff_getElem]
  intro i j hi hj hij he
  have := h i j hij hj
  simp only [List.getD, List.getElem?_eq_getElem hi, List.getElem?_eq_getElem hj, Option.getD_some] at this
  rw [he] at this
  simp [ltL_irrefl] at this
/-- A list that maps into itself without meeting is met everywhere. -/
theorem onto_of_inj {α : Type} {g : List α} {f : α → α} (hn : g.Nodup) (hin : ∀ x ∈ g, f x ∈ g) (hinj : ∀ x ∈ g, ∀ y ∈ g, f x = f y → x = y) : ∀ r ∈ g, ∃ x ∈ g, f x = r := by
  intro r hr
  by_cases hm : r ∈ g.map f
  · obtain ⟨x, hx, he⟩ := List.mem_map.1 hm; exact ⟨x, hx, he⟩
  · exfalso
    have h0 : (g.map f).Nodup := by
      rw [List.nodup_iff_pairwise_ne, List.pairwise_map]
      exact hn.imp_of_mem fun {a b} ha hb hab he => hab (hinj a ha b hb he)
    have h1 : (r :: g.map f).Nodup := List.nodup_cons.2 ⟨hm, h0⟩
    have h2 : (r :: g.map f).length ≤ g.length := List.Nodup.length_le_of_subset h1 fun y hy => by
      rcases List.mem_cons.1 hy with rfl | hy
      · exact hr
      · obtain ⟨x, hx, rfl⟩ := List.mem_map.1 hy; exact hin x hx
    rw [List.length_cons, List.length_map] at h2
    omega
theorem Grp.right {g : List (List Int)} (h : Grp g) {q r : List Int} (hq : q ∈ g) (hr : r ∈ g) : ∃ p ∈ g, compose p q = r :=
  onto_of_inj (asc_nodup h.asc) (fun x hx => h.closed x hx q hq) (fun x hx y hy he => comp_cancel (h.perm q hq) (h.perm x hx) (h.perm y hy) (by rw [h.len x hx, h.len q hq]) (by rw [h.len y hy, h.len q hq]) he) r hr
theorem Grp.id_mem {g : List (List Int)} (h : Grp g) : identity (deg g) ∈ g := by
  have hq := getD_memS (g := g) (k := 0) h.one
  obtain ⟨p, hp, he⟩ := h.right hq hq
  have hpl := h.len p hp
  have hql := h.len _ hq
  have : p = identity (deg g) := by
    refine list_ext0 (by rw [identity_len, hpl]) fun i hi => ?_
    have h1 : (compose p (g.getD 0 [])).getD i 0 = (g.getD 0 []).getD i 0 := by rw [he]
    rw [comp_at hi] at h1
    obtain ⟨a0, a1⟩ := perm_next (h.perm p hp) hi
    have := perm_inj (h.perm _ hq) (by omega) (by omega) h1
    rw [identity_at (by omega)]
    omega
  rw [← this]; exact hp
theorem Grp.inv {g : List (List Int)} (h : Grp g) {p : List Int} (hp : p ∈ g) : ∃ r ∈ g, (∀ i, i < deg g → p.getD (r.getD i 0).toNat 0 = (i : Int)) ∧ ∀ i, i < deg g → r.getD (p.getD i 0).toNat 0 = (i : Int) := by
  obtain ⟨r, hr, he⟩ := h.right hp h.id_mem
  have hrl := h.len r hr
  have hpl := h.len p hp
  have h1 : ∀ i, i < deg g → p.getD (r.getD i 0).toNat 0 = (i : Int) := fun i hi => by
    have h1 : (compose r p).getD i 0 = (identity (deg g)).getD i 0 := by rw [he]
    rwa [comp_at (by omega), identity_at hi] at h1
  refine ⟨r, hr, h1, fun i hi => ?_⟩
  obtain ⟨a0, a1⟩ := perm_next (h.perm p hp) (x := i) (by omega)
  have h2 := h1 (p.getD i 0).toNat (by omega)
  obtain ⟨b0, b1⟩ := perm_next (h.perm r hr) (x := (p.getD i 0).toNat) (by omega)
  rw [Int.toNat_of_nonneg a0] at h2
  have := perm_inj (h.perm p hp) (by omega) (by omega) h2
  omega
end Go.Proofs.Ytfanohebejemmaa
