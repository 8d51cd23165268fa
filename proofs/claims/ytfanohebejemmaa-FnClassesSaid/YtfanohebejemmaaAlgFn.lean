/-
  Plain Lean: reckoning with permutations of one degree: composing, inverses, conjugates, powers.
-/
import Derived.Test.YtfanohebejemmaaWordFn
import Derived.Test.YtfanohebejemmaaClsFn
namespace Go.Proofs.Ytfanohebejemmaa

/-- A permutation of degree n. -/
def PermN (n : Nat) (p : List Int) : Prop := permOk p = true ∧ p.length = n
theorem PermN.rng {n : Nat} {p : List Int} (h : PermN n p) : ∀ x ∈ p, 0 ≤ x ∧ x < (n : Int) := fun x hx => by have := permOk_mem h.1 x hx; rw [h.2] at this; exact this
theorem PermN.deg {n : Nat} {p : List Int} (h : PermN n p) : 1 ≤ n ∧ n ≤ 10 := by have := permOk_le h.1; rw [h.2] at this; exact this
theorem PermN.id {n : Nat} (h1 : 1 ≤ n) (h2 : n ≤ 10) : PermN n (identity n) := ⟨identity_ok h1 h2, identity_len n⟩
theorem PermN.comp {n : Nat} {p q : List Int} (hp : PermN n p) (hq : PermN n q) : PermN n (compose p q) := ⟨compose_ok hp.1 hq.1 (hp.2.trans hq.2.symm), by rw [compose_len]; exact hp.2⟩
theorem PermN.inv {n : Nat} {p : List Int} (hp : PermN n p) : PermN n (inverse p) := ⟨inv_ok hp.1, by rw [inv_len]; exact hp.2⟩
theorem PermN.assoc {n : Nat} {p q : List Int} (hp : PermN n p) (hq : PermN n q) (r : List Int) : compose (compose p q) r = compose p (compose q r) := comp_assoc fun x hx => by have := hp.rng x hx; rw [hq.2]; exact this
theorem PermN.idl {n : Nat} {p : List Int} (hp : PermN n p) : compose (identity n) p = p := by have := id_comp p; rwa [hp.2] at this
theorem PermN.idr {n : Nat} {p : List Int} (hp : PermN n p) : compose p (identity n) = p := by have := comp_id hp.1; rwa [hp.2] at this
theorem PermN.invr {n : Nat} {p : List Int} (hp : PermN n p) : compose p (inverse p) = identity n := by have := comp_inv hp.1; rwa [hp.2] at this
theorem PermN.invl {n : Nat} {p : List Int} (hp : PermN n p) : compose (inverse p) p = identity n := by
  refine list_ext0 (by rw [compose_len, inv_len, identity_len, hp.2]) fun j hj => ?_
  rw [compose_len, inv_len] at hj
  obtain ⟨i, hi, e⟩ := perm_onto hp.1 hj
  have h := inv_at hp.1 hi
  rw [e, Int.toNat_natCast] at h
  rw [comp_at (by rw [inv_len]; exact hj), h, Int.toNat_natCast, e, identity_at (by rw [← hp.2]; exact hj)]
theorem PermN.cancel_left {n : Nat} {q p p' : List Int} (hq : PermN n q) (hp : PermN n p) (hp' : PermN n p') (h : compose q p = compose q p') : p = p' := by
  have h2 : compose (inverse q) (compose q p) = compose (inverse q) (compose q p') := by rw [h]
  rwa [← hq.inv.assoc hq, ← hq.inv.assoc hq, hq.invl, hp.idl, hp'.idl] at h2
theorem PermN.cancel_right {n : Nat} {q p p' : List Int} (hq : PermN n q) (hp : PermN n p) (hp' : PermN n p') (h : compose p q = compose p' q) : p = p' := by
  have h2 : compose (compose p q) (inverse q) = compose (compose p' q) (inverse q) := by rw [h]
  rwa [hp.assoc hq, hp'.assoc hq, hq.invr, hp.idr, hp'.idr] at h2
theorem PermN.inv_unique {n : Nat} {a b : List Int} (ha : PermN n a) (hb : PermN n b) (h : compose a b = identity n) : b = inverse a :=
  ha.cancel_left hb ha.inv (by rw [h, ha.invr])
theorem PermN.inv_comp {n : Nat} {a b : List Int} (ha : PermN n a) (hb : PermN n b) : inverse (compose a b) = compose (inverse b) (inverse a) := by
  refine (PermN.inv_unique (ha.comp hb) (hb.inv.comp ha.inv) ?_).symm
  rw [ha.assoc hb, ← hb.assoc hb.inv, hb.invr, ha.inv.idl, ha.invr]
theorem PermN.inv_inv {n : Nat} {a : List Int} (ha : PermN n a) : inverse (inverse a) = a := (PermN.inv_unique ha.inv ha ha.invl).symm
theorem PermN.inv_id {n : Nat} (h1 : 1 ≤ n) (h2 : n ≤ 10) : inverse (identity n) = identity n := (PermN.inv_unique (PermN.id h1 h2) (PermN.id h1 h2) (PermN.id h1 h2).idl).symm
theorem PermN.conj {n : Nat} {x p : List Int} (hx : PermN n x) (hp : PermN n p) : PermN n (conj x p) := (hx.comp hp).comp hx.inv
theorem PermN.conj_comp {n : Nat} {r x p : List Int} (hr : PermN n r) (hx : PermN n x) (hp : PermN n p) : Go.Proofs.Ytfanohebejemmaa.conj (compose r x) p = Go.Proofs.Ytfanohebejemmaa.conj r (Go.Proofs.Ytfanohebejemmaa.conj x p) := by
  unfold Go.Proofs.Ytfanohebejemmaa.conj
  rw [hr.inv_comp hx, hr.assoc hx, hr.assoc (hx.comp hp), ← (hx.comp hp).assoc hx.inv, hr.assoc ((hx.comp hp).comp hx.inv)]
theorem PermN.conj_id {n : Nat} {p : List Int} (hp : PermN n p) : Go.Proofs.Ytfanohebejemmaa.conj (identity n) p = p := by
  unfold Go.Proofs.Ytfanohebejemmaa.conj
  rw [PermN.inv_id hp.deg.1 hp.deg.2, hp.idl, hp.idr]
theorem PermN.conj_back {n : Nat} {x p : List Int} (hx : PermN n x) (hp : PermN n p) : Go.Proofs.Ytfanohebejemmaa.conj (inverse x) (Go.Proofs.Ytfanohebejemmaa.conj x p) = p := by
  rw [← hx.inv.conj_comp hx hp, hx.invl, hp.conj_id]
theorem PermN.conj_comm {n : Nat} {x p : List Int} (hx : PermN n x) (hp : PermN n p) : Go.Proofs.Ytfanohebejemmaa.conj x p = p ↔ compose x p = compose p x := by
  unfold Go.Proofs.Ytfanohebejemmaa.conj
  constructor
  · intro h
    refine hx.inv.cancel_right (hx.comp hp) (hp.comp hx) ?_
    rw [h, hp.assoc hx, hx.invr, hp.idr]
  · intro h
    rw [h, hp.assoc hx, hx.invr, hp.idr]
theorem Grp.permN {g : List (List Int)} (hg : Grp g) {p : List Int} (hp : p ∈ g) : PermN (deg g) p := ⟨hg.perm p hp, hg.len p hp⟩
theorem PermN.powTo {n : Nat} {p : List Int} (hp : PermN n p) (k : Nat) : PermN n (powTo p k) := by
  induction k with
  | zero => show PermN n (identity p.length); rw [hp.2]; exact PermN.id hp.deg.1 hp.deg.2
  | succ k ih => exact ih.comp hp
theorem PermN.pow_add {n : Nat} {p : List Int} (hp : PermN n p) (a b : Nat) : Go.Proofs.Ytfanohebejemmaa.powTo p (a + b) = compose (Go.Proofs.Ytfanohebejemmaa.powTo p a) (Go.Proofs.Ytfanohebejemmaa.powTo p b) := by
  induction b with
  | zero =>
    show _ = compose (Go.Proofs.Ytfanohebejemmaa.powTo p a) (identity p.length)
    rw [hp.2, (hp.powTo a).idr]; rfl
  | succ b ih =>
    show compose (Go.Proofs.Ytfanohebejemmaa.powTo p (a + b)) p = compose (Go.Proofs.Ytfanohebejemmaa.powTo p a) (compose (Go.Proofs.Ytfanohebejemmaa.powTo p b) p)
    rw [ih, (hp.powTo a).assoc (hp.powTo b)]
theorem Grp.pow_mem {g : List (List Int)} (hg : Grp g) {p : List Int} (hp : p ∈ g) (k : Nat) : Go.Proofs.Ytfanohebejemmaa.powTo p k ∈ g := by
  induction k with
  | zero => show identity p.length ∈ g; rw [hg.len p hp]; exact hg.id_mem
  | succ k ih => exact hg.closed _ ih _ hp
/-- Generators that commute make words that commute. -/
theorem word_comm {n : Nat} {gens : List (List Int)} (h1 : 1 ≤ n) (h2 : n ≤ 10) (hg : Gens n gens) (hc : ∀ s ∈ gens, ∀ t ∈ gens, compose s t = compose t s) {x y : List Int} (hx : Word n gens x) (hy : Word n gens y) : compose x y = compose y x := by
  have hX : PermN n x := hx.ok h1 h2 hg
  have hx1 : ∀ t ∈ gens, compose x t = compose t x := by
    refine (hx (fun x => PermN n x ∧ ∀ t ∈ gens, compose x t = compose t x) ⟨PermN.id h1 h2, fun t ht => ?_⟩ fun u s hu hs => ⟨hu.1.comp (hg s hs), fun t ht => ?_⟩).2
    · have ht' : PermN n t := hg t ht
      rw [ht'.idl, ht'.idr]
    · have hs' : PermN n s := hg s hs
      have ht' : PermN n t := hg t ht
      rw [hu.1.assoc hs', hc s hs t ht, ← hu.1.assoc ht', hu.2 t ht, ht'.assoc hu.1]
  refine (hy (fun y => PermN n y ∧ compose x y = compose y x) ⟨PermN.id h1 h2, by rw [hX.idl, hX.idr]⟩ fun u s hu hs => ⟨hu.1.comp (hg s hs), ?_⟩).2
  have hs' : PermN n s := hg s hs
  rw [← hX.assoc hu.1, hu.2, hu.1.assoc hX, hx1 s hs, ← hu.1.assoc hs']
end Go.Proofs.Ytfanohebejemmaa
