/-
  Plain Lean: the action on subsets goes along with composing; the symmetric groups of degrees 3 and 4 and their actions on pairs.
-/
import Derived.Test.YtogenfooeplkmaaSubAFn
import Derived.Test.YtogenfooeplkmaaTurnFn
import Derived.Test.YtogenfooeplkmaaInvFn
namespace Go.Proofs.Ytogenfooeplkmaa

theorem sortI_eq {a b : List Int} (h : a.Perm b) : sortI a = sortI b :=
  List.Perm.eq_of_pairwise (le := fun a b => decide (a ≤ b) = true) (fun a b _ _ h1 h2 => by simp only [decide_eq_true_eq] at h1 h2; omega) (sortI_sorted a) (sortI_sorted b) ((sortI_perm a).trans (h.trans (sortI_perm b).symm))
theorem sortI_self {a : List Int} (h : a.Pairwise (· < ·)) : sortI a = a :=
  List.Perm.eq_of_pairwise (le := fun a b => decide (a ≤ b) = true) (fun a b _ _ h1 h2 => by simp only [decide_eq_true_eq] at h1 h2; omega) (sortI_sorted a) (h.imp fun {a b} h => by simp only [decide_eq_true_eq]; omega) (sortI_perm a)
theorem img_comp {p q l : List Int} (hr : ∀ x ∈ l, 0 ≤ x ∧ x < (p.length : Int)) : imgL q (imgL p l) = imgL (compose p q) l := by
  unfold imgL
  rw [sortI_eq ((sortI_perm _).map fun a : Int => q.getD a.toNat 0), List.map_map]
  congr 1
  refine List.map_congr_left fun x hx => ?_
  have := hr x hx
  show q.getD (p.getD x.toNat 0).toNat 0 = _
  rw [comp_at (by omega)]
theorem img_id {n : Nat} {l : List Int} (hl : l.Pairwise (· < ·)) (hr : ∀ x ∈ l, 0 ≤ x ∧ x < (n : Int)) : imgL (identity n) l = l := by
  unfold imgL
  rw [show (l.map fun a : Int => (identity n).getD a.toNat 0) = l from ?_]
  · exact sortI_self hl
  · conv => rhs; rw [← List.map_id l]
    refine List.map_congr_left fun x hx => ?_
    have := hr x hx
    rw [identity_at (by omega)]
    show _ = x
    omega
theorem subs_mem {k n : Nat} {l : List Int} (h : l ∈ subs k 0 n) : l.length = k ∧ l.Pairwise (· < ·) ∧ ∀ x ∈ l, 0 ≤ x ∧ x < (n : Int) := by
  obtain ⟨h1, h2, h3⟩ := (mem_subs _ _ _ _).1 h
  exact ⟨h1, h2, fun x hx => by have := h3 x hx; omega⟩
theorem moved_at {ls : List (List Int)} {p : List Int} {j : Nat} (h : j < ls.length) : (movedL ls p).getD j 0 = findIdx ls (imgL p (ls.getD j [])) := by
  simp [movedL, h]
theorem moved_comp {p q : List Int} {n k : Nat} (hp : permOk p = true) (hpn : p.length = n) : compose (movedL (subs k 0 n) p) (movedL (subs k 0 n) q) = movedL (subs k 0 n) (compose p q) := by
  refine list_ext0 (by rw [compose_len, movedL_len, movedL_len]) fun j hj => ?_
  rw [compose_len, movedL_len] at hj
  have hm := getD_memS hj
  have hi := imgL_mem hp (k := k) (l := (subs k 0 n).getD j []) (by rw [hpn]; exact hm)
  rw [hpn] at hi
  rw [comp_at (by rw [movedL_len]; exact hj), moved_at hj, moved_at hj]
  have hr : (findIdx (subs k 0 n) (imgL p ((subs k 0 n).getD j []))).toNat < (subs k 0 n).length := by
    rcases findIdx_range (subs k 0 n) (imgL p ((subs k 0 n).getD j [])) with h | h
    · omega
    · exact absurd hi h.2
  rw [moved_at hr, findIdx_get hi, img_comp (by rw [hpn]; exact (subs_mem hm).2.2)]
theorem moved_ok {p : List Int} {n k : Nat} (hp : permOk p = true) (hpn : p.length = n) (hn : n ≤ 5) (hk : k ≤ n) : permOk (movedL (subs k 0 n) p) = true := by
  have hl := subs_len hn hk
  have hin : ∀ j, j < (subs k 0 n).length → imgL p ((subs k 0 n).getD j []) ∈ subs k 0 n := fun j hj => by
    have := imgL_mem hp (k := k) (l := (subs k 0 n).getD j []) (by rw [hpn]; exact getD_memS hj)
    rwa [hpn] at this
  have hback : ∀ j, j < (subs k 0 n).length → imgL (inverse p) (imgL p ((subs k 0 n).getD j [])) = (subs k 0 n).getD j [] := fun j hj => by
    have hm := subs_mem (getD_memS hj)
    rw [img_comp (by rw [hpn]; exact hm.2.2), comp_inv hp, hpn]
    exact img_id hm.2.1 hm.2.2
  refine permOk_intro (by rw [movedL_len]; exact hl.1) (by rw [movedL_len]; exact hl.2) (fun x hx => ?_) (nodup_of_inj fun i j hi hj h => ?_)
  · rw [movedL_len]
    obtain ⟨l, hl, rfl⟩ := List.mem_map.1 hx
    obtain ⟨j, hj, rfl⟩ := mem_getD hl
    rcases findIdx_range (subs k 0 n) (imgL p ((subs k 0 n).getD j [])) with h | h
    · omega
    · exact absurd (hin j hj) h.2
  · rw [movedL_len] at hi hj
    rw [moved_at hi, moved_at hj] at h
    have e1 := findIdx_get (hin i hi)
    rw [h, findIdx_get (hin j hj)] at e1
    have e2 := hback i hi
    rw [← e1, hback j hj] at e2
    have hA := subs_asc hn hk
    have h1 := findIdx_at hA hi
    rw [← e2, findIdx_at hA hj] at h1
    omega
/-- Sorting by inserting: this the kernel can run. -/
def sortP (q : List (List Int)) : List (List Int) := q.foldl putL []
theorem sortP_eq (q : List (List Int)) : sortP q = sortL q := by
  have : ∀ (r s : List (List Int)), r.foldl putL (sortL s) = sortL (s ++ r) := by
    intro r
    induction r with
    | nil => intro s; simp
    | cons x r ih => intro s; rw [List.foldl_cons, putL_sortL, ih]; simp
  have h := this q []
  rw [show sortL [] = [] from by simp [sortL], List.nil_append] at h
  exact h
def pairF (m : Nat) (p : List Int) : List Int := (subs 2 0 m).map fun l => findIdx (subs 2 0 m) (imgTo p l m)
def symCheck (m : Nat) : Bool :=
  match genAll m [turnL m, swapL m] with
  | none => false
  | some q => groupOk (sortP q) && decide (deg (sortP q) = m) && groupOk (sortP ((sortP q).map (pairF m)))
set_option maxRecDepth 100000 in
theorem symCheck3 : symCheck 3 = true := by decide +kernel
set_option maxRecDepth 100000 in
theorem symCheck4 : symCheck 4 = true := by decide +kernel
end Go.Proofs.Ytogenfooeplkmaa
