/-
  Plain Lean: the cycle index, as both loops find it: how many members have each cycle type, in ascending order of the types.
-/
import Derived.Test.YtfanohebejemmaaGenFn
import Derived.Test.YtfanohebejemmaaActFn
namespace Go.Proofs.Ytfanohebejemmaa

abbrev Trm := List Int × Int
def keysT (out : List Trm) : List (List Int) := out.map Prod.fst
def incT (t : List Int) (p : Trm) : Trm := if p.1 = t then (p.1, p.2 + 1) else p
/-- One member more, the types in the order in which they are met. -/
def addT (out : List Trm) (t : List Int) : List Trm := if t ∈ keysT out then out.map (incT t) else out ++ [(t, 1)]
/-- Where a type goes in an ascending list. -/
def placeT (out : List Trm) (t : List Int) : Nat := (out.takeWhile fun p => ltL p.1 t).length
/-- One member more, the types ascending. -/
def insT (out : List Trm) (t : List Int) : List Trm := if t ∈ keysT out then out.map (incT t) else out.take (placeT out t) ++ [(t, 1)] ++ out.drop (placeT out t)
def typeAt (g : List (List Int)) (k : Nat) : List Int := cycleType (g.getD k [])
def rawTo (g : List (List Int)) : Nat → List Trm
  | 0 => []
  | k + 1 => addT (rawTo g k) (typeAt g k)
def idxTo (g : List (List Int)) : Nat → List Trm
  | 0 => []
  | k + 1 => insT (idxTo g k) (typeAt g k)
def cycleIndex (g : List (List Int)) : List Trm := if groupOk g = true then idxTo g g.length else []
theorem cycleIndex_yes {g : List (List Int)} (h : groupOk g = true) : cycleIndex g = idxTo g g.length := by unfold cycleIndex; rw [if_pos h]
theorem cycleIndex_no {g : List (List Int)} (h : groupOk g = false) : cycleIndex g = [] := by unfold cycleIndex; rw [if_neg (by rw [h]; simp)]
theorem incT_key (t : List Int) (p : Trm) : (incT t p).1 = p.1 := by unfold incT; split <;> rfl
theorem keys_inc (out : List Trm) (t : List Int) : keysT (out.map (incT t)) = keysT out := by
  unfold keysT
  rw [List.map_map]
  exact List.map_congr_left fun p _ => incT_key t p
theorem keys_len (out : List Trm) : (keysT out).length = out.length := by simp [keysT]
theorem keys_app (a b : List Trm) : keysT (a ++ b) = keysT a ++ keysT b := by simp [keysT]
theorem addT_perm_inc {a b : List Trm} (h : a.Perm b) (t : List Int) : (a.map (incT t)).Perm (b.map (incT t)) := h.map _
theorem insT_addT {a b : List Trm} (h : a.Perm b) (t : List Int) : (insT a t).Perm (addT b t) := by
  have hk : (keysT a).Perm (keysT b) := h.map _
  unfold insT addT
  by_cases ht : t ∈ keysT a
  · rw [if_pos ht, if_pos (hk.mem_iff.1 ht)]; exact h.map _
  · rw [if_neg ht, if_neg fun h' => ht (hk.mem_iff.2 h')]
    have h1 : (a.take (placeT a t) ++ a.drop (placeT a t) ++ [(t, (1 : Int))]).Perm (a ++ [(t, 1)]) := by rw [List.take_append_drop]
    refine List.Perm.trans ?_ (h1.trans (List.Perm.append_right _ h))
    rw [List.append_assoc, List.append_assoc]
    exact List.Perm.append_left _ List.perm_append_comm
theorem idx_raw (g : List (List Int)) (k : Nat) : (idxTo g k).Perm (rawTo g k) := by
  induction k with
  | zero => exact List.Perm.refl _
  | succ k ih => exact insT_addT ih _
/-- Ascending by type. -/
def AscT (l : List Trm) : Prop := l.Pairwise fun a b => ltL a.1 b.1 = true
theorem AscT.map_inc {l : List Trm} (h : AscT l) (t : List Int) : AscT (l.map (incT t)) := by
  unfold AscT at *
  rw [List.pairwise_map]
  exact h.imp fun {a b} hab => by rw [incT_key, incT_key]; exact hab
theorem ltL_flip {a b : List Int} (h : ltL a b = false) (hne : a ≠ b) : ltL b a = true := by
  refine ltL_of_le ?_ fun e => hne e.symm
  unfold leL; rw [h]; rfl
theorem insT_asc {l : List Trm} (h : AscT l) (t : List Int) : AscT (insT l t) := by
  unfold insT
  by_cases ht : t ∈ keysT l
  · rw [if_pos ht]; exact h.map_inc t
  · rw [if_neg ht]
    induction l with
    | nil => simp [placeT, AscT]
    | cons x l ih =>
      obtain ⟨h1, h2⟩ := List.pairwise_cons.1 h
      have htl : t ∉ keysT l := fun h' => ht (by unfold keysT at *; simp only [List.map_cons, List.mem_cons]; exact .inr h')
      have hx : x.1 ≠ t := fun e => ht (by unfold keysT; simp only [List.map_cons, List.mem_cons]; exact .inl e.symm)
      cases hb : ltL x.1 t with
      | true =>
        have e : placeT (x :: l) t = placeT l t + 1 := by unfold placeT; simp [hb]
        rw [e]
        simp only [List.take_succ_cons, List.drop_succ_cons, List.cons_append]
        refine List.pairwise_cons.2 ⟨fun y hy => ?_, ih h2 htl⟩
        rcases List.mem_append.1 hy with hy | hy
        · rcases List.mem_append.1 hy with hy | hy
          · exact h1 y (List.mem_of_mem_take hy)
          · rw [List.mem_singleton.1 hy]; exact hb
        · exact h1 y (List.mem_of_mem_drop hy)
      | false =>
        have e : placeT (x :: l) t = 0 := by unfold placeT; simp [hb]
        rw [e]
        simp only [List.take_zero, List.nil_append, List.drop_zero]
        have htx := ltL_flip hb hx
        refine List.pairwise_cons.2 ⟨fun y hy => ?_, h⟩
        rcases List.mem_cons.1 hy with rfl | hy
        · exact htx
        · exact ltL_trans htx (h1 y hy)
theorem idx_asc (g : List (List Int)) (k : Nat) : AscT (idxTo g k) := by
  induction k with
  | zero => exact List.Pairwise.nil
  | succ k ih => exact insT_asc ih _
theorem AscT.keys {l : List Trm} (h : AscT l) : (keysT l).Nodup := by
  unfold keysT
  rw [List.nodup_iff_pairwise_ne, List.pairwise_map]
  exact h.imp fun {a b} hab e => by rw [e, ltL_irrefl] at hab; cases hab
theorem idx_keys (g : List (List Int)) (k : Nat) : (keysT (idxTo g k)).Nodup := (idx_asc g k).keys
theorem raw_keys (g : List (List Int)) (k : Nat) : (keysT (rawTo g k)).Nodup := (((idx_raw g k).map Prod.fst).nodup_iff).1 (idx_keys g k)
/-- One list alone is ascending by type and has these members. -/
theorem idx_unique {g : List (List Int)} {k : Nat} {r : List Trm} (hp : r.Perm (rawTo g k)) (hs : r.Pairwise fun a b => leL a.1 b.1 = true) : r = idxTo g k := by
  have hp2 : r.Perm (idxTo g k) := hp.trans (idx_raw g k).symm
  refine List.Perm.eq_of_pairwise (le := fun a b : Trm => leL a.1 b.1 = true) (fun a b ha hb h1 h2 => ?_) hs ((idx_asc g k).imp fun {a b} h => ltL_le h) hp2
  have hk := leL_antisymm h1 h2
  have hb' := hp2.mem_iff.1 ha
  have hnd := idx_keys g k
  obtain ⟨i, hi, rfl⟩ := List.getElem_of_mem hb'
  obtain ⟨j, hj, rfl⟩ := List.getElem_of_mem hb
  by_cases hij : i = j
  · subst hij; rfl
  · exfalso
    unfold keysT at hnd
    rw [List.nodup_iff_pairwise_ne, List.pairwise_map, List.pairwise_iff_getElem] at hnd
    rcases Nat.lt_or_gt_of_ne hij with h | h
    · exact hnd i j hi hj h hk
    · exact hnd j i hj hi h hk.symm
/-- Each number is at least 1 and at most how many members were counted. -/
theorem addT_count {out : List Trm} {m : Int} {t : List Int} (hm : 0 ≤ m) (h : ∀ p ∈ out, 1 ≤ p.2 ∧ p.2 ≤ m) : ∀ p ∈ addT out t, 1 ≤ p.2 ∧ p.2 ≤ m + 1 := by
  intro p hp
  unfold addT at hp
  split at hp
  · obtain ⟨q, hq, rfl⟩ := List.mem_map.1 hp
    have := h q hq
    unfold incT
    split
    · show 1 ≤ q.2 + 1 ∧ q.2 + 1 ≤ m + 1; omega
    · omega
  · rcases List.mem_append.1 hp with hp | hp
    · have := h p hp; omega
    · rw [List.mem_singleton.1 hp]; show (1 : Int) ≤ 1 ∧ 1 ≤ m + 1; omega
theorem raw_count (g : List (List Int)) (k : Nat) : ∀ p ∈ rawTo g k, 1 ≤ p.2 ∧ p.2 ≤ (k : Int) := by
  induction k with
  | zero => intro p hp; simp [rawTo] at hp
  | succ k ih => intro p hp; have := addT_count (by omega) ih p hp; omega
theorem idx_count (g : List (List Int)) (k : Nat) : ∀ p ∈ idxTo g k, 1 ≤ p.2 ∧ p.2 ≤ (k : Int) := fun p hp => raw_count g k p ((idx_raw g k).mem_iff.1 hp)
theorem addT_len (out : List Trm) (t : List Int) : (addT out t).length ≤ out.length + 1 := by
  unfold addT; split
  · simp
  · simp
theorem raw_len (g : List (List Int)) (k : Nat) : (rawTo g k).length ≤ k := by
  induction k with
  | zero => exact Nat.le_refl _
  | succ k ih => have := addT_len (rawTo g k) (typeAt g k); unfold rawTo; omega
theorem idx_len (g : List (List Int)) (k : Nat) : (idxTo g k).length ≤ k := by rw [(idx_raw g k).length_eq]; exact raw_len g k
theorem raw_pos (g : List (List Int)) {k : Nat} (hk : 1 ≤ k) : 1 ≤ (rawTo g k).length := by
  obtain ⟨k, rfl⟩ : ∃ j, k = j + 1 := ⟨k - 1, by omega⟩
  unfold rawTo addT
  split
  · rename_i h
    rw [List.length_map]
    have := List.length_pos_of_mem h
    rw [keys_len] at this
    exact this
  · simp
/-- The types of a group have one length. -/
theorem raw_types {g : List (List Int)} (hg : Grp g) {k : Nat} (hk : k ≤ g.length) : ∀ p ∈ rawTo g k, p.1.length = deg g := by
  induction k with
  | zero => intro p hp; simp [rawTo] at hp
  | succ k ih =>
    intro p hp
    unfold rawTo addT at hp
    split at hp
    · obtain ⟨q, hq, rfl⟩ := List.mem_map.1 hp
      rw [incT_key]; exact ih (by omega) q hq
    · rcases List.mem_append.1 hp with hp | hp
      · exact ih (by omega) p hp
      · rw [List.mem_singleton.1 hp]
        have hm := getD_memS (g := g) (k := k) (by omega)
        show (typeAt g k).length = _
        rw [typeAt, cycleType_yes (hg.perm _ hm), typeTo_len, hg.len _ hm]
theorem idx_types {g : List (List Int)} (hg : Grp g) {k : Nat} (hk : k ≤ g.length) : ∀ p ∈ idxTo g k, p.1.length = deg g := fun p hp => raw_types hg hk p ((idx_raw g k).mem_iff.1 hp)
theorem typeAt_len {g : List (List Int)} (hg : Grp g) {k : Nat} (hk : k < g.length) : (typeAt g k).length = deg g := by
  have hm := getD_memS (g := g) (k := k) hk
  rw [typeAt, cycleType_yes (hg.perm _ hm), typeTo_len, hg.len _ hm]
theorem mem_keys {out : List Trm} {t : List Int} : t ∈ keysT out ↔ ∃ k, k < out.length ∧ (out.getD k ([], 0)).1 = t := by
  unfold keysT
  rw [List.mem_map]
  constructor
  · rintro ⟨p, hp, rfl⟩
    obtain ⟨k, hk, rfl⟩ := List.getElem_of_mem hp
    exact ⟨k, hk, by simp [List.getElem?_eq_getElem hk]⟩
  · rintro ⟨k, hk, rfl⟩
    exact ⟨_, by simp [List.getElem?_eq_getElem hk], rfl⟩
/-- One number is raised in place. -/
theorem set_inc {out : List Trm} (hn : (keysT out).Nodup) {z : Nat} (hz : z < out.length) {t : List Int} (ht : (out.getD z ([], 0)).1 = t) : out.set z ((out.getD z ([], 0)).1, (out.getD z ([], 0)).2 + 1) = out.map (incT t) := by
  apply List.ext_getElem
  · simp
  · intro i h1 h2
    have hi : i < out.length := by simpa using h2
    rw [List.getElem_set, List.getElem_map]
    have ez : out.getD z ([], 0) = out[z] := by simp [List.getElem?_eq_getElem hz]
    rw [ez] at ht
    simp only [ez]
    by_cases h : z = i
    · subst h
      rw [if_pos rfl]; unfold incT; rw [if_pos ht]
    · rw [if_neg h]
      unfold incT
      rw [if_neg fun e => ?_]
      unfold keysT at hn
      rw [List.nodup_iff_pairwise_ne, List.pairwise_map, List.pairwise_iff_getElem] at hn
      rcases Nat.lt_or_gt_of_ne h with hlt | hlt
      · exact hn z i hz hi hlt (by rw [ht, e])
      · exact hn i z hi hz hlt (by rw [ht, e])
theorem placeT_le (out : List Trm) (t : List Int) : placeT out t ≤ out.length := by
  unfold placeT; exact (List.takeWhile_sublist _).length_le
theorem placeT_at {out : List Trm} {t : List Int} {k : Nat} (h : ∀ i, i < k → ltL (out.getD i ([], 0)).1 t = true) (hk : k ≤ out.length) (hs : k < out.length → ltL (out.getD k ([], 0)).1 t = false) : placeT out t = k := by
  induction out generalizing k with
  | nil => simp at hk; subst hk; rfl
  | cons x g ih =>
    cases k with
    | zero =>
      have := hs (by simp)
      simp only [List.getD_cons_zero] at this
      unfold placeT; simp [this]
    | succ k =>
      have h0 := h 0 (by omega)
      simp only [List.getD_cons_zero] at h0
      have := ih (k := k) (fun i hi => by have := h (i + 1) (by omega); simpa using this) (by simpa using hk) (fun hlt => by have := hs (by simpa using hlt); simpa using this)
      unfold placeT at *
      simp [h0, this]
theorem AscT.at {l : List Trm} (h : AscT l) {i j : Nat} (hij : i < j) (hj : j < l.length) : ltL (l.getD i ([], 0)).1 (l.getD j ([], 0)).1 = true := by
  unfold AscT at h
  rw [List.pairwise_iff_getElem] at h
  have := h i j (by omega) hj hij
  simpa [List.getElem?_eq_getElem hj, List.getElem?_eq_getElem (show i < l.length by omega)] using this
/-- Behind the search: the type stands there, or nowhere. -/
theorem placeT_key {l : List Trm} (h : AscT l) {t : List Int} {k : Nat} (hb : ∀ i, i < k → ltL (l.getD i ([], 0)).1 t = true) (hs : k < l.length → ltL (l.getD k ([], 0)).1 t = false) : t ∈ keysT l ↔ k < l.length ∧ (l.getD k ([], 0)).1 = t := by
  rw [mem_keys]
  constructor
  · rintro ⟨j, hj, e⟩
    rcases Nat.lt_trichotomy j k with hlt | heq | hgt
    · have := hb j hlt; rw [e, ltL_irrefl] at this; cases this
    · subst heq; exact ⟨hj, e⟩
    · have h1 := h.at hgt hj
      have h2 := hs (by omega)
      rw [e] at h1; rw [h1] at h2; cases h2
  · rintro ⟨hk, e⟩; exact ⟨k, hk, e⟩
end Go.Proofs.Ytfanohebejemmaa
