/-
  Words for memory: a slice of strings that is read, and one that the call owns.
-/
import Derived.Test.YtkibbomfpklghaaMem
namespace Go.Proofs.Ytkibbomfpklghaa
open Go.RowKit Go.Deep

abbrev strs (xs : List ByteArray) : List Value := xs.map Value.string
/-- A value that reads as the list xs of strings. -/
def RSS (w : World) (v : Value) (xs : List ByteArray) : Prop :=
  ∃ A c, v = .slice A xs.length c ∧ xs.length ≤ maxLen ∧ (0 < xs.length → xs.length ≤ c ∧ ∃ b off, A = some ⟨b, off, none⟩ ∧ b < w.heap.size ∧ ∀ k, k < xs.length → w.cell? ⟨b, off + k, none⟩ = some (.string (xs.getD k ByteArray.empty)))
theorem RSS.nil (w : World) (A : Option Addr) (c : Nat) : RSS w (.slice A 0 c) [] := ⟨A, c, rfl, by simp, fun h => absurd h (by simp)⟩
theorem RSS.below {w w' : World} {v : Value} {xs : List ByteArray} (h : RSS w v xs) (hb : Below w.heap.size w w') : RSS w' v xs := by
  obtain ⟨A, c, hv, hl, hx⟩ := h
  refine ⟨A, c, hv, hl, fun h0 => ?_⟩
  obtain ⟨hc, b, off, hA, hlt, hx⟩ := hx h0
  exact ⟨hc, b, off, hA, Nat.lt_of_lt_of_le hlt hb.size, fun k hk => (hb.cell (p := ⟨b, off + k, none⟩) hlt).trans (hx k hk)⟩
theorem RSS.shape {w : World} {v : Value} {xs : List ByteArray} (h : RSS w v xs) : ∃ A c, v = .slice A xs.length c := by obtain ⟨A, c, h, _⟩ := h; exact ⟨A, c, h⟩
theorem RSS.lenle {w : World} {v : Value} {xs : List ByteArray} (h : RSS w v xs) : xs.length ≤ 9223372036854775807 := by
  obtain ⟨_, _, _, h, _⟩ := h
  unfold maxLen at h; omega
/-- A row of strings that the call owns, in a block from lo on. -/
abbrev OSS (w : World) (lo : Nat) (v : Value) (xs : List ByteArray) : Prop := w.ownsRow lo 9 1 v xs.length (strs xs)
theorem OSS.nil (w : World) (lo : Nat) : OSS w lo (.slice none 0 0) [] := World.ownsRow_nil _ _ _ _
theorem OSS.lit (w : World) : OSS (w.alloc (.cells #[] 9)) w.heap.size (.slice (some ⟨w.heap.size, 0, none⟩) 0 0) [] := World.ownsRow_lit w #[] 0 (Nat.le_refl _) (by simp) rfl
theorem OSS.lt {w : World} {lo : Nat} {v : Value} {xs : List ByteArray} (h : OSS w lo v xs) : ∀ k, v.ownBlock = some k → lo ≤ k ∧ k < w.heap.size := World.ownsRow.lt h
theorem OSS.form {w : World} {lo : Nat} {v : Value} {xs : List ByteArray} (h : OSS w lo v xs) : ∃ A c, v = .slice A xs.length c ∧ (0 < xs.length → ∃ g, A = some ⟨g, 0, none⟩ ∧ lo ≤ g ∧ g < w.heap.size) := by
  rcases id h.2 with ⟨hv, h0⟩ | ⟨g, cap, cur, rfl, hg, hh, _⟩
  · exact ⟨none, 0, by rw [hv, h0], fun h => absurd h (by omega)⟩
  · exact ⟨_, _, rfl, fun _ => ⟨g, rfl, hg, (h.lt g rfl).2⟩⟩
theorem OSS.cell {w : World} {lo g n c : Nat} {xs : List ByteArray} (h : OSS w lo (.slice (some ⟨g, 0, none⟩) n c) xs) (hn : xs.length = n) (k : Nat) (hk : k < n) : w.cell? ⟨g, k, none⟩ = some (.string (xs.getD k ByteArray.empty)) := by
  subst hn
  rw [World.ownsRow.cellAt h k (by omega)]
  simp [strs, List.getElem?_map, List.getElem?_eq_getElem hk]
theorem OSS.reads {w : World} {lo : Nat} {v : Value} {xs : List ByteArray} (h : OSS w lo v xs) : RSS w v xs := by
  obtain ⟨A, c, rfl, h2⟩ := OSS.form h
  have hm : xs.length ≤ maxLen := by
    rcases h.2 with ⟨_, h0⟩ | ⟨g, cap, cur, hv, hg, hh, hn, hm, _⟩ <;> omega
  refine ⟨A, c, rfl, hm, fun h0 => ?_⟩
  obtain ⟨g, rfl, _, hg⟩ := h2 h0
  have hc : xs.length ≤ c := by
    rcases h.2 with ⟨hv, _⟩ | ⟨g, cap, cur, hv, _, _, hn, _⟩
    · cases hv
    · cases hv; exact hn
  exact ⟨hc, g, 0, rfl, hg, fun k hk => by rw [Nat.zero_add]; exact OSS.cell h rfl k hk⟩
theorem OSS.below {w w' : World} {lo B : Nat} {v : Value} {xs : List ByteArray} (h : OSS w lo v xs) (hb : Below B w w') (hB : w.heap.size ≤ B) : OSS w' lo v xs := by
  have hl := h.lt
  obtain ⟨h1, h2⟩ := h
  refine ⟨h1, ?_⟩
  rcases h2 with h2 | ⟨g, cap, cur, hv, hg, hh, r⟩
  · exact .inl h2
  · have := (hl g (by rw [hv]; rfl)).2
    exact .inr ⟨g, cap, cur, hv, hg, (hb.block g (by omega)).trans hh, r⟩
theorem OSS.step {w w' : World} {lo : Nat} {v : Value} {xs : List ByteArray} (h : OSS w lo v xs) (b : Below w.heap.size w w') : OSS w' lo v xs := h.below b (Nat.le_refl _)
theorem OSS.mono {w : World} {lo lo' : Nat} {v : Value} {xs : List ByteArray} (h : OSS w lo v xs) (hl : lo' ≤ lo) : OSS w lo' v xs := by
  obtain ⟨h1, h2⟩ := h
  refine ⟨h1, ?_⟩
  rcases h2 with h2 | ⟨g, cap, cur, hv, hg, hh, r⟩
  · exact .inl h2
  · exact .inr ⟨g, cap, cur, hv, by omega, hh, r⟩
theorem string_info : (Try.prog.info? 9).map (fun i => (i.zero, i.size, i.bytes)) = some (some (.string ⟨#[]⟩), 1, 16) := by kernel_rfl
/-- 'out = append(out, x)' at strings. -/
theorem wpList_appStr {ops : Array Oper} {rest : List Oper} {o : Oper} {a : Act} {Q : Exit → Act → World → Prop} (w : World) (hgd : o.guard = none) (s x : Operand)
    (ho : o.op = .call { callee := .builtin .append, args := #[s, x], argTypes := #[25, 25] })
    (lo : Nat) (v : Value) (xs : List ByteArray) (y : ByteArray) (hs : a.eval s = v) {H : Nat} (hx : a.eval x = .slice (some ⟨H, 0, none⟩) 1 1) (hH : w.heap.size = H)
    (hown : OSS w lo v xs) (hlen : xs.length ≤ 1099511627776) (hlo : lo ≤ w.heap.size)
    (h : ∀ v' w', OSS w' lo v' (xs ++ [y]) → Below lo w w' → w.grownBy w' v.ownBlock → wpList Try.prog ops Q rest (a.put o.dst v') w') : wpList Try.prog ops Q (o :: rest) a (w.alloc (.cells #[.string y] 9)) := by
  refine wpList_app1 w hgd s x 25 9 (.string ⟨#[]⟩) 16 ho Try.underlying25 string_info rfl lo v xs.length (strs xs) (.string y) hs hx hH rfl hown (by omega) (by omega) hlo ?_
  intro v' w' h1 h2 h3
  refine h v' w' ?_ h2 h3
  unfold OSS
  rw [List.length_append]
  simpa only [strs, List.map_append, List.map_cons, List.map_nil, List.length_cons, List.length_nil] using h1
end Go.Proofs.Ytkibbomfpklghaa
