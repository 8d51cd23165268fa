/-
  slices.Clone of a slice of integers that is not empty.
-/
import Derived.Test.YtogenfooeplkmaaMem
namespace Go.Proofs.Ytogenfooeplkmaa
open Go.RowKit Go.Deep

theorem OI.lit (w : World) : OI (w.alloc (.cells #[] 3)) w.heap.size (.slice (some ⟨w.heap.size, 0, none⟩) 0 0) [] := World.ownsRow_lit w #[] 0 (Nat.le_refl _) (by simp) rfl

theorem clone_any {w : World} {a : Value} {xs : List Int} (ha : RI w a xs) (h0 : 0 < xs.length) (hlen : xs.length ≤ 1099511627776) :
    Calls Try.prog 77 #[a] w fun e w' => ∃ v, e = .returned v ∧ OI w' w.heap.size v xs ∧ Below w.heap.size w w' := by
  have HA := Lib.hid ha
  obtain ⟨A, c, rfl, -, hx⟩ := ha
  obtain ⟨b, off, rfl, hb, hc⟩ := hx h0
  have HC := Lib.hid hc
  obtain ⟨n, hn⟩ : ∃ n, n = xs.length := ⟨_, rfl⟩
  rw [← hn]
  have HN := Lib.hid hn
  have hq : ∀ (w : World) (a : Option Addr) (n c n' c' : Nat), (binOp .eql 33 (.slice a n c) (.slice none n' c')).run Try.prog w = .ok (.bool a.isNone) w := fun w a n c n' c' => Lib.run_eql_slice_nil w _ _ a n c n' c' Try.underlying33
  have h1 := OI.lit w
  have b1 : Below w.heap.size w (w.alloc (.cells #[] 3)) := (Below.refl _ _).alloc (Nat.le_refl _) _
  have H := Lib.hid (And.intro h1 b1)
  have HC2 : Hid (∀ k, k < n → (w.alloc (.cells #[] 3)).cell? ⟨b, off + k, none⟩ = some (.int .i64 (xs.getD k 0))) := fun k hk => (b1.cell (p := ⟨b, off + k, none⟩) hb).trans (HC.out k (by rw [← HN.out]; exact hk))
  clear hc hn hx h1 b1
  go_enter Try.func77, Try.ntmps77
  go_wp2_with (at_builtin; refine wpList_appInts _ rfl (.tmp 5) (.tmp 6) rfl w.heap.size _ [] xs rfl rfl HN.out HC2.out H.out.1 (by simpa using hlen) H.out.2.size ?_; intro v w1 ho hb1 _)
  have HF := Lib.hid (And.intro ho (H.out.2.trans hb1))
  clear ho hb1
  go_wp2
  go_ret
  exact ⟨_, rfl, HF.out.1, HF.out.2⟩
end Go.Proofs.Ytogenfooeplkmaa
