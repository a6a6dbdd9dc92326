/-
  New (both packages'), Copy.
-/
import Derived.Test.YtplkmcjobmhneaaWin3
namespace Go.Proofs.Ytplkmcjobmhneaa
open Go.RowKit

theorem Win.made (w : World) (b n : Nat) (t : TypeId) (hb : b ≤ 1099511627776) (h1 : 1 ≤ n) (h2 : n ≤ 16) :
    Win (w.alloc (.cells #[.int .u64 (b : Int), .int .i64 (n : Int)] t)) w.heap.size b n :=
  ⟨hb, h1, h2, by simp, World.cell?_alloc_new _ _ _ 0, World.cell?_alloc_new _ _ _ 1, fun j => World.frozen?_alloc_at _ _ _ _ rfl⟩
theorem new_bad (x : Int) (w : World) (h : x < 1 ∨ 16 < x) :
    Calls Try.prog 5 #[.int .i64 x] w fun e w' => e = .returned (.tuple #[.pointer none, .int .i64 1]) ∧ w = w' := by
  rcases h with h | h
  · go_enter Try.func5, Try.ntmps5
    go_wp2
    go_ret2
    exact ⟨rfl, rfl⟩
  · have h0 : ¬ x < 1 := by omega
    go_enter Try.func5, Try.ntmps5
    go_wp2
    go_ret2
    exact ⟨rfl, rfl⟩
theorem rnew_bad (x : Int) (w : World) (h : x < 1 ∨ 16 < x) :
    Calls Try.prog 6 #[.int .i64 x] w fun e w' => e = .returned (.tuple #[.pointer none, .int .i64 1]) ∧ w = w' := by
  rcases h with h | h
  · go_enter Try.func6, Try.ntmps6
    go_wp2
    go_ret2
    exact ⟨rfl, rfl⟩
  · have h0 : ¬ x < 1 := by omega
    go_enter Try.func6, Try.ntmps6
    go_wp2
    go_ret2
    exact ⟨rfl, rfl⟩
/-- A new window. -/
def Newed (w : World) (b n : Nat) (e : Ending) (w' : World) : Prop := ∃ g, e = .returned (.tuple #[.pointer (some ⟨g, 0, none⟩), .int .i64 0]) ∧ w.heap.size ≤ g ∧ Win w' g b n ∧ Below w.heap.size w w'
theorem new_calls (n : Nat) (w : World) (h1 : 1 ≤ n) (h2 : n ≤ 16) : Calls Try.prog 5 #[.int .i64 (n : Int)] w (Newed w 0 n) := by
  have h3 : ¬ (n : Int) < 1 := by omega
  have h4 : ¬ (16 : Int) < (n : Int) := by omega
  have hm := Win.made w 0 n 53 (by omega) h1 h2
  go_enter Try.func5, Try.ntmps5
  go_wp2
  go_ret2
  exact ⟨_, rfl, Nat.le_refl _, hm, (Below.refl _ _).alloc (Nat.le_refl _) _⟩
theorem rnew_calls (n : Nat) (w : World) (h1 : 1 ≤ n) (h2 : n ≤ 16) : Calls Try.prog 6 #[.int .i64 (n : Int)] w (Newed w 0 n) := by
  have h3 : ¬ (n : Int) < 1 := by omega
  have h4 : ¬ (16 : Int) < (n : Int) := by omega
  have hm := Win.made w 0 n 46 (by omega) h1 h2
  go_enter Try.func6, Try.ntmps6
  go_wp2
  go_ret2
  exact ⟨_, rfl, Nat.le_refl _, hm, (Below.refl _ _).alloc (Nat.le_refl _) _⟩
theorem copy_calls (g b n : Nat) (w : World) (h : Win w g b n) :
    Calls Try.prog 8 #[.pointer (some ⟨g, 0, none⟩)] w fun e w' => ∃ g', e = .returned (.pointer (some ⟨g', 0, none⟩)) ∧ w.heap.size ≤ g' ∧ Win w' g' b n ∧ Below w.heap.size w w' := by
  have hn0 : ((n : Int) == 0) = false := by rw [beq_eq_false_iff_ne]; have := h.2.1; omega
  have c0 := h.2.2.2.2.1
  have c1 := h.2.2.2.2.2.1
  go_enter Try.func8, Try.ntmps8
  go_wp2_with fail
  refine (width_calls g b n w h).mono ?_
  rintro e w1 ⟨rfl, rfl⟩
  go_wp2_with fail
  go_ret
  exact ⟨_, rfl, Nat.le_refl _, Win.made w b n _ h.1 h.2.1 h.2.2.1, (Below.refl _ _).alloc (Nat.le_refl _) _⟩
end Go.Proofs.Ytplkmcjobmhneaa
