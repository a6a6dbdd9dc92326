/-
  Go's library on bytes: Clone (both), Equal.
-/
import Derived.Test.YtnadohbgnanpiaaBase
namespace Go.Proofs.Ytnadohbgnanpiaa
open Go.RowKit

set_option maxHeartbeats 400000 in
theorem clone_calls (A : Option Addr) (n c : Nat) (xs : List UInt8) (w : World) (ok : Nat → Prop) (hr : RdB w ok A n xs) (hn : n ≤ 140737488355328) :
    Calls Try.prog 35 #[.slice A n c] w (RetB w xs) := by
  have hq := fun W => Lib.run_eql_slice_nil (P := Try.prog) W 28 5 A n c 0 0 Try.underlying28
  rcases A with _ | ad
  · have h0 : n = 0 := by
      rcases Nat.eq_zero_or_pos n with h0 | h0
      · exact h0
      · obtain ⟨ad, h, _⟩ := hr.2.2 h0
        cases h
    subst h0
    obtain rfl : xs = [] := List.eq_nil_of_length_eq_zero hr.1
    go_enter Try.func35, Try.ntmps35
    go_wp2
    go_ret
    exact ⟨_, rfl, OwnB.nil _ _, Below.refl _ _⟩
  · have ho : OwnB (w.alloc (.cells #[] 5)) w.heap.size (.slice (some ⟨w.heap.size, 0, none⟩) 0 0) [] := OwnB.lit w w.heap.size [] (Nat.le_refl _) (by simp)
    have hb : Below w.heap.size w (w.alloc (.cells #[] 5)) := (Below.refl _ _).alloc (Nat.le_refl _) _
    have hn' : ([] : List UInt8).length + n ≤ 140737488355328 := by simpa using hn
    have hz : w.heap.size ≤ (w.alloc (.cells #[] 5)).heap.size := by simp
    go_enter Try.func35, Try.ntmps35
    go_wp2_with (at_builtin; refine appB w.heap.size w.heap.size rfl _ _ rfl (.slice (some ⟨w.heap.size, 0, none⟩) 0 0) [] xs (some ad) n c rfl rfl ho (hr.alloc _) hb hz (Nat.le_refl _) hn' ?_; intro v1 w1 ho1 hb1 _ _)
    go_ret
    exact ⟨_, rfl, by simpa using ho1, hb1⟩

set_option maxHeartbeats 400000 in
theorem bclone_calls (A : Option Addr) (n c : Nat) (xs : List UInt8) (w : World) (ok : Nat → Prop) (hr : RdB w ok A n xs) (hn : n ≤ 140737488355328) :
    Calls Try.prog 32 #[.slice A n c] w (RetB w xs) := by
  have hq := fun W => Lib.run_eql_slice_nil (P := Try.prog) W 28 5 A n c 0 0 Try.underlying28
  rcases A with _ | ad
  · have h0 : n = 0 := by
      rcases Nat.eq_zero_or_pos n with h0 | h0
      · exact h0
      · obtain ⟨ad, h, _⟩ := hr.2.2 h0
        cases h
    subst h0
    obtain rfl : xs = [] := List.eq_nil_of_length_eq_zero hr.1
    go_enter Try.func32, Try.ntmps32
    go_wp2
    go_ret
    exact ⟨_, rfl, OwnB.nil _ _, Below.refl _ _⟩
  · have ho : OwnB (w.alloc (.cells #[] 5)) w.heap.size (.slice (some ⟨w.heap.size, 0, none⟩) 0 0) [] := OwnB.lit w w.heap.size [] (Nat.le_refl _) (by simp)
    have hb : Below w.heap.size w (w.alloc (.cells #[] 5)) := (Below.refl _ _).alloc (Nat.le_refl _) _
    have hn' : ([] : List UInt8).length + n ≤ 140737488355328 := by simpa using hn
    have hz : w.heap.size ≤ (w.alloc (.cells #[] 5)).heap.size := by simp
    go_enter Try.func32, Try.ntmps32
    go_wp2_with (at_builtin; refine appB w.heap.size w.heap.size rfl _ _ rfl (.slice (some ⟨w.heap.size, 0, none⟩) 0 0) [] xs (some ad) n c rfl rfl ho (hr.alloc _) hb hz (Nat.le_refl _) hn' ?_; intro v1 w1 ho1 hb1 _ _)
    go_ret
    exact ⟨_, rfl, by simpa using ho1, hb1⟩


theorem equal_calls (A A' : Option Addr) (n c n' c' : Nat) (xs ys : List UInt8) (w : World) (ok ok' : Nat → Prop) (hr : RdB w ok A n xs) (hr' : RdB w ok' A' n' ys) :
    Calls Try.prog 19 #[.slice A n c, .slice A' n' c'] w fun e w' => e = .returned (.bool (decide (xs = ys))) ∧ w = w' := by
  have h1 := conv_string hr c
  have h2 := conv_string hr' c'
  have h3 := strOf_beq xs ys
  clear hr hr'
  go_enter Try.func19, Try.ntmps19
  go_wp2
  go_ret
  exact ⟨rfl, rfl⟩
end Go.Proofs.Ytnadohbgnanpiaa
