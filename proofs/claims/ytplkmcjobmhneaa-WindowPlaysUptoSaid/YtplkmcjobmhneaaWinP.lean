/-
  Move and Slot at any argument, the same words for both packages.
-/
import Derived.Test.YtplkmcjobmhneaaWinW
namespace Go.Proofs.Ytplkmcjobmhneaa
open Go.RowKit

def toOf (b nb : Nat) : Nat := if nb ≤ 1099511627776 then nb else b
def erOf (nb : Nat) : Nat := if nb ≤ 1099511627776 then 0 else 1
def goOf (b nb n : Nat) : List Nat := if nb ≤ 1099511627776 then gone b nb n else []
theorem goOf_le (b nb n : Nat) (hn : n ≤ 16) (hb : b ≤ 1099511627776) : (goOf b nb n).length ≤ 16 := by
  unfold goOf
  split
  · have h := goneOf_length b nb n (els b n)
    rw [els_length] at h
    have : wend b n - b ≤ n := by unfold wend; omega
    unfold gone
    omega
  · simp
/-- What a call of Move leaves. -/
def MovedTo (w : World) (g n er b2 : Nat) (xs : List Nat) (e : Ending) (w' : World) : Prop :=
  ∃ v, e = .returned (.tuple #[v, .int .i64 (er : Int)]) ∧ OwnU w' w.heap.size v xs ∧ Win w' g b2 n ∧ w.grownBy w' (some g)
theorem move_to (g b n nb : Nat) (w : World) (h : Win w g b n) :
    Calls Try.prog 9 #[.pointer (some ⟨g, 0, none⟩), .int .u64 (nb : Int)] w (MovedTo w g n (erOf nb) (toOf b nb) (goOf b nb n)) := by
  by_cases hb : nb ≤ 1099511627776
  · have e1 : erOf nb = 0 := if_pos hb
    have e2 : toOf b nb = nb := if_pos hb
    have e3 : goOf b nb n = gone b nb n := if_pos hb
    rw [e1, e2, e3]
    exact move_calls g b n nb w h hb
  · have e1 : erOf nb = 1 := if_neg hb
    have e2 : toOf b nb = b := if_neg hb
    have e3 : goOf b nb n = [] := if_neg hb
    rw [e1, e2, e3]
    refine (move_bad g b n nb w h (by omega)).mono ?_
    rintro e w' ⟨rfl, rfl⟩
    exact ⟨_, rfl, OwnU.nil _ _, h, World.grownBy.refl _ _⟩
theorem rmove_to (g b n nb : Nat) (w : World) (h : Win w g b n) :
    Calls Try.prog 10 #[.pointer (some ⟨g, 0, none⟩), .int .u64 (nb : Int)] w (MovedTo w g n (erOf nb) (toOf b nb) (goOf b nb n)) := by
  by_cases hb : nb ≤ 1099511627776
  · have e1 : erOf nb = 0 := if_pos hb
    have e2 : toOf b nb = nb := if_pos hb
    have e3 : goOf b nb n = gone b nb n := if_pos hb
    rw [e1, e2, e3]
    exact rmove_calls g b n nb w h hb
  · have e1 : erOf nb = 1 := if_neg hb
    have e2 : toOf b nb = b := if_neg hb
    have e3 : goOf b nb n = [] := if_neg hb
    rw [e1, e2, e3]
    refine (rmove_bad g b n nb w h (by omega)).mono ?_
    rintro e w' ⟨rfl, rfl⟩
    exact ⟨_, rfl, OwnU.nil _ _, h, World.grownBy.refl _ _⟩
def slOf (b n x : Nat) : Nat := if inw b n x = true then x % n else 0
def seOf (b n x : Nat) : Nat := if inw b n x = true then 0 else 1
theorem slot_any (g b n x : Nat) (w : World) (h : Win w g b n) :
    Calls Try.prog 11 #[.pointer (some ⟨g, 0, none⟩), .int .u64 (x : Int)] w fun e w' => e = .returned (.tuple #[.int .i64 (slOf b n x : Int), .int .i64 (seOf b n x : Int)]) ∧ Below w.heap.size w w' := by
  by_cases hx : inw b n x = true
  · have e1 : slOf b n x = x % n := if_pos hx
    have e2 : seOf b n x = 0 := if_pos hx
    rw [e1, e2]
    exact weakD (slot_in g b n x w h (of_decide_eq_true hx))
  · have e1 : slOf b n x = 0 := if_neg hx
    have e2 : seOf b n x = 1 := if_neg hx
    rw [e1, e2]
    exact weakD (slot_out g b n x w h (fun hh => hx (decide_eq_true hh)))
theorem rslot_any (g b n x : Nat) (w : World) (h : Win w g b n) :
    Calls Try.prog 12 #[.pointer (some ⟨g, 0, none⟩), .int .u64 (x : Int)] w fun e w' => e = .returned (.tuple #[.int .i64 (slOf b n x : Int), .int .i64 (seOf b n x : Int)]) ∧ Below w.heap.size w w' := by
  by_cases hx : inw b n x = true
  · have e1 : slOf b n x = x % n := if_pos hx
    have e2 : seOf b n x = 0 := if_pos hx
    rw [e1, e2]
    exact rslot_in g b n x w h hx
  · have e1 : slOf b n x = 0 := if_neg hx
    have e2 : seOf b n x = 1 := if_neg hx
    rw [e1, e2]
    exact rslot_out g b n x w h (by simpa using hx)
theorem in_any (g b n x : Nat) (w : World) (h : Win w g b n) :
    Calls Try.prog 13 #[.pointer (some ⟨g, 0, none⟩), .int .u64 (x : Int)] w fun e w' => e = .returned (.bool (inw b n x)) ∧ Below w.heap.size w w' := weakD (in_calls g b n x w h)
end Go.Proofs.Ytplkmcjobmhneaa
