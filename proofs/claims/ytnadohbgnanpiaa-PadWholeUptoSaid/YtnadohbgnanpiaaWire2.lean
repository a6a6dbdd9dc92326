/-
  The walk of the document's Own.
-/
import Derived.Test.YtnadohbgnanpiaaWire1
namespace Go.Proofs.Ytnadohbgnanpiaa
open Go.RowKit

theorem own_calls (A : Option Addr) (n c : Nat) (xs : List UInt8) (w : World) (ok : Nat → Prop) (hr : RdB w ok A n xs) (hn : n ≤ 140737488355328) :
    Calls Try.prog 34 #[.slice A n c] w (RetB w xs) := by
  have hn' : ([] : List UInt8).length + n ≤ 140737488355328 := by simpa using hn
  go_enter Try.func34, Try.ntmps34
  go_wp2_with (at_builtin; refine appB w.heap.size w.heap.size rfl _ _ rfl (.slice none 0 0) [] xs A n c rfl rfl (OwnB.nil _ _) hr (Below.refl _ _) (Nat.le_refl _) (Nat.le_refl _) hn' ?_; intro v1 w1 ho1 hb1 _ _)
  go_ret
  exact ⟨_, rfl, by simpa using ho1, hb1⟩

end Go.Proofs.Ytnadohbgnanpiaa
