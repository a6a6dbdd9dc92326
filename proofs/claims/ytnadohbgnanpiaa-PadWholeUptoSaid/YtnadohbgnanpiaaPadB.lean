/-
  Sizes; a slice's beginning.
-/
import Derived.Test.YtnadohbgnanpiaaPadA
namespace Go.Proofs.Ytnadohbgnanpiaa
open Go.RowKit

def sz1 (g : Int) : Int := if 40 < g ∧ g ≤ 255 then 1 + g % 40 else g
def sz2 (s : Int) : Int := if 40 < s ∧ s ≤ 65535 then 1 + s % 40 else s
theorem sizes_calls (g s : Int) (w : World) (_hg : -9223372036854775808 ≤ g ∧ g ≤ 9223372036854775807) (_hs : -9223372036854775808 ≤ s ∧ s ≤ 9223372036854775807) :
    Calls Try.prog 14 #[.int .i64 g, .int .i64 s] w fun e w' => e = .returned (.tuple #[.int .i64 (sz1 g), .int .i64 (sz2 s)]) ∧ w = w' := by
  have hgm : 40 < g → (IntKind.i64.wrap (1 + g % 40) = 1 + g % 40 ∧ IntKind.i64.wrap (g % 40) = g % 40) := fun h =>
    ⟨IntWalk.i64_in _ ⟨by omega, by omega⟩, IntWalk.i64_in _ ⟨by omega, by omega⟩⟩
  have hsm : 40 < s → (IntKind.i64.wrap (1 + s % 40) = 1 + s % 40 ∧ IntKind.i64.wrap (s % 40) = s % 40) := fun h =>
    ⟨IntWalk.i64_in _ ⟨by omega, by omega⟩, IntWalk.i64_in _ ⟨by omega, by omega⟩⟩
  by_cases h1 : 40 < g
  · obtain ⟨q1, q2⟩ := hgm h1
    by_cases h2 : g ≤ 255
    · have e1 : sz1 g = 1 + g % 40 := if_pos ⟨h1, h2⟩
      rw [e1]
      by_cases h3 : 40 < s
      · obtain ⟨q3, q4⟩ := hsm h3
        by_cases h4 : s ≤ 65535
        · have e2 : sz2 s = 1 + s % 40 := if_pos ⟨h3, h4⟩
          rw [e2]
          clear hgm hsm
          go_enter Try.func14, Try.ntmps14
          go_wp2
          go_ret2
          exact ⟨by first | rfl | simp [q1, q2, q3, q4], rfl⟩
        · have e2 : sz2 s = s := if_neg (fun h => h4 h.2)
          rw [e2]
          clear hgm hsm
          go_enter Try.func14, Try.ntmps14
          go_wp2
          go_ret2
          exact ⟨by first | rfl | simp [q1, q2], rfl⟩
      · have e2 : sz2 s = s := if_neg (fun h => h3 h.1)
        rw [e2]
        clear hgm hsm
        go_enter Try.func14, Try.ntmps14
        go_wp2
        go_ret2
        exact ⟨by first | rfl | simp [q1, q2], rfl⟩
    · have e1 : sz1 g = g := if_neg (fun h => h2 h.2)
      rw [e1]
      by_cases h3 : 40 < s
      · obtain ⟨q3, q4⟩ := hsm h3
        by_cases h4 : s ≤ 65535
        · have e2 : sz2 s = 1 + s % 40 := if_pos ⟨h3, h4⟩
          rw [e2]
          clear hgm hsm
          go_enter Try.func14, Try.ntmps14
          go_wp2
          go_ret2
          exact ⟨by first | rfl | simp [q3, q4], rfl⟩
        · have e2 : sz2 s = s := if_neg (fun h => h4 h.2)
          rw [e2]
          clear hgm hsm
          go_enter Try.func14, Try.ntmps14
          go_wp2
          go_ret2
          exact ⟨rfl, rfl⟩
      · have e2 : sz2 s = s := if_neg (fun h => h3 h.1)
        rw [e2]
        clear hgm hsm
        go_enter Try.func14, Try.ntmps14
        go_wp2
        go_ret2
        exact ⟨rfl, rfl⟩
  · have e1 : sz1 g = g := if_neg (fun h => h1 h.1)
    rw [e1]
    by_cases h3 : 40 < s
    · obtain ⟨q3, q4⟩ := hsm h3
      by_cases h4 : s ≤ 65535
      · have e2 : sz2 s = 1 + s % 40 := if_pos ⟨h3, h4⟩
        rw [e2]
        clear hgm hsm
        go_enter Try.func14, Try.ntmps14
        go_wp2
        go_ret2
        exact ⟨by first | rfl | simp [q3, q4], rfl⟩
      · have e2 : sz2 s = s := if_neg (fun h => h4 h.2)
        rw [e2]
        clear hgm hsm
        go_enter Try.func14, Try.ntmps14
        go_wp2
        go_ret2
        exact ⟨rfl, rfl⟩
    · have e2 : sz2 s = s := if_neg (fun h => h3 h.1)
      rw [e2]
      clear hgm hsm
      go_enter Try.func14, Try.ntmps14
      go_wp2
      go_ret2
      exact ⟨rfl, rfl⟩
/-- s[:hi] of a slice of rows. -/
theorem cutToBB_run (A : Option Addr) (n c hi : Nat) (h2 : hi ≤ n) (h3 : n ≤ c) :
    ∃ A' : Option Addr, (∀ W : World, (Instr.slice 25 (.slice A n c) none (some (.int .i64 (hi : Int))) none).run Try.prog W = .ok (.slice A' hi c) W) ∧
      ∀ (w : World) (ok : Nat → Prop) (ls : List (List UInt8)), RdBB w ok A n ls → RdBB w ok A' hi (ls.take hi) := by
  refine ⟨if c = 0 then A else A.map fun a => a.add (0 * 1), fun W => ?_, fun w ok ls h => ?_⟩
  · rw [run_slice_h W _ A n c (by kernel_rfl) .i64 hi (by omega) (by omega)]
    have hsz : (sizeOf (Try.prog.elem 25)).run Try.prog W = .ok 1 W := by rfl
    rw [hsz]
    rfl
  · have h4 := h.take hi h2
    split
    · exact h4
    · rw [Nat.zero_mul]
      cases A with
      | none => exact h4
      | some ad =>
        rw [Option.map_some, addZero]
        exact h4
end Go.Proofs.Ytnadohbgnanpiaa
