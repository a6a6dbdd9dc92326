/-
  The walks of Room (both packages').
-/
import Derived.Test.YtnadohbgnanpiaaPad1
import Derived.Test.YtnadohbgnanpiaaPadPure
import Derived.Test.YtnadohbgnanpiaaWire3
namespace Go.Proofs.Ytnadohbgnanpiaa
open Go.RowKit

/-- What g and s must be. -/
def okGS (g s : Int) : Prop := 1 ≤ g ∧ g ≤ 255 ∧ 1 ≤ s ∧ s ≤ 65535 ∧ 4 < g * s
theorem mul_le (g s : Int) (h0 : 0 ≤ g) (h1 : g ≤ 255) (h2 : 0 ≤ s) (h3 : s ≤ 65535) : 0 ≤ g * s ∧ g * s ≤ 16711425 := by
  refine ⟨Int.mul_nonneg h0 h2, ?_⟩
  have := Int.mul_le_mul h1 h3 h2 (by omega : (0 : Int) ≤ 255)
  omega
theorem okGS_nat {g s : Int} (h : okGS g s) : ∃ a b P : Nat, g = (a : Int) ∧ s = (b : Int) ∧ a * b = P ∧ ((a : Int) * (b : Int)) = (P : Int) ∧ 1 ≤ a ∧ a ≤ 255 ∧ 1 ≤ b ∧ b ≤ 65535 ∧ 4 < P ∧ P ≤ 16711425 := by
  obtain ⟨h1, h2, h3, h4, h5⟩ := h
  have hm := mul_le g s (by omega) h2 (by omega) h4
  obtain ⟨a, rfl⟩ : ∃ a : Nat, g = (a : Int) := ⟨g.toNat, by omega⟩
  obtain ⟨b, rfl⟩ : ∃ b : Nat, s = (b : Int) := ⟨s.toNat, by omega⟩
  have e : ((a : Int) * (b : Int)) = ((a * b : Nat) : Int) := by rw [Int.natCast_mul]
  rw [e] at h5 hm
  exact ⟨a, b, a * b, rfl, rfl, rfl, e, by omega, by omega, by omega, by omega, by omega, by omega⟩
set_option maxHeartbeats 800000 in
theorem room_bad (g s : Int) (w : World) (h : ¬ okGS g s) :
    Calls Try.prog 9 #[.int .i64 g, .int .i64 s] w fun e w' => e = .returned (.tuple #[.int .i64 0, .int .i64 1]) ∧ w = w' := by
  have H := Lib.hid h
  clear h
  by_cases h1 : g < 1
  · go_enter Try.func9, Try.ntmps9
    go_wp2
    go_ret2
    exact ⟨rfl, rfl⟩
  by_cases h2 : 255 < g
  · go_enter Try.func9, Try.ntmps9
    go_wp2
    go_ret2
    exact ⟨rfl, rfl⟩
  by_cases h3 : s < 1
  · go_enter Try.func9, Try.ntmps9
    go_wp2
    go_ret2
    exact ⟨rfl, rfl⟩
  by_cases h4 : 65535 < s
  · go_enter Try.func9, Try.ntmps9
    go_wp2
    go_ret2
    exact ⟨rfl, rfl⟩
  obtain ⟨p, hp⟩ : ∃ p, g * s = p := ⟨_, rfl⟩
  have h5 : p ≤ 4 := by
    rcases Int.lt_or_le 4 p with h5 | h5
    · exact absurd ⟨by omega, by omega, by omega, by omega, by rw [hp]; exact h5⟩ H.out
    · exact h5
  have h6 := mul_le g s (by omega) (by omega) (by omega) (by omega)
  rw [hp] at h6
  have hw : IntKind.i64.wrap (g * s) = p := by rw [hp]; exact IntWalk.i64_in _ ⟨by omega, by omega⟩
  have hw2 : IntKind.i64.wrap p = p := IntWalk.i64_in _ ⟨by omega, by omega⟩
  go_enter Try.func9, Try.ntmps9
  go_wp2
  go_ret2
  exact ⟨rfl, rfl⟩
theorem room_calls (a b P : Nat) (w : World) (hP : ((a : Int) * (b : Int)) = (P : Int)) (h1 : 1 ≤ a) (h2 : a ≤ 255) (h3 : 1 ≤ b) (h4 : b ≤ 65535) (h5 : 4 < P) (h6 : P ≤ 16711425) :
    Calls Try.prog 9 #[.int .i64 (a : Int), .int .i64 (b : Int)] w fun e w' => e = .returned (.tuple #[.int .i64 ((P - 4 : Nat) : Int), .int .i64 0]) ∧ w = w' := by
  have c1 : ¬ (a : Int) < 1 := by omega
  have c2 : ¬ 255 < (a : Int) := by omega
  have c3 : ¬ (b : Int) < 1 := by omega
  have c4 : ¬ 65535 < (b : Int) := by omega
  have c5 : ¬ (P : Int) ≤ 4 := by omega
  have hw : IntKind.i64.wrap ((a : Int) * (b : Int)) = (P : Int) := by rw [hP]; exact IntWalk.i64_in _ ⟨by omega, by omega⟩
  have hw2 : IntKind.i64.wrap (P : Int) = (P : Int) := IntWalk.i64_in _ ⟨by omega, by omega⟩
  have hs : ((P : Int) - 4) = ((P - 4 : Nat) : Int) := by omega
  have hw3 : IntKind.i64.wrap ((P : Int) - 4) = ((P - 4 : Nat) : Int) := by rw [hs]; exact IntWalk.i64_in _ ⟨by omega, by omega⟩
  have hw4 : IntKind.i64.wrap ((P - 4 : Nat) : Int) = ((P - 4 : Nat) : Int) := IntWalk.i64_in _ ⟨by omega, by omega⟩
  go_enter Try.func9, Try.ntmps9
  go_wp2
  go_ret2
  exact ⟨by first | rfl | simp, rfl⟩
end Go.Proofs.Ytnadohbgnanpiaa
