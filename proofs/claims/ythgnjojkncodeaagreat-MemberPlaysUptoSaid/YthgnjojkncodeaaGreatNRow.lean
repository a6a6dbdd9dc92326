/-
  Words for the rows: what an argument that came in is to the walks; the bound.
-/
import Derived.Test.YthgnjojkncodeaaGreatRows
import Derived.Test.YthgnjojkncodeaaGreatNBase
import Derived.ProofKit
import Derived.OpenShut
import Derived.ShutString
import Derived.ChangeOld
import Derived.Below
import Derived.JoinedCond
import Derived.Carry
namespace Go.Proofs.YthgnjojkncodeaaGreat
open Go.ChangeShapes Go.WideShapes Go.ChangeAt Go.RowKit

theorem bulk_one {H : Type} (d : DataW H) : 1 ≤ Rows.uptoBulk d := by
  cases d with
  | lit l => cases l <;> simp [Rows.uptoBulk]
  | nil => simp [Rows.uptoBulk]
  | ptr d => simp [Rows.uptoBulk]
  | slice elems spare => simp [Rows.uptoBulk]
  | agg parts => simp [Rows.uptoBulk]
  | iface t d => simp [Rows.uptoBulk]
  | map entries => simp [Rows.uptoBulk]
  | held h => simp [Rows.uptoBulk]
theorem bulk_length {H : Type} (l : List (DataW H)) : l.length ≤ Rows.uptoBulkAll l := by
  induction l with
  | nil => simp [Rows.uptoBulkAll]
  | cons x r ih => have := bulk_one x; simp only [Rows.uptoBulkAll, List.length_cons]; omega
theorem bulk_elems {H : Type} (elems spare : List (DataW H)) : Rows.uptoBulkAll elems + 1 ≤ Rows.uptoBulk (.slice elems spare) := by
  simp only [Rows.uptoBulk]
  omega
theorem bulk_slice {H : Type} (elems spare : List (DataW H)) : elems.length + 1 ≤ Rows.uptoBulk (.slice elems spare) := by
  have h1 := bulk_length elems
  have := bulk_elems elems spare
  omega
theorem bulk_bound {H : Type} {l : List (DataW H)} (hk : Rows.uptoSmall H l = true) : Rows.uptoBulkAll l ≤ 1048576 := of_decide_eq_true hk

theorem spotNone {w : World} {a : Addr} {v : Value} (h : w.cell? a = some v) : a.spot = none := by
  unfold World.cell? at h
  split at h
  · split at h
    · cases h
    · rename_i h1; cases hs : a.spot <;> simp_all
  · cases h
theorem addSpot (a : Addr) (n : Nat) : (a.add n).spot = none → n = 0 → a.spot = none := by
  intro h hn
  subst hn
  rwa [addZero] at h

/-- An unsigned number that came in. -/
theorem openU {k : IntKind} {x : Int} (m : Nat) (h : (Lit.int k x).wf = true) (hk : k.min = 0) (hm : k.max = (m : Int)) : ∃ n : Nat, x = (n : Int) ∧ n ≤ m := by
  have hb : k.min ≤ x ∧ x ≤ k.max := by simpa [Lit.wf] using h
  exact ⟨x.toNat, by omega, by omega⟩
end Go.Proofs.YthgnjojkncodeaaGreat
