/-
  Words for the rows: what an argument that came in is to the walks; the bound.
-/
import Derived.Test.YtmkmbnfmmibifaaRows
import Derived.Test.YtmkmbnfmmibifaaBase
import Derived.ProofKit
import Derived.OpenShut
import Derived.ShutString
import Derived.ChangeOld
import Derived.Below
import Derived.JoinedCond
import Derived.Carry
namespace Go.Proofs.Ytmkmbnfmmibifaa
open Go.ChangeShapes Go.WideShapes Go.ChangeAt Go.RowKit

theorem bulk_one {H : Type} (d : DataW H) : 1 ≤ Rows.uptoBulk d := by
  cases d with
  | lit l => cases l <;> simp [Rows.uptoBulk]
  | nil => simp [Rows.uptoBulk]
  | ptr d => simp [Rows.uptoBulk]
  | slice elems spare => simp [Rows.uptoBulk]
  | agg parts => simp [Rows.uptoBulk]
  | iface t d => simp [Rows.uptoBulk]
  | map entries => simp [Rows.uptoBulk]
  | held h => simp [Rows.uptoBulk]
theorem bulk_length {H : Type} (l : List (DataW H)) : l.length ≤ Rows.uptoBulkAll l := by
  induction l with
  | nil => simp [Rows.uptoBulkAll]
  | cons x r ih => have := bulk_one x; simp only [Rows.uptoBulkAll, List.length_cons]; omega
theorem bulk_elems {H : Type} (elems spare : List (DataW H)) : Rows.uptoBulkAll elems + 1 ≤ Rows.uptoBulk (.slice elems spare) := by
  simp only [Rows.uptoBulk]
  omega
theorem bulk_slice {H : Type} (elems spare : List (DataW H)) : elems.length + 1 ≤ Rows.uptoBulk (.slice elems spare) := by
  have h1 := bulk_length elems
  have := bulk_elems elems spare
  omega
theorem bulk_bound {H : Type} {l : List (DataW H)} (hk : Rows.uptoSmall H l = true) : Rows.uptoBulkAll l ≤ 1048576 := of_decide_eq_true hk

theorem spotNone {w : World} {a : Addr} {v : Value} (h : w.cell? a = some v) : a.spot = none := by
  unfold World.cell? at h
  split at h
  · split at h
    · cases h
    · rename_i h1; cases hs : a.spot <;> simp_all
  · cases h
theorem addSpot (a : Addr) (n : Nat) : (a.add n).spot = none → n = 0 → a.spot = none := by
  intro h hn
  subst hn
  rwa [addZero] at h

/-- A slice of bytes that came in. -/
theorem openBytes {H : Type} {enc : TypeId × Value → H} {W : World} {b0 base : Nat} {spare : Nat → Bool} {held : Bool} {v : Value} {d : DataW H} {p : List MemPlace}
    (hv : Value.okWide Try.prog W .any b0 28 v) (h : DataW.Trod enc Try.prog W base spare held 28 v d p) :
    ∃ A n c xs, v = .slice A n c ∧ n ≤ c ∧ RdB W (fun k => k < W.heap.size) A n xs ∧ n ≤ Rows.uptoBulk d := by
  obtain ⟨a0, len0, cap0, rfl⟩ := okWide_slice Try.underlying28 hv
  obtain ⟨fuel, hf⟩ := h
  rcases open_ints Try.underlying28 Try.underlying5 (by kernel_rfl) hf with ⟨hcs, _⟩ | ⟨x, l, c, zs, hcs, _, hl, hm, hz, hx, hcell, hwz⟩
  · simp [Value.cells] at hcs
    obtain ⟨rfl, rfl, rfl⟩ := hcs
    exact ⟨none, 0, 0, [], rfl, Nat.le_refl _, RdB.nil _ _ _, Nat.zero_le _⟩
  · simp [Value.cells] at hcs
    obtain ⟨rfl, rfl, rfl⟩ := hcs
    have hlz : len0 ≤ zs.length := by rw [hz]; split <;> omega
    have hd : d = .slice (lits .u8 (zs.take len0)) (lits .u8 (zs.drop len0)) := congrArg Prod.fst hx
    refine ⟨_, len0, cap0, (zs.take len0).map fun z => UInt8.ofNat z.toNat, rfl, hl, ⟨by simp; omega, by simp only [maxLen] at hm; omega, fun h0 => ?_⟩, ?_⟩
    · have hc0 := hcell 0 (by omega)
      refine ⟨x, rfl, ?_, ?_, addSpot x 0 (spotNone hc0) rfl, fun j hj => ?_⟩
      · have := World.block_lt_of_cell? W _ hc0; rwa [addBlock] at this
      · have := World.block_lt_of_cell? W _ hc0; rwa [addBlock] at this
      · rw [hcell j (by omega)]
        have hjz : j < zs.length := by omega
        have hw := hwz _ (List.getElem_mem hjz)
        have hb : 0 ≤ zs[j] ∧ zs[j] ≤ 255 := by simpa [Lit.wf, IntKind.min, IntKind.max, IntKind.bits, IntKind.signed] using hw
        simp [byt, List.getD_eq_getElem?_getD, hjz, hj, UInt8.toNat_ofNat']
        omega
    · have := bulk_slice (lits (H := H) .u8 (zs.take len0)) (lits .u8 (zs.drop len0))
      rw [hd]
      have hll : (lits (H := H) .u8 (zs.take len0)).length = len0 := by simp [lits]; omega
      omega
/-- An unsigned number that came in. -/
theorem openU {k : IntKind} {x : Int} (m : Nat) (h : (Lit.int k x).wf = true) (hk : k.min = 0) (hm : k.max = (m : Int)) : ∃ n : Nat, x = (n : Int) ∧ n ≤ m := by
  have hb : k.min ≤ x ∧ x ≤ k.max := by simpa [Lit.wf] using h
  exact ⟨x.toNat, by omega, by omega⟩
end Go.Proofs.Ytmkmbnfmmibifaa
