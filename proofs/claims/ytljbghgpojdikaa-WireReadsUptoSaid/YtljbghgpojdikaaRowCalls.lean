/-
  Words for the rows: a slice of calls (pairs of ints) that came in.
-/
import Derived.Test.YtljbghgpojdikaaRow
import Derived.Test.YtljbghgpojdikaaWireReads
import Derived.Deep.SlicePairs
namespace Go.Proofs.Ytljbghgpojdikaa
open Go.ChangeShapes Go.WideShapes Go.ChangeAt Go.RowKit

theorem addSpotNone (a : Addr) (n : Nat) (h : (a.add n).spot = none) (hs : a.spot ≠ none → n = 0) : a.spot = none := by
  by_cases h0 : a.spot = none
  · exact h0
  · have := hs h0
    subst this
    rwa [addZero] at h
theorem openCalls {H : Type} {enc : TypeId × Value → H} {W : World} {b0 base : Nat} {spare : Nat → Bool} {held : Bool} {v : Value} {d : DataW H} {p : List MemPlace}
    (hv : Value.okWide Try.prog W .any b0 40 v) (h : DataW.Trod enc Try.prog W base spare held 40 v d p) :
    ∃ A n c f g, v = .slice A n c ∧ n ≤ c ∧ RdP W W.heap.size A n f g ∧ n ≤ Rows.uptoBulk d := by
  obtain ⟨a0, len0, cap0, rfl⟩ := okWide_slice Try.underlying40 hv
  obtain ⟨fuel, hf⟩ := h
  rcases Deep.open_slice_pairs Try.underlying40 Try.underlying45 (by kernel_rfl) rfl rfl (by kernel_rfl) (by kernel_rfl) hf with ⟨hcs, _⟩ | ⟨a, len, cap, m, k, V0, V1, D0, D1, P0, P1, hcs, _, hl, hm, hmm, hx, hi⟩
  · simp [Value.cells] at hcs
    obtain ⟨rfl, rfl, rfl⟩ := hcs
    exact ⟨none, 0, 0, fun _ => 0, fun _ => 0, rfl, Nat.le_refl _, fun h => absurd h (by omega), Nat.zero_le _⟩
  · simp [Value.cells] at hcs
    obtain ⟨rfl, rfl, rfl⟩ := hcs
    have hlm : len0 ≤ m := by rw [hmm]; split <;> omega
    have hd : d = .slice ((List.range len0).map fun i => .agg [D0 i, D1 i]) ((List.range (m - len0)).map fun j => .agg [D0 (len0 + j), D1 (len0 + j)]) := congrArg Prod.fst hx
    refine ⟨some a, len0, cap0, fun i => (match V0 i with | .int _ z => z | _ => 0), fun i => (match V1 i with | .int _ z => z | _ => 0), rfl, hl, fun h0 => ?_, ?_⟩
    · obtain ⟨c0, _, _, _⟩ := hi 0 (by omega)
      rw [Nat.zero_mul] at c0
      have hs := addSpot a 0 (spotNone c0) rfl
      have hb := World.block_lt_of_cell? W _ c0
      rw [addBlock] at hb
      obtain ⟨b, o, s⟩ := a
      simp only at hs
      subst hs
      refine ⟨b, o, rfl, hb, fun i hil => ?_⟩
      obtain ⟨q0, q1, t0, t1⟩ := hi i (by omega)
      obtain ⟨z0, e0, _, _⟩ := DataW.trod_int Try.underlying3 t0
      obtain ⟨z1, e1, _, _⟩ := DataW.trod_int Try.underlying3 t1
      injection e0 with e0
      injection e1 with e1
      rw [addPlain] at q0 q1
      refine ⟨?_, ?_⟩
      · rw [q0]; simp only [e0]
      · rw [show o + i * 2 + 1 = o + (i * 2 + 1) by omega, q1]; simp only [e1]
    · have := bulk_slice ((List.range len0).map fun i => DataW.agg [D0 i, D1 i]) ((List.range (m - len0)).map fun j => DataW.agg [D0 (len0 + j), D1 (len0 + j)])
      rw [hd]
      rw [List.length_map, List.length_range] at this
      omega
end Go.Proofs.Ytljbghgpojdikaa
