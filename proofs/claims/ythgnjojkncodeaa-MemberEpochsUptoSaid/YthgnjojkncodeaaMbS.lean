/-
  A topology's value, one flow's edges of it.
-/
import Derived.Test.YthgnjojkncodeaaMbR
namespace Go.Proofs.Ythgnjojkncodeaa
open Go.RowKit
set_option linter.unusedVariables false
set_option linter.unusedSimpArgs false

theorem TopoV.flow {w : World} {ok : Nat → Prop} {v : Value} {ep : Int} {up : List Bool} {hops : List (List Ed)} (h : TopoV w ok v ep up hops) {k : Nat} {es : List Ed} (hk : hops[k]? = some es) :
    ∃ A n c b o m d C p q, v = .agg #[.int .u64 ep, .slice A n c, .slice (some ⟨b, o, none⟩) m d] ∧ k < m ∧ m ≤ 9223372036854775807 ∧ w.cell? ⟨b, o + k, none⟩ = some (.slice C p q) ∧ p ≤ q ∧ Rd elEd w ok C p es := by
  obtain ⟨A, n, c, B, m, d, rfl, h1, h2, h3, h4⟩ := h
  have hl := h4.len
  have hkl : k < hops.length := (List.getElem?_eq_some_iff.1 hk).1
  obtain ⟨b, o, vs, rfl, hb1, hb2, hV, hcl⟩ := h4.at_ k es hk
  obtain ⟨C, p, q, rfl, hpq, hrd⟩ := hV
  have k0 : w.cell? ⟨b, o + k, none⟩ = some (.slice C p q) := by have := hcl 0 _ rfl; simpa [El.slice] using this
  exact ⟨A, n, c, b, o, m, d, C, p, q, rfl, by omega, h4.max, k0, hpq, hrd⟩
theorem topoField (ep : Int) (v1 v2 : Value) (W : World) : (Instr.field 29 (.agg #[.int .u64 ep, v1, v2]) 2).run Try.prog W = .ok v2 W := by kernel_rfl
end Go.Proofs.Ythgnjojkncodeaa
