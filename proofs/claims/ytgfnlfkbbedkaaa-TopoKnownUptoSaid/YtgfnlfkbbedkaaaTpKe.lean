/-
  TopoKnown: an edge more in a topology of eleven nodes.
-/
import Derived.Test.YtgfnlfkbbedkaaaTpKd
namespace Go.Proofs.Ytgfnlfkbbedkaaa
open Go.RowKit
set_option linter.unusedVariables false

def KS (y : World) (P U H : Nat) (k : Nat) : Prop := y.heap.size ≤ k ∧ k ≠ P ∧ k ≠ U ∧ k ≠ H
theorem kt_add {y w : World} {P U H : Nat} {A1 : Option Addr} {N1 c1 : Nat} {L : List Ed} (hK : KT y w P U H (.slice A1 N1 c1)) (hO : Own elEd 42 w (KS y P U H) (.slice A1 N1 c1) L) (a b : Int) (ha : inI a) (hb : inI b) (hl : L.length ≤ 1000) :
    ∀ W, (w.alloc (.cells #[.int .i64 a, .int .i64 b] 42)).drew = W → ∃ A2 N2 c2 w2, (Builtin.append_ #[39, 39] 39 #[.slice A1 N1 c1, .slice (some ⟨w.heap.size, 0, none⟩) 1 1]).run Try.prog W = .ok (.slice A2 N2 c2) w2 ∧
      W.cell? ⟨P, 2, none⟩ = some (.slice (some ⟨H, 0, none⟩) 1 1) ∧
      (w2.cell? ⟨P, 2, none⟩ = some (.slice (some ⟨H, 0, none⟩) 1 1) ∧ w2.cell? ⟨H, 0, none⟩ = some (.slice A1 N1 c1) ∧ w2.frozen? ⟨H, 0, none⟩ = false) ∧
      (w2.setCell ⟨H, 0, none⟩ (.slice A2 N2 c2)).cell? ⟨P, 2, none⟩ = some (.slice (some ⟨H, 0, none⟩) 1 1) ∧
      KT y (w2.setCell ⟨H, 0, none⟩ (.slice A2 N2 c2)) P U H (.slice A2 N2 c2) ∧ Own elEd 42 (w2.setCell ⟨H, 0, none⟩ (.slice A2 N2 c2)) (KS y P U H) (.slice A2 N2 c2) (L ++ [(a, b)]) := by
  intro W hW
  obtain ⟨i0, hi0, hzz⟩ := Option.map_eq_some_iff.1 info_ed
  simp only [Prod.mk.injEq] at hzz
  obtain ⟨hz0, hz1, hz2⟩ := hzz
  have hbW : Below w.heap.size w W := by rw [← hW]; exact ((Below.refl _ _).alloc (Nat.le_refl _) _).drew
  have hsW : W.heap.size = w.heap.size + 1 := by rw [← hW]; show (w.alloc _).heap.size = _; simp
  have hcW : ∀ j u, [Value.int .i64 a, Value.int .i64 b][j]? = some u → W.cell? ((⟨w.heap.size, 0, none⟩ : Addr).add j) = some u := by rw [← hW]; exact newCells w #[.int .i64 a, .int .i64 b] 42 (0, 0)
  obtain ⟨v12, w12, hrun2, ho12, hg12, hv12⟩ := Own.app (E := elEd) (P := Try.prog) 39 39 i0 _ 16 Try.underlying39 hi0 hz0 hz1 hz2 rfl (by decide) (hO.below hbW) ⟨w.heap.size, 0, none⟩ _ (a, b) (ed_mk _ _ ha hb) hcW (by unfold maxLen; omega) (by omega) 1
  have hel := hO.lt
  have hKs := hK.bel.size
  have hK12 : KT y w12 P U H (.slice A1 N1 c1) := (hK.below hbW).chg (Chg.ofGrown hg12) fun k hk => (hel k hk.symm).1
  obtain ⟨A12, N12, c12, rfl, _, _⟩ := ho12.shape
  obtain ⟨q0, q1, q2, q3, q4⟩ := hK12.facts
  have hput := hK12.put (.slice A12 N12 c12)
  obtain ⟨s0, s1, s2, s3, s4⟩ := hput.facts
  have ho2 : Own elEd 42 w12 (KS y P U H) (.slice A12 N12 c12) (L ++ [(a, b)]) := ho12.mono fun k hl hk => by
    have hPl := (Array.getElem?_eq_some_iff.1 (hK.below hbW).bt).1
    have hUl := (Array.getElem?_eq_some_iff.1 (hK.below hbW).bu).1
    have hHl := (Array.getElem?_eq_some_iff.1 (hK.below hbW).bh).1
    rcases hk with hk | hk
    · exact hk
    · exact ⟨by omega, by omega, by omega, by omega⟩
  exact ⟨A12, N12, c12, w12, hrun2, cellBelow hbW hK.facts.2.2.1, ⟨q2, q3, q4⟩, s2, hput, ho2.chg (Chg.set w12 ⟨H, 0, none⟩ _) fun k _ hk e => hk.2.2.2 e⟩
end Go.Proofs.Ytgfnlfkbbedkaaa
