/-
  The chapter's rows: wakes.
-/
import Derived.Test.YthgnjojkncodeaaGreatTpD
import Derived.Test.YthgnjojkncodeaaGreatTpR
namespace Go.Proofs.YthgnjojkncodeaaGreat
open Go.RowKit

theorem ends_eq (f : Ed → Int × Bool) (es : List Ed) (l : List Int) (hl : l.Pairwise (· < ·)) (hm : ∀ x, x ∈ l ↔ ∃ e ∈ es, (f e).2 = true ∧ (f e).1 = x) : endsOf f es = l :=
  rise_ext _ _ (endsOf_spec f es).1 hl fun x => ((endsOf_spec f es).2 x).trans (hm x).symm
theorem dia_next : endsOf (fun e : Ed => (e.2, e.1 == 0)) dia = [2, 3] := ends_eq _ _ _ (by decide) fun x => by simp [dia]; omega
theorem dia_prev : endsOf (fun e : Ed => (e.1, e.2 == 4)) dia = [2, 3] := ends_eq _ _ _ (by decide) fun x => by simp [dia]; omega
theorem nodes_eq (es : List Ed) (l : List Int) (hl : l.Pairwise (· < ·)) (hm : ∀ x, x ∈ l ↔ ∃ e ∈ es, e.1 = x ∨ e.2 = x) : nodesOf es = l := by
  unfold nodesOf
  have h1 := compact_spec _ (sortI_spec (endsOf (fun e : Ed => (e.1, true)) es ++ endsOf (fun e : Ed => (e.2, true)) es)).1
  refine rise_ext _ _ h1.1 hl fun x => ?_
  rw [h1.2, (sortI_spec _).2, List.mem_append, (endsOf_spec _ es).2, (endsOf_spec _ es).2, hm]
  constructor
  · rintro (⟨e, he, _, h⟩ | ⟨e, he, _, h⟩)
    · exact ⟨e, he, .inl h⟩
    · exact ⟨e, he, .inr h⟩
  · rintro ⟨e, he, h | h⟩
    · exact .inl ⟨e, he, rfl, h⟩
    · exact .inr ⟨e, he, rfl, h⟩
theorem dia_order : orderOf dia = some [0, 2, 3, 4] := by
  have : nodesOf dia = [0, 2, 3, 4] := nodes_eq _ _ (by decide) fun x => by simp [dia]; omega
  unfold orderOf
  rw [this]
  decide
theorem dia_circle : orderOf (dia ++ [(4, 0)]) = none := by
  have : nodesOf (dia ++ [(4, 0)]) = [0, 2, 3, 4] := nodes_eq _ _ (by decide) fun x => by simp [dia]; omega
  unfold orderOf
  rw [this]
  decide
theorem dia_reach (xs : List Int) (h1 : xs.Pairwise (· < ·)) (h2 : ∀ x, x ∈ xs ↔ Reaches dia 0 x) : xs = [2, 3, 4] := by
  refine rise_ext _ _ h1 (by decide) fun x => (h2 x).trans ?_
  have r2 : Reaches dia 0 2 := .one (by decide)
  have r3 : Reaches dia 0 3 := .one (by decide)
  have r4 : Reaches dia 0 4 := .more r2 (by decide)
  constructor
  · intro h
    induction h with
    | one h => simp [dia] at h; simp; omega
    | more _ h ih => simp [dia] at h; simp at ih ⊢; omega
  · intro h
    simp at h
    rcases h with rfl | rfl | rfl <;> assumption
theorem lit_rdI (w : World) (zs : List Int) (ok : Nat → Prop) (hok : ok w.heap.size) (hm : zs.length ≤ 9223372036854775807) : RdI (w.alloc (.cells (ivals zs).toArray 3)) ok (some ⟨w.heap.size, 0, none⟩) zs.length zs :=
  ⟨rfl, hm, fun _ => ⟨w.heap.size, 0, rfl, hok, by simp, fun j hj => by simp [ivals, hj]⟩⟩
theorem few_one {es : List Ed} (h : es.length ≤ 1048576) : Few [es] := fun l hl => by rw [List.mem_singleton] at hl; subst hl; exact h
end Go.Proofs.YthgnjojkncodeaaGreat
