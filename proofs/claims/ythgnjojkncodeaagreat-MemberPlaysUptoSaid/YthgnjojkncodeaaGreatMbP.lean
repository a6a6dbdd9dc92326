/-
  Members: words without memory: which topology may be, who stands at whose edges.
-/
import Derived.Test.YthgnjojkncodeaaGreatMbI
namespace Go.Proofs.YthgnjojkncodeaaGreat
open Go.RowKit
set_option linter.unusedVariables false

theorem ends_eq (f : Ed → Int × Bool) (es : List Ed) (l : List Int) (hl : l.Pairwise (· < ·)) (hm : ∀ x, x ∈ l ↔ ∃ e ∈ es, (f e).2 = true ∧ (f e).1 = x) : endsOf f es = l :=
  rise_ext _ _ (endsOf_spec f es).1 hl fun x => ((endsOf_spec f es).2 x).trans (hm x).symm
theorem nodes_eq (es : List Ed) (l : List Int) (hl : l.Pairwise (· < ·)) (hm : ∀ x, x ∈ l ↔ ∃ e ∈ es, e.1 = x ∨ e.2 = x) : nodesOf es = l := by
  unfold nodesOf
  have h1 := compact_spec _ (sortI_spec (endsOf (fun e : Ed => (e.1, true)) es ++ endsOf (fun e : Ed => (e.2, true)) es)).1
  refine rise_ext _ _ h1.1 hl fun x => ?_
  rw [h1.2, (sortI_spec _).2, List.mem_append, (endsOf_spec _ es).2, (endsOf_spec _ es).2, hm]
  constructor
  · rintro (⟨e, he, _, h⟩ | ⟨e, he, _, h⟩)
    · exact ⟨e, he, .inl h⟩
    · exact ⟨e, he, .inr h⟩
  · rintro ⟨e, he, h | h⟩
    · exact .inl ⟨e, he, rfl, h⟩
    · exact .inr ⟨e, he, rfl, h⟩
theorem hops_one (nodes : Int) (up : List Bool) (flows : List Flw) (L : List Ed) : hopsBad nodes up [L] flows = hopBad nodes up [L] flows 0 L := by
  show (List.any [0] fun fl => hopBad nodes up [L] flows fl ([L][fl]?.getD [])) = _
  simp
theorem may_all {nodes win que ep : Int} {flows : List Flw} {up : List Bool} {L : List Ed} (hc : configOk nodes flows win que = true) (h1 : 1 ≤ ep) (h2 : ep ≤ 1125899906842624) (hu : (up.length : Int) = nodes) (hh : flows.length = 1)
    (hl : L.length ≤ 128) (hr : (sortedB L && noAdj L) = true) (he : ∀ e ∈ L, edgeBad nodes up [L] ((0 : Nat) : Int) (srcOf flows 0) e = false) (ho : (orderOf L).isNone = false) : mayOk nodes flows win que ep up [L] = true := by
  have hb : hopsBad nodes up [L] flows = false := by
    rw [hops_one]
    have q1 : decide (L.length > 128) = false := decide_eq_false (by omega)
    have q2 : (L.any (edgeBad nodes up [L] ((0 : Nat) : Int) (srcOf flows 0))) = false := by
      rw [List.any_eq_false]
      intro e hm
      rw [he e hm]
      simp
    unfold hopBad
    rw [q1, q2, hr, ho]
    rfl
  have q1 : decide (ep < 1) = false := decide_eq_false (by omega)
  have q2 : decide (ep > 1125899906842624) = false := decide_eq_false (by omega)
  have q3 : ((up.length : Int) == nodes) = true := by rw [hu]; simp
  have q4 : ((([L] : List (List Ed)).length : Int) == (flows.length : Int)) = true := by rw [hh]; rfl
  unfold mayOk
  rw [hc, q1, q2, q3, q4, hb]
  rfl
def up3 : List Bool := [true, true, true]
def rowE : List Ed := [(0, 1), (1, 2)]
def fl3 : List Flw := [(2, 3, 0, [2])]
theorem three_good : configOk 3 fl3 4 4 = true := by decide
theorem row_next : nextOf [rowE] 0 1 = [2] := ends_eq _ _ _ (by decide) fun x => by simp [edgesOf, rowE]; omega
theorem row_next0 : nextOf [rowE] ((0 : Nat) : Int) 0 = [1] := ends_eq _ _ _ (by decide) fun x => by simp [edgesOf, rowE]; omega
theorem row_next1 : nextOf [rowE] ((0 : Nat) : Int) 1 = [2] := ends_eq _ _ _ (by decide) fun x => by simp [edgesOf, rowE]; omega
theorem row_prev : prevOf [rowE] 0 1 = [0] := ends_eq _ _ _ (by decide) fun x => by simp [edgesOf, rowE]; omega
theorem row_order : (orderOf rowE).isNone = false := by
  have : nodesOf rowE = [0, 1, 2] := nodes_eq _ _ (by decide) fun x => by simp [rowE]; omega
  unfold orderOf
  rw [this]
  decide
theorem row_may {ep : Int} (h1 : 1 ≤ ep) (h2 : ep ≤ 1125899906842624) : mayOk 3 fl3 4 4 ep up3 [rowE] = true := by
  refine may_all three_good h1 h2 rfl rfl (by decide) (by decide) (fun e he => ?_) row_order
  have hc : e = (0, 1) ∨ e = (1, 2) := by simpa [rowE] using he
  rcases hc with rfl | rfl <;> unfold edgeBad
  · show (_ || _ || _ || _ || decide ((nextOf [rowE] ((0 : Nat) : Int) 0).length > 8)) = false
    rw [row_next0]; decide
  · show (_ || _ || _ || _ || decide ((nextOf [rowE] ((0 : Nat) : Int) 1).length > 8)) = false
    rw [row_next1]; decide
theorem row_bad : mayOk 3 fl3 4 4 0 up3 [rowE] = false := by
  have : decide ((0 : Int) < 1) = true := by decide
  unfold mayOk
  rw [this]
  simp
theorem of_data (n : Int) : (prevOf [rowE] 0 1).contains n = (n == 0) := by rw [row_prev]; simp [List.contains, List.elem]; cases (n == 0) <;> rfl
theorem awake_of0 : ofRes fl3 1 1 [rowE] 1 0 1 1 0 = 0 := by
  have h : isB [rowE] 1 1 0 0 = true := by unfold isB; rw [if_pos (.inl rfl), row_prev]; rfl
  unfold ofRes
  rw [if_neg (by decide), if_neg (by decide), h, if_pos rfl]
theorem awake_of2 : ofRes fl3 1 1 [rowE] 1 2 1 1 0 = 6 := by
  have h : isB [rowE] 1 1 2 0 = false := by unfold isB; rw [if_pos (.inl rfl), row_prev]; rfl
  unfold ofRes
  rw [if_neg (by decide), if_neg (by decide), h, if_neg (by decide)]
theorem awake_back : ofRes fl3 1 1 [rowE] 2 2 1 1 0 = 0 := by
  have h : isB [rowE] 1 2 2 0 = true := by unfold isB; rw [if_neg (by decide), if_pos rfl, row_next]; rfl
  unfold ofRes
  rw [if_neg (by decide), if_neg (by decide), h, if_pos rfl]
end Go.Proofs.YthgnjojkncodeaaGreat
