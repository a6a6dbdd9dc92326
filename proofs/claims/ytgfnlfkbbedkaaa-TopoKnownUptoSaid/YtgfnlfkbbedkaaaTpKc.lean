/-
  TopoKnown: what may be and what may not, in plain words.
-/
import Derived.Test.YtgfnlfkbbedkaaaTpN
import Derived.Test.YtgfnlfkbbedkaaaTpW
namespace Go.Proofs.Ytgfnlfkbbedkaaa
open Go.RowKit

def flG : List Flw := [(1, 5, 0, [3, 4])]
def flW : List Flw := [(5, 1, 0, [1])]
def up5 : List Bool := [true, true, true, true, true]
def up11 : List Bool := [true, true, true, true, true, true, true, true, true, true, true]
def wideL (n : Nat) : List Ed := (List.range n).map fun i => ((0 : Int), ((i + 1 : Nat) : Int))
theorem wideL_succ (n : Nat) : wideL (n + 1) = wideL n ++ [((0 : Int), ((n + 1 : Nat) : Int))] := by simp [wideL, List.range_succ]
theorem may_all {nodes win que ep : Int} {flows : List Flw} {up : List Bool} {L : List Ed} (hc : configOk nodes flows win que = true) (h1 : 1 ≤ ep) (h2 : ep ≤ 1125899906842624) (hu : (up.length : Int) = nodes) (hh : flows.length = 1)
    (hl : L.length ≤ 128) (hr : (sortedB L && noAdj L) = true) (he : ∀ e ∈ L, edgeBad nodes up [L] ((0 : Nat) : Int) (srcOf flows 0) e = false) (ho : (orderOf L).isNone = false) : mayOk nodes flows win que ep up [L] = true := by
  have hb : hopsBad nodes up [L] flows = false := by
    rw [hops_one]
    have q1 : decide (L.length > 128) = false := decide_eq_false (by omega)
    have q2 : (L.any (edgeBad nodes up [L] ((0 : Nat) : Int) (srcOf flows 0))) = false := by
      rw [List.any_eq_false]
      intro e hm
      rw [he e hm]
      simp
    unfold hopBad
    rw [q1, q2, hr, ho]
    rfl
  have q1 : decide (ep < 1) = false := decide_eq_false (by omega)
  have q2 : decide (ep > 1125899906842624) = false := decide_eq_false (by omega)
  have q3 : ((up.length : Int) == nodes) = true := by rw [hu]; simp
  have q4 : ((([L] : List (List Ed)).length : Int) == (flows.length : Int)) = true := by rw [hh]; rfl
  unfold mayOk
  rw [hc, q1, q2, q3, q4, hb]
  rfl
theorem known_good : configOk 5 flG 1 1 = true := by decide
theorem known_dia : mayOk 5 flG 1 1 1 up5 [dia] = true := by
  have n0 : nextOf [dia] ((0 : Nat) : Int) 0 = [2, 3] := dia_next
  have n2 : nextOf [dia] ((0 : Nat) : Int) 2 = [4] := ends_eq _ _ _ (by decide) fun x => by simp [edgesOf, dia]; omega
  have n3 : nextOf [dia] ((0 : Nat) : Int) 3 = [4] := ends_eq _ _ _ (by decide) fun x => by simp [edgesOf, dia]; omega
  refine may_all known_good (by decide) (by decide) rfl rfl (by decide) (by decide) (fun e he => ?_) (by rw [dia_order]; rfl)
  have hc : e = (0, 2) ∨ e = (0, 3) ∨ e = (2, 4) ∨ e = (3, 4) := by simpa [dia] using he
  rcases hc with rfl | rfl | rfl | rfl <;> unfold edgeBad
  · show (_ || _ || _ || _ || decide ((nextOf [dia] ((0 : Nat) : Int) 0).length > 8)) = false
    rw [n0]; decide
  · show (_ || _ || _ || _ || decide ((nextOf [dia] ((0 : Nat) : Int) 0).length > 8)) = false
    rw [n0]; decide
  · show (_ || _ || _ || _ || decide ((nextOf [dia] ((0 : Nat) : Int) 2).length > 8)) = false
    rw [n2]; decide
  · show (_ || _ || _ || _ || decide ((nextOf [dia] ((0 : Nat) : Int) 3).length > 8)) = false
    rw [n3]; decide
theorem known_none : mayOk 0 [] 0 0 1 up5 [dia] = false := by
  have : configOk 0 [] 0 0 = false := by decide
  unfold mayOk
  rw [this]
  simp
theorem known_empty : mayOk 5 flG 1 1 0 [] [] = false := by
  have : decide ((0 : Int) < 1) = true := by decide
  unfold mayOk
  rw [this]
  simp
theorem known_out : mayOk 5 flG 1 1 1 up5 [dia ++ [(1, 5)]] = false := may_edge (e := (1, 5)) (by simp) (by
  have : upB 5 up5 5 = false := by decide
  unfold edgeBad
  show (_ || !upB 5 up5 5 || _ || _ || _) = true
  rw [this]
  simp)
theorem known_self : mayOk 5 flG 1 1 1 up5 [dia ++ [(1, 1)]] = false := may_edge (e := (1, 1)) (by simp) (by unfold edgeBad; simp)
theorem known_order : mayOk 5 flG 1 1 1 up5 [dia ++ [(1, 2)]] = false := may_bad (fl := []) (by
  have : sortedB (dia ++ [(1, 2)]) = false := by decide
  unfold hopBad
  rw [this]
  simp)
theorem wide_good : configOk 11 flW 1 1 = true := by decide
theorem wideL8 : wideL 8 = [(0, 1), (0, 2), (0, 3), (0, 4), (0, 5), (0, 6), (0, 7), (0, 8)] := rfl
theorem wide_order : (orderOf (wideL 8)).isNone = false := by
  have : nodesOf (wideL 8) = [0, 1, 2, 3, 4, 5, 6, 7, 8] := nodes_eq _ _ (by decide) fun x => by simp [wideL8]; omega
  unfold orderOf
  rw [this]
  decide
theorem known_wide : mayOk 11 flW 1 1 1 up11 [wideL 8] = true := by
  have n0 : nextOf [wideL 8] ((0 : Nat) : Int) 0 = [1, 2, 3, 4, 5, 6, 7, 8] := ends_eq _ _ _ (by decide) fun x => by simp [edgesOf, wideL8]; omega
  refine may_all wide_good (by decide) (by decide) rfl rfl (by decide) (by decide) (fun e he => ?_) wide_order
  have hc : e.1 = 0 ∧ 1 ≤ e.2 ∧ e.2 ≤ 8 := by
    rw [wideL8] at he
    simp at he
    rcases he with rfl | rfl | rfl | rfl | rfl | rfl | rfl | rfl <;> decide
  obtain ⟨a, b⟩ := e
  obtain ⟨h0, h1, h2⟩ := hc
  simp only at h0 h1 h2
  subst h0
  have u0 : upB 11 up11 0 = true := by decide
  have u1 : upB 11 up11 b = true := by
    have : b = 1 ∨ b = 2 ∨ b = 3 ∨ b = 4 ∨ b = 5 ∨ b = 6 ∨ b = 7 ∨ b = 8 := by omega
    rcases this with rfl | rfl | rfl | rfl | rfl | rfl | rfl | rfl <;> decide
  have e1 : ((0 : Int) == b) = false := beq_eq_false_iff_ne.2 (by omega)
  have e2 : (b == (0 : Int)) = false := beq_eq_false_iff_ne.2 (by omega)
  have hs : srcOf flW 0 = 0 := rfl
  unfold edgeBad
  show (!upB 11 up11 0 || !upB 11 up11 b || ((0 : Int) == b) || (b == srcOf flW 0) || decide ((nextOf [wideL 8] ((0 : Nat) : Int) 0).length > 8)) = false
  rw [n0, u0, u1, e1, hs, e2]
  decide
theorem known_nine : mayOk 11 flW 1 1 1 up11 [wideL 8 ++ [(0, 9)]] = false := may_edge (e := (0, 9)) (by simp) (by
  have n0 : nextOf [wideL 8 ++ [(0, 9)]] ((0 : Nat) : Int) 0 = [1, 2, 3, 4, 5, 6, 7, 8, 9] := ends_eq _ _ _ (by decide) fun x => by simp [edgesOf, wideL8]; omega
  unfold edgeBad
  show (_ || _ || _ || _ || decide ((nextOf [wideL 8 ++ [(0, 9)]] ((0 : Nat) : Int) 0).length > 8)) = true
  rw [n0]
  simp)
theorem chg2 : configOk 4 flG 1 1 = false := by decide
theorem chg3 : configOk 65 flG 1 1 = false := by decide
theorem chg4 : configOk 5 flG 17 1 = false := by decide
theorem chg5 : configOk 5 flG 1 0 = false := by decide
theorem chg6 : configOk 5 [(1, 4, 0, [3, 4])] 1 1 = false := by decide
theorem chg7 : configOk 5 [(256, 5, 0, [3, 4])] 1 1 = false := by decide
theorem chg8 : configOk 5 [(1, 5, 3, [3, 4])] 1 1 = false := by decide
theorem chg9 : configOk 5 [(1, 5, 0, [])] 1 1 = false := by decide
theorem chg10 : configOk 5 [(1, 5, 0, [3, 3])] 1 1 = false := by decide
theorem chg11 : configOk 5 [] 1 1 = false := by decide
theorem chg12 : configOk 64 flG 1 1 = true := by decide
end Go.Proofs.Ytgfnlfkbbedkaaa
