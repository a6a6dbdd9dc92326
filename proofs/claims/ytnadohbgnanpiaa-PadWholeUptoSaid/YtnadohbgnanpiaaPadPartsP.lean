/-
  The plain law of a cut that parts a stream.
-/
import Derived.Test.YtnadohbgnanpiaaPadB
namespace Go.Proofs.Ytnadohbgnanpiaa
open Go.RowKit

theorem whole_fuel (xs : List UInt8) (room z : Nat) (hr : 1 ≤ room) : ∀ (f f' : Nat) (st : Pad.St), z - st.2 < f → z - st.2 < f' → Pad.whole xs room z f st = Pad.whole xs room z f' st := by
  intro f
  induction f with
  | zero => intro f' st h; omega
  | succ f ih =>
    intro f' st h h'
    cases f' with
    | zero => omega
    | succ f' =>
      by_cases hg : st.2 + room ≤ z
      · rw [whole_step xs room z f st hg, whole_step xs room z f' st hg]
        exact ih f' _ (by show z - (st.2 + room) < f; omega) (by show z - (st.2 + room) < f'; omega)
      · rw [whole_stop xs room z _ st hg, whole_stop xs room z _ st hg]
theorem take_pre (xs ys : List UInt8) (z : Nat) (h : z ≤ xs.length) : (xs ++ ys).take z = xs.take z := List.take_append_of_le_length h
theorem hand_pre (xs ys : List UInt8) (st : Pad.St) (z : Nat) (h : z ≤ xs.length) : Pad.hand (xs ++ ys) st z = Pad.hand xs st z := by
  unfold Pad.hand
  rw [take_pre xs ys z h]
theorem whole_pre (xs ys : List UInt8) (room z : Nat) (hz : z ≤ xs.length) : ∀ (f : Nat) (st : Pad.St), Pad.whole (xs ++ ys) room z f st = Pad.whole xs room z f st := by
  intro f
  induction f with
  | zero => intro st; rfl
  | succ f ih =>
    intro st
    by_cases hg : st.2 + room ≤ z
    · rw [whole_step _ room z f st hg, whole_step _ room z f st hg, hand_pre xs ys st _ (by omega)]
      exact ih _
    · rw [whole_stop _ room z _ st hg, whole_stop _ room z _ st hg]
theorem cutAt_pre (xs ys : List UInt8) (room z : Nat) (hr : 1 ≤ room) (hz : z ≤ xs.length) (st : Pad.St) : Pad.cutAt (xs ++ ys) room st z = Pad.cutAt xs room st z := by
  unfold Pad.cutAt
  rw [whole_pre xs ys room z hz, whole_fuel xs room z hr ((xs ++ ys).length + 1) (xs.length + 1) st (by rw [List.length_append]; omega) (by omega)]
  simp only
  rw [hand_pre xs ys _ z hz]
theorem hand_shift (xs ys : List UInt8) (X : List (List UInt8)) (st : Pad.St) (z : Nat) :
    Pad.hand (xs ++ ys) (X ++ st.1, xs.length + st.2) (xs.length + z) = (X ++ (Pad.hand ys st z).1, xs.length + (Pad.hand ys st z).2) := by
  unfold Pad.hand
  simp only
  have e : ((xs ++ ys).take (xs.length + z)).drop (xs.length + st.2) = (ys.take z).drop st.2 := by
    rw [List.take_length_add_append, ← List.drop_drop, List.drop_left]
  rw [e, List.append_assoc]
theorem whole_shift (xs ys : List UInt8) (X : List (List UInt8)) (room z : Nat) : ∀ (f : Nat) (st : Pad.St),
    Pad.whole (xs ++ ys) room (xs.length + z) f (X ++ st.1, xs.length + st.2) = (X ++ (Pad.whole ys room z f st).1, xs.length + (Pad.whole ys room z f st).2) := by
  intro f
  induction f with
  | zero => intro st; rfl
  | succ f ih =>
    intro st
    by_cases hg : st.2 + room ≤ z
    · rw [whole_step _ room _ f _ (show (X ++ st.1, xs.length + st.2).2 + room ≤ xs.length + z by show xs.length + st.2 + room ≤ xs.length + z; omega), whole_step ys room z f st hg]
      have e : (X ++ st.1, xs.length + st.2).2 + room = xs.length + (st.2 + room) := by show xs.length + st.2 + room = _; omega
      rw [e, hand_shift xs ys X st (st.2 + room)]
      exact ih _
    · rw [whole_stop _ room _ _ _ (show ¬ (X ++ st.1, xs.length + st.2).2 + room ≤ xs.length + z by show ¬ xs.length + st.2 + room ≤ xs.length + z; omega), whole_stop ys room z _ st hg]
/-- P9's word: a cut parts a stream for good. -/
theorem parts_cut (xs ys : List UInt8) (room : Nat) (hr : 1 ≤ room) :
    ∃ (X Y : List (List UInt8)) (op : List UInt8), chunkRes xs [(xs.length : Int)] room = (X, [], 0) ∧ chunkRes ys [] room = (Y, op, 0) ∧ chunkRes (xs ++ ys) [(xs.length : Int)] room = (X ++ Y, op, 0) ∧ X.length ≤ xs.length ∧ Y.length ≤ ys.length := by
  have hat := cutAt_at xs room ([], 0) xs.length (Nat.zero_le _)
  obtain ⟨X, hX⟩ : ∃ X, Pad.cutAt xs room ([], 0) xs.length = (X, xs.length) := ⟨(Pad.cutAt xs room ([], 0) xs.length).1, Prod.ext rfl hat⟩
  have hX2 := cutAt_pre xs ys room xs.length hr (Nat.le_refl _) ([], 0)
  rw [hX] at hX2
  refine ⟨X, (Pad.whole ys room ys.length (ys.length + 1) ([], 0)).1, ys.drop (Pad.whole ys room ys.length (ys.length + 1) ([], 0)).2, ?_, ?_, ?_, ?_, ?_⟩
  · have h0 : ¬ ((xs.length : Int) < 0 ∨ (xs.length : Int) < (xs.length : Int)) := by omega
    rw [chunkRes, goCuts, if_neg h0, goCuts, Int.toNat_natCast, hX]
    simp only
    rw [whole_stop xs room xs.length _ (X, xs.length) (by show ¬ xs.length + room ≤ xs.length; omega)]
    simp
  · rw [chunkRes, goCuts]
  · have h0 : ¬ ((xs.length : Int) < 0 ∨ ((xs ++ ys).length : Int) < (xs.length : Int)) := by rw [List.length_append]; omega
    rw [chunkRes, goCuts, if_neg h0, goCuts, Int.toNat_natCast, hX2]
    simp only
    have hs := whole_shift xs ys X room ys.length ((xs ++ ys).length + 1) ([], 0)
    have hf := whole_fuel ys room ys.length hr ((xs ++ ys).length + 1) (ys.length + 1) ([], 0) (by rw [List.length_append]; show ys.length - 0 < _; omega) (by show ys.length - 0 < _; omega)
    rw [hf] at hs
    simp only [List.append_nil, Nat.add_zero] at hs
    rw [List.length_append] at hs ⊢
    rw [hs]
    simp only
    congr 2
    rw [← List.drop_drop, List.drop_left]
  · have h := cutAt_len xs room hr ([], 0) xs.length (Nat.le_refl _)
    rwa [hX] at h
  · exact Nat.le_trans (whole_len ys room ys.length hr (ys.length + 1) ([], 0) (Nat.le_refl _)) (whole_le ys room ys.length (ys.length + 1) ([], 0) (Nat.zero_le _))
end Go.Proofs.Ytnadohbgnanpiaa
