/-
  The plain law of the document's Chunks.
-/
import Derived.Test.YtnadohbgnanpiaaPadPartsP
namespace Go.Proofs.Ytnadohbgnanpiaa
open Go.RowKit

def zat (zs : List Int) (i : Nat) : Int := zs[i]?.getD 0
def foldCuts (xs : List UInt8) (room : Nat) (zs : List Int) (st : Pad.St) : Pad.St := zs.foldl (fun st c => Pad.cutAt xs room st c.toNat) st
def prevOf (zs : List Int) (last : Int) (i : Nat) : Int := if i = 0 then last else zat zs (i - 1)
theorem zat_cons (c : Int) (cs : List Int) (i : Nat) : zat (c :: cs) (i + 1) = zat cs i := by simp [zat]
theorem prev_cons (c last : Int) (cs : List Int) (i : Nat) : prevOf (c :: cs) last (i + 1) = prevOf cs c i := by
  cases i with
  | zero => simp [prevOf, zat]
  | succ i => simp [prevOf, zat]
theorem goCuts_good (xs : List UInt8) (room : Nat) : ∀ (zs : List Int) (last : Int) (st : Pad.St), (∀ i, i < zs.length → prevOf zs last i ≤ zat zs i ∧ zat zs i ≤ (xs.length : Int)) → goCuts xs room zs last st = some (foldCuts xs room zs st) := by
  intro zs
  induction zs with
  | nil => intro last st _; rfl
  | cons c cs ih =>
    intro last st h
    have h0 := h 0 (by simp)
    have e0 : prevOf (c :: cs) last 0 = last := rfl
    have e1 : zat (c :: cs) 0 = c := rfl
    rw [e0, e1] at h0
    rw [goCuts, if_neg (by omega), ih c _ (fun i hi => ?_)]
    · rfl
    · have := h (i + 1) (by simpa using hi)
      rwa [prev_cons, zat_cons] at this
theorem goCuts_none (xs : List UInt8) (room : Nat) : ∀ (zs : List Int) (last : Int) (st : Pad.St) (i : Nat), i < zs.length → (zat zs i < prevOf zs last i ∨ (xs.length : Int) < zat zs i) → goCuts xs room zs last st = none := by
  intro zs
  induction zs with
  | nil => intro last st i hi; simp at hi
  | cons c cs ih =>
    intro last st i hi h
    rw [goCuts]
    by_cases hc : c < last ∨ (xs.length : Int) < c
    · rw [if_pos hc]
    · rw [if_neg hc]
      cases i with
      | zero => exact absurd h hc
      | succ i =>
        rw [prev_cons, zat_cons] at h
        exact ih c _ i (by simpa using hi) h
theorem cutAt_le (xs : List UInt8) (room : Nat) (st : Pad.St) (c : Nat) (hr : 1 ≤ room) (h : c ≤ st.2) : Pad.cutAt xs room st c = st := by
  unfold Pad.cutAt
  rw [whole_stop xs room c _ st (by omega)]
  simp only
  rw [if_neg (by omega)]
theorem cutAt_room (xs : List UInt8) (room : Nat) (st : Pad.St) (c : Nat) (hr : 1 ≤ room) (hc : c ≤ xs.length) (h : st.2 + room ≤ c) : Pad.cutAt xs room st c = Pad.cutAt xs room (Pad.hand xs st (st.2 + room)) c := by
  unfold Pad.cutAt
  rw [whole_step xs room c _ st h, whole_fuel xs room c hr xs.length (xs.length + 1) (Pad.hand xs st (st.2 + room)) (by show c - (st.2 + room) < _; omega) (by show c - (st.2 + room) < _; omega)]
theorem cutAt_hand (xs : List UInt8) (room : Nat) (st : Pad.St) (c : Nat) (h1 : st.2 < c) (h2 : ¬ st.2 + room ≤ c) : Pad.cutAt xs room st c = Pad.hand xs st c := by
  unfold Pad.cutAt
  rw [whole_stop xs room c _ st h2]
  simp only
  rw [if_pos h1]
def finCuts (xs : List UInt8) (room : Nat) (zs : List Int) (st : Pad.St) : Pad.St := Pad.whole xs room xs.length (xs.length + 1) (foldCuts xs room zs st)
def Valid (L : Nat) (zs : List Int) : Prop := ∀ i, i < zs.length → (0 ≤ zat zs i ∧ zat zs i ≤ (L : Int)) ∧ ∀ j, j < i → zat zs j ≤ zat zs i
structure RCI (xs : List UInt8) (zs : List Int) (room : Nat) (goal : Pad.St) (q k : Nat) (st : Pad.St) : Prop where
  le : st.2 ≤ q
  near : q ≤ st.2 + room
  kl : k ≤ zs.length
  cut : ∀ j, k ≤ j → j < zs.length → zat zs j < (q : Int) → zat zs j ≤ (st.2 : Int)
  fin : finCuts xs room (zs.drop k) st = goal
  len : st.1.length ≤ st.2
theorem drop_zat (zs : List Int) (k : Nat) (h : k < zs.length) : zs.drop k = zat zs k :: zs.drop (k + 1) := by
  rw [List.drop_eq_getElem_cons h]; simp [zat, h]
theorem fin_cons (xs : List UInt8) (room : Nat) (zs : List Int) (k : Nat) (st : Pad.St) (h : k < zs.length) : finCuts xs room (zs.drop k) st = finCuts xs room (zs.drop (k + 1)) (Pad.cutAt xs room st (zat zs k).toNat) := by
  rw [drop_zat zs k h]; rfl
section
variable {xs : List UInt8} {zs : List Int} {room : Nat} {goal : Pad.St} {q k : Nat} {st : Pad.St}
theorem RCI.skip (hI : RCI xs zs room goal q k st) (hr : 1 ≤ room) (hk : k < zs.length) (h : zat zs k < (q : Int)) : RCI xs zs room goal q (k + 1) st := by
  have hc := hI.cut k (Nat.le_refl _) hk h
  refine ⟨hI.le, hI.near, hk, fun j hj hjl => hI.cut j (by omega) hjl, ?_, hI.len⟩
  rw [← hI.fin, fin_cons xs room zs k st hk, cutAt_le xs room st _ hr (by omega)]
theorem RCI.full (hI : RCI xs zs room goal q k st) (hr : 1 ≤ room) (hV : Valid xs.length zs) (hk : k < zs.length → (q : Int) ≤ zat zs k) (h : q = st.2 + room) (hq : q ≤ xs.length) : RCI xs zs room goal (q + 1) k (Pad.hand xs st q) := by
  refine ⟨by show q ≤ q + 1; omega, by show q + 1 ≤ q + room; omega, hI.kl, fun j hj hjl hz => by show zat zs j ≤ (q : Int); omega, ?_, ?_⟩
  · rw [← hI.fin]
    by_cases hkl : k < zs.length
    · have hz := (hV k hkl).1
      have hq2 := hk hkl
      rw [fin_cons xs room zs k _ hkl, fin_cons xs room zs k _ hkl, cutAt_room xs room st _ hr (by omega) (by omega), ← h]
    · rw [List.drop_eq_nil_of_le (by omega)]
      show Pad.whole xs room xs.length (xs.length + 1) (Pad.hand xs st q) = Pad.whole xs room xs.length (xs.length + 1) st
      rw [whole_step xs room xs.length xs.length st (by omega), ← h]
      exact whole_fuel xs room xs.length hr _ _ _ (by show xs.length - q < _; omega) (by show xs.length - q < _; omega)
  · show (st.1 ++ [_]).length ≤ q
    rw [List.length_append, List.length_singleton]
    have := hI.len
    omega
theorem RCI.hand (hI : RCI xs zs room goal q k st) (hr : 1 ≤ room) (hkl : k < zs.length) (hk : zat zs k = (q : Int)) (h1 : st.2 < q) (h : q ≠ st.2 + room) : RCI xs zs room goal (q + 1) k (Pad.hand xs st q) := by
  have hn := hI.near
  refine ⟨by show q ≤ q + 1; omega, by show q + 1 ≤ q + room; omega, hI.kl, fun j hj hjl hz => by show zat zs j ≤ (q : Int); omega, ?_, ?_⟩
  · rw [← hI.fin, fin_cons xs room zs k _ hkl, fin_cons xs room zs k _ hkl, hk, Int.toNat_natCast, cutAt_hand xs room st q h1 (by omega), cutAt_le xs room (Pad.hand xs st q) q hr (by show q ≤ q; omega)]
  · show (st.1 ++ [_]).length ≤ q
    rw [List.length_append, List.length_singleton]
    have := hI.len
    omega
theorem RCI.pass (hI : RCI xs zs room goal q k st) (hV : Valid xs.length zs) (hk : k < zs.length → (q : Int) ≤ zat zs k) (h : q ≠ st.2 + room) (h2 : st.2 < q → k < zs.length → zat zs k ≠ (q : Int)) : RCI xs zs room goal (q + 1) k st := by
  have hn := hI.near
  have hl := hI.le
  refine ⟨by omega, by omega, hI.kl, fun j hj hjl hz => ?_, hI.fin, hI.len⟩
  have hkl : k < zs.length := by omega
  have h3 := hk hkl
  have h4 : zat zs k ≤ zat zs j := by
    rcases Nat.lt_or_eq_of_le hj with e | e
    · exact (hV j hjl).2 k e
    · rw [e]; exact Int.le_refl _
  by_cases h5 : st.2 < q
  · exact absurd (show zat zs k = (q : Int) by omega) (h2 h5 hkl)
  · omega
theorem foldCuts_le (xs : List UInt8) (room : Nat) (hr : 1 ≤ room) : ∀ (zs : List Int) (st : Pad.St), (∀ z ∈ zs, z ≤ (st.2 : Int)) → foldCuts xs room zs st = st := by
  intro zs
  induction zs with
  | nil => intro st _; rfl
  | cons c cs ih =>
    intro st h
    have h0 := h c (by simp)
    show foldCuts xs room cs (Pad.cutAt xs room st c.toNat) = st
    rw [cutAt_le xs room st _ hr (by omega)]
    exact ih st fun z hz => h z (by simp [hz])
theorem RCI.done (hI : RCI xs zs room goal (xs.length + 1) k st) (hr : 1 ≤ room) (hV : Valid xs.length zs) : goal = st := by
  have hn := hI.near
  rw [← hI.fin, finCuts, foldCuts_le xs room hr, whole_stop xs room _ _ st (by omega)]
  intro z hz
  obtain ⟨j, hj, rfl⟩ := List.getElem_of_mem hz
  rw [List.length_drop] at hj
  have hj2 : k + j < zs.length := by omega
  have := hI.cut (k + j) (by omega) hj2
  have hv := (hV (k + j) hj2).1
  have e : zat zs (k + j) = (zs.drop k)[j] := by simp [zat, hj2]
  rw [← e]
  exact this (by omega)
theorem RCI.start (xs : List UInt8) (zs : List Int) (room : Nat) (hV : Valid xs.length zs) : RCI xs zs room (finCuts xs room zs ([], 0)) 0 0 ([], 0) :=
  ⟨Nat.le_refl _, Nat.zero_le _, Nat.zero_le _, fun j _ hjl h => by have := (hV j hjl).1; omega, by rw [List.drop_zero], Nat.le_refl _⟩
end
theorem chunkRes_good (xs : List UInt8) (zs : List Int) (room : Nat) (hV : Valid xs.length zs) : chunkRes xs zs room = ((finCuts xs room zs ([], 0)).1, xs.drop (finCuts xs room zs ([], 0)).2, 0) := by
  rw [chunkRes, goCuts_good xs room zs 0 ([], 0)]
  · rfl
  · intro i hi
    have h := hV i hi
    refine ⟨?_, h.1.2⟩
    unfold prevOf
    split
    · exact h.1.1
    · exact h.2 (i - 1) (by omega)
theorem chunkRes_none (xs : List UInt8) (zs : List Int) (room i : Nat) (hi : i < zs.length) (h0 : 0 ≤ prevOf zs 0 i) (h : zat zs i < 0 ∨ (xs.length : Int) < zat zs i ∨ (0 < i ∧ zat zs i < zat zs (i - 1))) : chunkRes xs zs room = ([], [], 1) := by
  rw [chunkRes, goCuts_none xs room zs 0 ([], 0) i hi]
  rcases h with h | h | h
  · exact .inl (by omega)
  · exact .inr h
  · left; unfold prevOf; rw [if_neg (by omega)]; exact h.2
end Go.Proofs.Ytnadohbgnanpiaa
