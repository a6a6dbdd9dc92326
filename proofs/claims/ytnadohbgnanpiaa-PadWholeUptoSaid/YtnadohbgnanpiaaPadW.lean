/-
  The plain law of PadWhole.
-/
import Derived.Test.YtnadohbgnanpiaaPadC2
namespace Go.Proofs.Ytnadohbgnanpiaa
open Go.RowKit

/-- What a row of chunks is of a stream. -/
structure Parts (xs : List UInt8) (room : Nat) (st : Pad.St) : Prop where
  flat : st.1.flatten = xs.take st.2
  le : st.2 ≤ xs.length
  row : ∀ c ∈ st.1, 1 ≤ c.length ∧ c.length ≤ room
theorem Parts.len {xs : List UInt8} {room : Nat} {st : Pad.St} (h : Parts xs room st) : st.1.flatten.length = st.2 := by
  rw [h.flat, List.length_take]; have := h.le; omega
/-- How far the first i chunks reach. -/
def reach (X : List (List UInt8)) (i : Nat) : Nat := (X.take i).flatten.length
theorem reach_zero (X : List (List UInt8)) : reach X 0 = 0 := by simp [reach]
theorem reach_all (X : List (List UInt8)) : reach X X.length = X.flatten.length := by simp [reach]
theorem reach_succ (X : List (List UInt8)) (i : Nat) (h : i < X.length) : reach X (i + 1) = reach X i + (lrow X i).length := by
  unfold reach
  rw [flat_next X i h, List.length_append]
theorem reach_left (X Z : List (List UInt8)) (i : Nat) (h : i ≤ X.length) : reach (X ++ Z) i = reach X i := by
  unfold reach
  rw [List.take_append_of_le_length h]
theorem Parts.hand {xs : List UInt8} {room : Nat} {st : Pad.St} (h : Parts xs room st) (z : Nat) (h1 : st.2 < z) (h2 : z ≤ st.2 + room) (h3 : z ≤ xs.length) : Parts xs room (Pad.hand xs st z) := by
  have hl : ((xs.take z).drop st.2).length = z - st.2 := by rw [List.length_drop, List.length_take]; omega
  refine ⟨?_, h3, fun c hc => ?_⟩
  · show (st.1 ++ [(xs.take z).drop st.2]).flatten = xs.take z
    rw [List.flatten_append, h.flat]
    have e : xs.take st.2 = (xs.take z).take st.2 := by rw [List.take_take]; congr 1; omega
    rw [e]
    simp
  · rcases List.mem_append.1 hc with hc | hc
    · exact h.row c hc
    · rw [List.mem_singleton] at hc
      rw [hc, hl]
      omega
theorem Parts.whole {xs : List UInt8} {room : Nat} (hr : 1 ≤ room) (z : Nat) (hz : z ≤ xs.length) : ∀ (f : Nat) (st : Pad.St), Parts xs room st → Parts xs room (Pad.whole xs room z f st) := by
  intro f
  induction f with
  | zero => intro st h; exact h
  | succ f ih =>
    intro st h
    by_cases hg : st.2 + room ≤ z
    · rw [whole_step xs room z f st hg]
      exact ih _ (h.hand _ (by omega) (by omega) (by omega))
    · rw [whole_stop xs room z _ st hg]; exact h
theorem whole_grows (xs : List UInt8) (room z : Nat) : ∀ (f : Nat) (st : Pad.St), ∃ Z, (Pad.whole xs room z f st).1 = st.1 ++ Z := by
  intro f
  induction f with
  | zero => intro st; exact ⟨[], by simp [Pad.whole]⟩
  | succ f ih =>
    intro st
    by_cases hg : st.2 + room ≤ z
    · rw [whole_step xs room z f st hg]
      obtain ⟨Z, e⟩ := ih (Pad.hand xs st (st.2 + room))
      exact ⟨[(xs.take (st.2 + room)).drop st.2] ++ Z, by rw [e, ← List.append_assoc]; rfl⟩
    · rw [whole_stop xs room z _ st hg]; exact ⟨[], by simp⟩
theorem whole_end (xs : List UInt8) (room z : Nat) (hr : 1 ≤ room) : ∀ (f : Nat) (st : Pad.St), z - st.2 < f → z < (Pad.whole xs room z f st).2 + room := by
  intro f
  induction f with
  | zero => intro st h; omega
  | succ f ih =>
    intro st h
    by_cases hg : st.2 + room ≤ z
    · rw [whole_step xs room z f st hg]
      exact ih _ (by show z - (st.2 + room) < f; omega)
    · rw [whole_stop xs room z _ st hg]; omega
theorem cutAt_grows (xs : List UInt8) (room z : Nat) (st : Pad.St) : ∃ Z, (Pad.cutAt xs room st z).1 = st.1 ++ Z := by
  unfold Pad.cutAt
  obtain ⟨Z, e⟩ := whole_grows xs room z (xs.length + 1) st
  simp only
  split
  · exact ⟨Z ++ [(xs.take z).drop (Pad.whole xs room z (xs.length + 1) st).2], by rw [← List.append_assoc, ← e]; rfl⟩
  · exact ⟨Z, e⟩
theorem Parts.cut {xs : List UInt8} {room : Nat} {st : Pad.St} (hr : 1 ≤ room) (z : Nat) (hz : z ≤ xs.length) (h : Parts xs room st) : Parts xs room (Pad.cutAt xs room st z) := by
  have h1 := h.whole hr z hz (xs.length + 1) st
  have h2 := whole_end xs room z hr (xs.length + 1) st (by omega)
  unfold Pad.cutAt
  simp only
  split
  · next hlt => exact h1.hand z hlt (by omega) hz
  · exact h1
/-- Is z where a chunk ends, or the beginning? -/
def IsEnd (X : List (List UInt8)) (z : Nat) : Prop := ∃ i, i ≤ X.length ∧ reach X i = z
theorem IsEnd.grow {X : List (List UInt8)} {z : Nat} (h : IsEnd X z) (Z : List (List UInt8)) : IsEnd (X ++ Z) z := by
  obtain ⟨i, hi, e⟩ := h
  exact ⟨i, by rw [List.length_append]; omega, by rw [reach_left X Z i hi]; exact e⟩
theorem fold_grows (xs : List UInt8) (room : Nat) : ∀ (zs : List Int) (st : Pad.St), ∃ Z, (foldCuts xs room zs st).1 = st.1 ++ Z := by
  intro zs
  induction zs with
  | nil => intro st; exact ⟨[], by simp [foldCuts]⟩
  | cons c cs ih =>
    intro st
    obtain ⟨Z1, e1⟩ := cutAt_grows xs room c.toNat st
    obtain ⟨Z2, e2⟩ := ih (Pad.cutAt xs room st c.toNat)
    exact ⟨Z1 ++ Z2, by rw [← List.append_assoc, ← e1]; exact e2⟩
/-- Cuts that rise. -/
def Rising (L : Nat) : List Int → Nat → Prop
  | [], _ => True
  | c :: cs, last => (last : Int) ≤ c ∧ c ≤ (L : Int) ∧ Rising L cs c.toNat
theorem fold_parts (xs : List UInt8) (room : Nat) (hr : 1 ≤ room) : ∀ (zs : List Int) (st : Pad.St), Rising xs.length zs st.2 → Parts xs room st →
    Parts xs room (foldCuts xs room zs st) ∧ ∀ c ∈ zs, IsEnd (foldCuts xs room zs st).1 c.toNat := by
  intro zs
  induction zs with
  | nil => intro st _ h; exact ⟨h, fun c hc => by cases hc⟩
  | cons c cs ih =>
    intro st hz h
    obtain ⟨h1, h2, h3⟩ := hz
    have hc := h.cut hr c.toNat (by omega)
    have ha := cutAt_at xs room st c.toNat (by omega)
    obtain ⟨k1, k2⟩ := ih (Pad.cutAt xs room st c.toNat) (by rw [ha]; exact h3) hc
    refine ⟨k1, fun d hd => ?_⟩
    rcases List.mem_cons.1 hd with rfl | hd
    · obtain ⟨Z, e⟩ := fold_grows xs room cs (Pad.cutAt xs room st d.toNat)
      show IsEnd (foldCuts xs room cs (Pad.cutAt xs room st d.toNat)).1 d.toNat
      rw [e]
      exact IsEnd.grow ⟨_, Nat.le_refl _, by rw [reach_all, hc.len]; exact ha⟩ Z
    · exact k2 d hd
theorem fold_pre (xs ms : List UInt8) (room : Nat) (hr : 1 ≤ room) : ∀ (zs : List Int) (last : Nat) (st : Pad.St), Rising xs.length zs last → foldCuts (xs ++ ms) room zs st = foldCuts xs room zs st := by
  intro zs
  induction zs with
  | nil => intro last st _; rfl
  | cons c cs ih =>
    intro last st hz
    show foldCuts (xs ++ ms) room cs (Pad.cutAt (xs ++ ms) room st c.toNat) = foldCuts xs room cs (Pad.cutAt xs room st c.toNat)
    rw [cutAt_pre xs ms room c.toNat hr (by have := hz.2.1; omega) st]
    exact ih _ _ hz.2.2
theorem whole_mono (xs : List UInt8) (room z : Nat) : ∀ (f : Nat) (st : Pad.St), st.2 ≤ (Pad.whole xs room z f st).2 := by
  intro f
  induction f with
  | zero => intro st; exact Nat.le_refl _
  | succ f ih =>
    intro st
    by_cases hg : st.2 + room ≤ z
    · rw [whole_step xs room z f st hg]
      have h1 := ih (Pad.hand xs st (st.2 + room))
      have h2 : st.2 + room ≤ (Pad.whole xs room z f (Pad.hand xs st (st.2 + room))).2 := h1
      omega
    · rw [whole_stop xs room z _ st hg]; exact Nat.le_refl _
theorem whole_on (xs : List UInt8) (room z z' : Nat) (hr : 1 ≤ room) (hzz : z ≤ z') : ∀ (f : Nat) (f' : Nat) (st : Pad.St), z - st.2 < f → z' - st.2 < f' → Pad.whole xs room z' f' st = Pad.whole xs room z' f' (Pad.whole xs room z f st) := by
  intro f
  induction f with
  | zero => intro f' st h; omega
  | succ f ih =>
    intro f' st h h'
    by_cases hg : st.2 + room ≤ z
    · rw [whole_step xs room z f st hg]
      cases f' with
      | zero => omega
      | succ f' =>
        have e := ih f' (Pad.hand xs st (st.2 + room)) (by show z - (st.2 + room) < f; omega) (by show z' - (st.2 + room) < f'; omega)
        rw [whole_step xs room z' f' st (by omega), e]
        refine whole_fuel xs room z' hr f' (f' + 1) _ ?_ ?_
        · have h1 := whole_mono xs room z f (Pad.hand xs st (st.2 + room))
          have h2 : st.2 + room ≤ (Pad.whole xs room z f (Pad.hand xs st (st.2 + room))).2 := h1
          omega
        · have h1 := whole_mono xs room z f (Pad.hand xs st (st.2 + room))
          have h2 : st.2 + room ≤ (Pad.whole xs room z f (Pad.hand xs st (st.2 + room))).2 := h1
          omega
    · rw [whole_stop xs room z _ st hg]
theorem goCuts_rising (xs : List UInt8) (room L : Nat) (hL : L ≤ xs.length) : ∀ (zs : List Int) (last : Nat) (st : Pad.St), Rising L zs last → goCuts xs room zs (last : Int) st = some (foldCuts xs room zs st) := by
  intro zs
  induction zs with
  | nil => intro last st _; rfl
  | cons c cs ih =>
    intro last st h
    obtain ⟨h1, h2, h3⟩ := h
    have e : ((c.toNat : Nat) : Int) = c := by omega
    have h4 := ih c.toNat (Pad.cutAt xs room st c.toNat) h3
    rw [e] at h4
    rw [goCuts, if_neg (by omega), h4]
    rfl
theorem whole_law (xs ms : List UInt8) (zs : List Int) (room : Nat) (hr : 1 ≤ room) (hz : Rising xs.length zs 0) :
    ∃ (X : List (List UInt8)) (Y : List UInt8), chunkRes xs zs room = (X, Y, 0) ∧ Y = xs.drop X.flatten.length ∧ Y.length < room ∧ X.flatten = xs.take X.flatten.length ∧ X.flatten.length ≤ xs.length ∧ (∀ c ∈ X, 1 ≤ c.length ∧ c.length ≤ room) ∧
      (∀ c ∈ zs, IsEnd X c.toNat) ∧ ∃ (Z : List (List UInt8)) (Y2 : List UInt8), chunkRes (xs ++ ms) zs room = (X ++ Z, Y2, 0) := by
  have h0 : Parts xs room ([], 0) := ⟨by simp, Nat.zero_le _, fun c hc => by cases hc⟩
  obtain ⟨h1, h2⟩ := fold_parts xs room hr zs ([], 0) hz h0
  have h3 := h1.whole hr xs.length (Nat.le_refl _) (xs.length + 1) _
  have h4 := whole_end xs room xs.length hr (xs.length + 1) (foldCuts xs room zs ([], 0)) (by omega)
  obtain ⟨Z1, e1⟩ := whole_grows xs room xs.length (xs.length + 1) (foldCuts xs room zs ([], 0))
  have hg1 : chunkRes xs zs room = ((finCuts xs room zs ([], 0)).1, xs.drop (finCuts xs room zs ([], 0)).2, 0) := by
    rw [chunkRes]
    rw [show (0 : Int) = ((0 : Nat) : Int) from rfl, goCuts_rising xs room xs.length (Nat.le_refl _) zs 0 ([], 0) hz]
    rfl
  have hg2 : chunkRes (xs ++ ms) zs room = ((finCuts (xs ++ ms) room zs ([], 0)).1, (xs ++ ms).drop (finCuts (xs ++ ms) room zs ([], 0)).2, 0) := by
    rw [chunkRes, show (0 : Int) = ((0 : Nat) : Int) from rfl, goCuts_rising (xs ++ ms) room xs.length (by rw [List.length_append]; omega) zs 0 ([], 0) hz]
    rfl
  have hfl := h3.len
  refine ⟨_, _, hg1, ?_, ?_, ?_, ?_, h3.row, fun c hc => ?_, ?_⟩
  · show xs.drop _ = _; rw [show (finCuts xs room zs ([], 0)).1.flatten.length = (finCuts xs room zs ([], 0)).2 from hfl]
  · rw [List.length_drop]
    have : xs.length < (finCuts xs room zs ([], 0)).2 + room := h4
    omega
  · rw [show (finCuts xs room zs ([], 0)).1.flatten.length = (finCuts xs room zs ([], 0)).2 from hfl]
    exact h3.flat
  · rw [show (finCuts xs room zs ([], 0)).1.flatten.length = (finCuts xs room zs ([], 0)).2 from hfl]
    exact h3.le
  · show IsEnd (Pad.whole xs room xs.length (xs.length + 1) (foldCuts xs room zs ([], 0))).1 c.toNat
    rw [e1]
    exact (h2 c hc).grow Z1
  · have e2 : finCuts (xs ++ ms) room zs ([], 0) = Pad.whole (xs ++ ms) room (xs ++ ms).length ((xs ++ ms).length + 1) (finCuts xs room zs ([], 0)) := by
      unfold finCuts
      rw [fold_pre xs ms room hr zs 0 ([], 0) hz, whole_on (xs ++ ms) room xs.length (xs ++ ms).length hr (by rw [List.length_append]; omega) (xs.length + 1) ((xs ++ ms).length + 1) _ (by omega) (by omega), whole_pre xs ms room xs.length (Nat.le_refl _)]
    obtain ⟨Z2, e3⟩ := whole_grows (xs ++ ms) room (xs ++ ms).length ((xs ++ ms).length + 1) (finCuts xs room zs ([], 0))
    exact ⟨Z2, _, by rw [hg2, ← e3, ← e2]⟩
end Go.Proofs.Ytnadohbgnanpiaa
