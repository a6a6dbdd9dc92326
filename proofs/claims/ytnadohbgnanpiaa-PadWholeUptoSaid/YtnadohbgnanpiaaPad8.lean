/-
  The walk of Chunks' second closure.
-/
import Derived.Test.YtnadohbgnanpiaaPad7
namespace Go.Proofs.Ytnadohbgnanpiaa
open Go.RowKit

def atOf (T : Nat) (w : World) : Nat := (intOf ((w.cell? ⟨T, 0, none⟩).getD undef)).toNat
theorem whole_step (xs : List UInt8) (room z f : Nat) (st : Pad.St) (h : st.2 + room ≤ z) : Pad.whole xs room z (f + 1) st = Pad.whole xs room z f (Pad.hand xs st (st.2 + room)) := by rw [Pad.whole, if_pos h]
theorem whole_stop (xs : List UInt8) (room z f : Nat) (st : Pad.St) (h : ¬ st.2 + room ≤ z) : Pad.whole xs room z f st = st := by
  cases f with
  | zero => rfl
  | succ f => rw [Pad.whole, if_neg h]
def RetWhole (Bx O T : Nat) (st : Pad.St) (w : World) (e : Ending) (w' : World) : Prop := (∃ u, e = .returned u) ∧ (∃ v', ChV Bx O T v' st w') ∧ ChK Bx O T w w'
set_option maxHeartbeats 2000000 in
theorem whole_calls (B Bx O S T R H n c room z f : Nat) (A : Option Addr) (xs : List UInt8) (w : World) (v : Value) (st : Pad.St) (hF : ChF B Bx O S T R H n c room A xs w) (hV : ChV Bx O T v st w) (hroom : 1 ≤ room) (hrm : room ≤ 16711425) (h1 : st.2 ≤ z) (h2 : z ≤ n) (hl : st.1.length ≤ st.2) (hf : z - st.2 < f) :
    Calls Try.prog 33 #[.int .i64 (z : Int), .pointer (some ⟨T, 0, none⟩), .pointer (some ⟨R, 0, none⟩), .pointer (some ⟨H, 0, none⟩)] w (RetWhole Bx O T (Pad.whole xs room z f st) w) := by
  obtain ⟨goal, hgoal⟩ : ∃ goal, Pad.whole xs room z f st = goal := ⟨_, rfl⟩
  rw [hgoal]
  have HG := Lib.hid hgoal
  have hnm := hF.nm
  clear hgoal
  go_enter Try.func33, Try.ntmps33
  go_wp2_with fail
  go_loopw [5] (fun _ wr => ∃ (f' : Nat) (st' : Pad.St) (v' : Value), Pad.whole xs room z f' st' = goal ∧ st'.2 ≤ z ∧ st'.1.length ≤ st'.2 ∧ z - st'.2 < f' ∧ ChV Bx O T v' st' wr ∧ ChK Bx O T w wr) (fun _ wr => n - atOf T wr)
  case atStart => exact ⟨f, st, v, HG.out, h1, hl, hf, hV, ChK.refl _ _ _ _⟩
  case round =>
    obtain ⟨f', st', v', hg, hz, hl', hf', hV', hK⟩ := hrel
    have hF' := hF.keep hK
    have cT := hV'.cT
    have cR := hF'.cR
    have cH := hF'.cH
    have hat : atOf T wr = st'.2 := by unfold atOf; rw [cT]; simp [intOf]
    by_cases hgo : st'.2 + room ≤ z
    · have hfs : f' = (f' - 1) + 1 := by omega
      have hstep : Pad.whole xs room z (f' - 1) (Pad.hand xs st' (st'.2 + room)) = goal := by rw [← whole_step xs room z (f' - 1) st' hgo, ← hfs]; exact hg
      have hgoi : (room : Int) ≤ (z : Int) - (st'.2 : Int) := by omega
      have hhand := hand_calls B Bx O S T R H n c room (st'.2 + room) A xs wr v' st' hF' hV' (by omega) (by omega) (by omega)
      have hc : ((st'.2 + room : Nat) : Int) = (st'.2 : Int) + (room : Int) := by omega
      rw [hc] at hhand
      have HSTEP := Lib.hid hstep
      have HATR := Lib.hid hat
      have HFS := Lib.hid hfs
      clear hfs hstep hc hat hg
      go_wp2_with fail
      refine hhand.mono ?_
      rintro e w4 ⟨⟨u, rfl⟩, ⟨v4, hV4⟩, hK4⟩
      have hat4 : atOf T w4 = st'.2 + room := by unfold atOf; rw [hV4.cT]; simp [intOf, Pad.hand]; omega
      have HAT4 := Lib.hid hat4
      clear hat4
      go_wp2_with fail
      go_roundw
      case rel => exact ⟨f' - 1, _, v4, HSTEP.out, by show st'.2 + room ≤ z; omega, by show (st'.1 ++ [_]).length ≤ st'.2 + room; rw [List.length_append, List.length_singleton]; omega, by show z - (st'.2 + room) < f' - 1; omega, hV4, hK.trans hK4⟩
      case measure => rw [HAT4.out, HATR.out]; omega
    · have hstop : st' = goal := by rw [← hg, whole_stop xs room z f' st' hgo]
      have hgoi : ¬ (room : Int) ≤ (z : Int) - (st'.2 : Int) := by omega
      have hdone : RetWhole Bx O T goal w (.returned (.tuple #[])) wr := by rw [← hstop]; exact ⟨⟨_, rfl⟩, ⟨v', hV'⟩, hK⟩
      clear hstop hat hg
      go_wp2_with fail
      go_end0
      exact hdone
end Go.Proofs.Ytnadohbgnanpiaa
