/-
  The document's Has and Same; slices.Contains of edges; topo.Edge.
-/
import Derived.Test.YthgnjojkncodeaaGreatTpP
namespace Go.Proofs.YthgnjojkncodeaaGreat
open Go.RowKit

theorem ret_bool {a b : Bool} (h : a = b) : Ending.returned (.bool a) = .returned (.bool b) := by rw [h]
theorem take_same (xs ys : List Int) (k : Nat) (h1 : k < xs.length) (h2 : k < ys.length) (h : xs.take k = ys.take k) (he : xs[k]?.getD 0 = ys[k]?.getD 0) : xs.take (k + 1) = ys.take (k + 1) := by
  rw [List.take_succ_eq_append_getElem h1, List.take_succ_eq_append_getElem h2, h]
  simp [h1, h2] at he
  rw [he]
set_option maxHeartbeats 1000000 in
theorem same_calls (w : World) (ok ok' : Nat → Prop) (A B : Option Addr) (n c m d : Nat) (xs ys : List Int) (hr : RdI w ok A n xs) (hs : RdI w ok' B m ys) :
    Calls Tryz.prog 13 #[.slice A n c, .slice B m d] w fun e w' => e = .returned (.bool (decide (xs = ys))) ∧ ∃ q, w' = w.drewN q := by
  obtain ⟨rb, hrb⟩ : ∃ rb, decide (xs = ys) = rb := ⟨_, rfl⟩
  rw [hrb]
  have HRB := Lib.hid hrb
  clear hrb
  have hl := hr.len
  have hl2 := hs.len
  have hm := hr.2.1
  have hm2 := hs.2.1
  by_cases hnm : n = m
  · subst hnm
    have hnn : ((n : Int) != (n : Int)) = false := by simp
    go_enter Tryz.func13, Tryz.ntmps13
    go_wp2
    go_loopw [5] (fun i wr => ∃ k q : Nat, k ≤ n ∧ i = .int .i64 k ∧ Hid (xs.take k = ys.take k) ∧ wr = w.drewN q) (fun i _ => n - (intOf i).toNat)
    case atStart => exact ⟨0, 0, Nat.zero_le _, rfl, Lib.hid rfl, rfl⟩
    case round =>
      obtain ⟨k, q, hk, rfl, HN, rfl⟩ := hrel
      by_cases hlt : k < n
      · have hlti : (k : Int) < (n : Int) := by omega
        obtain ⟨b, o, rfl, hb, hc⟩ := hr.at_ k hlt
        obtain ⟨b2, o2, rfl, hb2, hc2⟩ := hs.at_ k hlt
        have hk0 : (0 : Int) ≤ (k : Int) := by omega
        by_cases he : xs[k]?.getD 0 = ys[k]?.getD 0
        · have h1 : ((xs[k]?.getD 0) != (ys[k]?.getD 0)) = false := by rw [bne_eq_false_iff_eq]; exact he
          have HT := Lib.hid (take_same xs ys k (by omega) (by omega) HN.out he)
          clear he hr hs hl hl2
          go_wp2
          go_quiet (fail)
          go_wp2
          go_roundw
          case rel => exact ⟨k + 1, _, by omega, by go_num, HT, rfl⟩
          case measure => simp [intOf]; omega
        · have h1 : ((xs[k]?.getD 0) != (ys[k]?.getD 0)) = true := by rw [bne_iff_ne]; exact he
          have hne : decide (xs = ys) = false := decide_eq_false fun e => he (by rw [e])
          have HM := Lib.hid hne
          clear he hne hr hs hl hl2
          go_wp2
          go_quiet (fail)
          go_wp2
          go_ret
          exact ⟨ret_bool (HM.out.symm.trans HRB.out), q + nq, World.drewN_drewN _ _ _⟩
      · have hlti : ¬ (k : Int) < (n : Int) := by omega
        have heq : decide (xs = ys) = true := decide_eq_true (by have := HN.out; rwa [List.take_of_length_le (by omega), List.take_of_length_le (by omega)] at this)
        have HM := Lib.hid heq
        clear heq hr hs hl hl2
        go_wp2
        go_ret
        exact ⟨ret_bool (HM.out.symm.trans HRB.out), _, rfl⟩
  · have hnn : ((n : Int) != (m : Int)) = true := by rw [bne_iff_ne]; omega
    have hne : decide (xs = ys) = false := decide_eq_false fun e => hnm (by rw [← hl, ← hl2, e])
    have HM := Lib.hid hne
    clear hne hr hs hl hl2 hnm
    go_enter Tryz.func13, Tryz.ntmps13
    go_wp2
    go_ret
    exact ⟨ret_bool (HM.out.symm.trans HRB.out), 0, rfl⟩
end Go.Proofs.YthgnjojkncodeaaGreat
