/-
  The walk of WireOnce.
-/
import Derived.Test.YtljbghgpojdikaaWire4
namespace Go.Proofs.Ytljbghgpojdikaa
open Go.RowKit

set_option maxHeartbeats 3200000 in
theorem wireOnce_walk (w : World) (A : Option Addr) (n c : Nat) (xs : List UInt8) (m : Nat)
    (hr : RdB w (fun k => k < w.heap.size) A n xs) (hc : n ≤ c) (hn : n ≤ 1048576) (hm : m < 256) :
    Calls Try.prog 4 #[.slice A n c, .int .u8 (m : Int)] w fun e w' => e = .returned (.bool true) ∧ Below w.heap.size w w' := by
  have LX := Lib.hid hr.len
  obtain ⟨k, hk⟩ : ∃ k, k = 1 + m % 8 := ⟨_, rfl⟩
  have hkm : 1 + (m : Int) % 8 = (k : Int) := by omega
  have hkm' : (m : Int) % 8 + 1 = (k : Int) := by omega
  have HK := Lib.hid hk
  have k1 : 1 ≤ k := by omega
  have k8 : k ≤ 8 := by omega
  clear hk
  go_enter Try.func4, Try.ntmps4
  go_wp2_with fail
  refine (new_calls A n c xs w _ hr (by omega)).mono ?_
  rintro e w1 ⟨g, rfl, hg0, ⟨A1, n1, c1, hR1⟩, hb1⟩
  go_wp2_with fail
  refine (read_calls g g A1 n1 c1 xs (k : Int) w1 hR1 (Nat.le_of_lt hR1.1)).mono ?_
  unfold RetRead
  by_cases hs : n < k
  · have ht : Wire.numRead xs (k : Int) = (0, 4, xs) := by rw [Wire.numRead, if_neg (by omega), LX.out, if_pos (by omega)]
    rw [ht]
    rintro e w2 ⟨rfl, _, hg2⟩
    have hb2 := hb1.grown hg2 hb1.size (fun q hq => by injection hq with hq; omega)
    clear ht hg2 hR1
    go_wp2_with fail
    refine (awake_calls w2).mono ?_
    rintro e w3 ⟨rfl, hb3⟩
    go_wp2
    go_ret
    exact ⟨rfl, belowThen hb2 hb2.size hb3⟩
  · have ht : Wire.numRead xs (k : Int) = (Wire.be (xs.take k), 0, xs.drop k) := by
      rw [Wire.numRead, if_neg (by omega), LX.out, if_neg (by omega)]; rfl
    rw [ht]
    rintro e w2 ⟨rfl, _, hg2⟩
    have hb2 := hb1.grown hg2 hb1.size (fun q hq => by injection hq with hq; omega)
    have hkl : (xs.take k).length = k := by rw [List.length_take, LX.out]; omega
    have hlt := Wire.be_lt (xs.take k)
    rw [hkl] at hlt
    have hform := Wire.form_be (xs.take k)
    rw [hkl] at hform
    have h256 : 256 ^ k ≤ 256 ^ 8 := Nat.pow_le_pow_right (by omega) k8
    have h8v : 256 ^ 8 = 18446744073709551616 := rfl
    obtain ⟨y, hy⟩ : ∃ y, y = Wire.be (xs.take k) := ⟨_, rfl⟩
    rw [← hy] at hlt hform ⊢
    have hy64 : y < 18446744073709551616 := by omega
    have HF := Lib.hid hform
    have HLT := Lib.hid hlt
    have hn0 : Wire.numOf [] y (k : Int) = (xs.take k, 0) := by
      rw [Wire.numOf, if_neg (by omega), if_neg (by simpa using hlt), ← hform]; rfl
    clear ht hg2 hR1 hy hform hlt h256 h8v
    go_wp2_with fail
    refine (wnum_any none 0 0 y (k : Int) [] w2 (fun _ => True) (RdB.nil _ _ _) (by omega) hy64).mono ?_
    unfold RetNum
    rw [hn0]
    rintro e w3 ⟨v3, rfl, ho3, hb3⟩
    have hb23 := belowThen hb2 hb2.size hb3
    obtain ⟨A3, c3, rfl, hc3, _, r3⟩ := ho3.rd
    rw [hkl] at r3 hc3 ⊢
    obtain ⟨A4, k4, r4⟩ := cutTo_run A n c k (by omega) hc
    have h4 := r4 w _ xs hr
    clear hn0 ho3 r4
    go_wp2_with fail
    refine (equal_calls A3 A4 k c3 k c _ _ w3 _ _ r3 (h4.below hb23)).mono ?_
    rintro e w4 ⟨rfl, rfl⟩
    have hdd : decide (xs.take k = xs.take k) = true := by simp
    rw [hdd]
    clear hdd r3 h4
    go_wp2_with fail
    go_loopw [11] (fun i wr => ∃ j : Nat, 1 ≤ j ∧ j ≤ 9 ∧ i = .int .i64 j ∧ Below w.heap.size w wr) (fun i _ => 9 - (intOf i).toNat)
    case atStart => exact ⟨1, by omega, by omega, rfl, hb23⟩
    case round =>
      obtain ⟨j, hj1, hj9, rfl, hb⟩ := hrel
      clear hb23
      by_cases hj8 : j ≤ 8
      · have hnum : Wire.numOf [] y (j : Int) = if 256 ^ j ≤ y then ([], 3) else (Wire.form y j, 0) := by
          rw [Wire.numOf, if_neg (by omega)]; rfl
        have HN := Lib.hid hnum
        clear hnum
        go_wp2_with fail
        refine (wnum_any none 0 0 y (j : Int) [] wr (fun _ => True) (RdB.nil _ _ _) (by omega) hy64).mono ?_
        unfold RetNum
        rw [HN.out]
        by_cases hlong : 256 ^ j ≤ y
        · rw [if_pos hlong]
          rintro e w5 ⟨v5, rfl, _, hb5⟩
          have hb' := belowThen hb hb.size hb5
          have hj8' : j < 8 := by
            rcases Nat.lt_or_ge j 8 with h | h
            · exact h
            · have e8 : j = 8 := by omega
              rw [e8] at hlong
              have h8v : 256 ^ 8 = 18446744073709551616 := rfl
              omega
          have hq : 0 < y / 2 ^ (8 * j) := by
            have e2 : 2 ^ (8 * j) = 256 ^ j := by rw [Nat.pow_mul]
            rw [e2]
            exact Nat.div_pos hlong (Nat.pow_pos (by omega))
          have hqi : (((y : Int) / 2 ^ (8 * j)) == 0) = false := by
            have e3 : (y : Int) / 2 ^ (8 * j) = ((y / 2 ^ (8 * j) : Nat) : Int) := by simp
            rw [e3, beq_eq_false_iff_ne]
            omega
          have hji : ((j : Int) == 8) = false := by rw [beq_eq_false_iff_ne]; omega
          clear hlong hb hq
          go_wp2_with fail
          go_roundw
          case rel => exact ⟨j + 1, by omega, by omega, by go_num, hb'⟩
          case measure => simp [intOf]; omega
        · rw [if_neg hlong]
          rintro e w5 ⟨v5, rfl, _, hb5⟩
          have hb' := belowThen hb hb.size hb5
          have hq : y / 2 ^ (8 * j) = 0 := by
            have e2 : 2 ^ (8 * j) = 256 ^ j := by rw [Nat.pow_mul]
            rw [e2]
            exact Nat.div_eq_of_lt (by omega)
          have hqi : (((y : Int) / 2 ^ (8 * j)) == 0) = true := by
            have e3 : (y : Int) / 2 ^ (8 * j) = ((y / 2 ^ (8 * j) : Nat) : Int) := by simp
            rw [e3, hq]
            rfl
          clear hlong hb hq
          by_cases h8 : j = 8
          · subst h8
            clear hqi
            go_wp2_with fail
            go_roundw
            case rel => exact ⟨9, by omega, by omega, by go_num, hb'⟩
            case measure => simp [intOf]
          · have hji : ((j : Int) == 8) = false := by rw [beq_eq_false_iff_ne]; omega
            go_wp2_with fail
            go_roundw
            case rel => exact ⟨j + 1, by omega, by omega, by go_num, hb'⟩
            case measure => simp [intOf]; omega
      · obtain rfl : j = 9 := by omega
        go_wp2_with fail
        refine (awake_calls wr).mono ?_
        rintro e w6 ⟨rfl, hb6⟩
        go_wp2
        go_ret
        exact ⟨rfl, belowThen hb hb.size hb6⟩
end Go.Proofs.Ytljbghgpojdikaa
