/-
  The walks of the document's Open; of both Joins; of the chapter's rows.
-/
import Derived.Test.YtfnaklflkegafaaDoorCrc3
namespace Go.Proofs.YtfnaklflkegafaaDoor
open Go.RowKit

theorem refOpen_short (A : Option Addr) (n c : Nat) (w : World) (h4 : n < 4) :
    Calls Tryd.prog 16 #[.slice A n c] w fun e w' => e = .returned (.tuple #[.slice none 0 0, .int .i64 4]) ∧ w = w' := by
  go_enter Tryd.func16, Tryd.ntmps16
  go_wp2
  go_ret2
  exact ⟨rfl, rfl⟩

set_option maxHeartbeats 1600000 in
theorem refOpen_bad (A : Option Addr) (n m c : Nat) (xs : List UInt8) (w : World) (ok : Nat → Prop) (hr : RdB w ok A n xs) (hnm : n = m + 4) (hc : n ≤ c) (hn : m ≤ 140737488351232) (hs : Crc.sealed (xs.take m) ≠ xs) :
    Calls Tryd.prog 16 #[.slice A n c] w fun e w' => e = .returned (.tuple #[.slice none 0 0, .int .i64 20]) ∧ Below w.heap.size w w' := by
  subst hnm
  obtain ⟨A2, k2, r2⟩ := cutTo_run A (m + 4) c m (by omega) hc
  have h2 := r2 w ok xs hr
  have hm := hr.max
  have hne : ((strOf (Crc.sealed (xs.take m))).toList == (strOf xs).toList) = false := by rw [strOf_beq]; exact decide_eq_false hs
  clear r2 hs
  have hpre := conv_string hr.drew c
  go_enter Tryd.func16, Tryd.ntmps16
  go_wp2_with fail
  go_region_with ((go_at_call 14; refine (refSeal_calls _ _ _ _ _ ok h2.drew hn).mono ?_; rintro e w1 ⟨v1, rfl, ho1, hb1⟩; obtain ⟨A1, c1, rfl, _, _, hr1⟩ := ho1.rd; have hcv := conv_string hr1 c1; have hpost := conv_string (hr.drew.below hb1) c))
  all_goals
    have hbw : Below w.heap.size w w1 := (Below.refl _ _).drew.trans hb1
    clear hcv hpost hpre
    go_wp2
    go_ret2
    exact ⟨rfl, hbw⟩

set_option maxHeartbeats 1600000 in
theorem refOpen_good (A : Option Addr) (n m c : Nat) (xs : List UInt8) (w : World) (ok : Nat → Prop) (hr : RdB w ok A n xs) (hnm : n = m + 4) (hc : n ≤ c) (hn : m ≤ 140737488351232) (hs : Crc.sealed (xs.take m) = xs) :
    Calls Tryd.prog 16 #[.slice A n c] w (RetOpen w (xs.take m)) := by
  subst hnm
  obtain ⟨A2, k2, r2⟩ := cutTo_run A (m + 4) c m (by omega) hc
  have h2 := r2 w ok xs hr
  have hm := hr.max
  have hne : ((strOf (Crc.sealed (xs.take m))).toList == (strOf xs).toList) = true := by rw [strOf_beq]; exact decide_eq_true hs
  clear r2 hs
  have hpre := conv_string hr.drew c
  have hn' : ([] : List UInt8).length + m ≤ 140737488355328 := by simp; omega
  go_enter Tryd.func16, Tryd.ntmps16
  go_wp2_with fail
  go_region_with ((go_at_call 14; refine (refSeal_calls _ _ _ _ _ ok h2.drew hn).mono ?_; rintro e w1 ⟨v1, rfl, ho1, hb1⟩; obtain ⟨A1, c1, rfl, _, _, hr1⟩ := ho1.rd; have hcv := conv_string hr1 c1; have hpost := conv_string (hr.drew.below hb1) c))
  all_goals
    have hbw : Below w.heap.size w w1 := (Below.refl _ _).drew.trans hb1
    have h21 := h2.below ((Below.refl _ _).drew.trans hb1)
    have hz := hbw.size
    clear hcv hpost hpre hr1 ho1
    go_wp2_with (at_builtin; refine appB w.heap.size w.heap.size rfl _ _ rfl (.slice none 0 0) [] (xs.take m) A2 m c rfl rfl (OwnB.nil _ _) h21 hbw hz (Nat.le_refl _) hn' ?_; intro v2 w2 ho2 hb2 _ _)
    go_ret2
    exact ⟨_, rfl, ho2, hb2⟩

/-! ### Join -/
theorem stpN_8 (k a : Nat) : Crc.stpN (8 * (k + 1)) a = Crc.takes (Crc.stpN (8 * k) a) 0 := by rw [Crc.takes_stp, Nat.xor_zero, ← Crc.stpN_add]; rfl
theorem join_bad (a b : Nat) (n : Int) (w : World) (h : n < 0 ∨ 1048576 < n) :
    Calls Tryd.prog 18 #[.int .u32 (a : Int), .int .u32 (b : Int), .int .i64 n] w fun e w' => e = .returned (.tuple #[.int .u32 0, .int .i64 1]) ∧ w = w' := by
  rcases h with h | h
  · go_enter Tryd.func18, Tryd.ntmps18
    go_wp2
    go_ret2
    exact ⟨rfl, rfl⟩
  · have h0 : ¬ n < 0 := by omega
    go_enter Tryd.func18, Tryd.ntmps18
    go_wp2
    go_ret2
    exact ⟨rfl, rfl⟩
set_option maxHeartbeats 400000 in
theorem join_good (a b n : Nat) (w : World) (ha : a < 4294967296) (hb : b < 4294967296) (hn : n ≤ 1048576) (ht : Tab w) :
    Calls Tryd.prog 18 #[.int .u32 (a : Int), .int .u32 (b : Int), .int .i64 (n : Int)] w fun e w' => e = .returned (.tuple #[.int .u32 (Crc.join a b n : Int), .int .i64 0]) ∧ w = w' := by
  have hj := u32_xor_nat (Crc.stpN (8 * n) a) b (Crc.stpN_lt _ _ ha) hb
  have HJ := Lib.hid (show bits .xor .u32 ((Crc.stpN (8 * n) a : Nat) : Int) (b : Int) = ((Crc.join a b n : Nat) : Int) from hj)
  clear hj
  go_enter Tryd.func18, Tryd.ntmps18
  go_wp2
  go_loop [0, 15] (fun x i => ∃ k : Nat, k ≤ n ∧ i = .int .i64 k ∧ x = .int .u32 ((Crc.stpN (8 * k) a : Nat) : Int)) (fun _ i => n - (intOf i).toNat)
  case atStart => exact ⟨0, Nat.zero_le _, rfl, rfl⟩
  case round =>
    obtain ⟨k, hk, rfl, rfl⟩ := hrel
    have hx := Crc.stpN_lt (8 * k) a ha
    by_cases hlt : k < n
    · have HS := Lib.hid (stpN_8 k a)
      go_wp2_with fail
      refine (takes_calls _ 0 _ hx (by omega) ht).mono ?_
      rintro e w' ⟨rfl, rfl⟩
      go_wp2_with fail
      go_round
      case rel => exact ⟨k + 1, by omega, by go_num, by rw [HS.out]⟩
      case measure => simp [intOf]; omega
    · obtain rfl : k = n := by omega
      go_wp2
      go_ret2
      exact ⟨by rw [← HJ.out]; rfl, rfl⟩
theorem refJoin_bad (a b : Nat) (n : Int) (w : World) (h : n < 0 ∨ 1048576 < n) :
    Calls Tryd.prog 19 #[.int .u32 (a : Int), .int .u32 (b : Int), .int .i64 n] w fun e w' => e = .returned (.tuple #[.int .u32 0, .int .i64 1]) ∧ w = w' := by
  rcases h with h | h
  · go_enter Tryd.func19, Tryd.ntmps19
    go_wp2
    go_ret2
    exact ⟨rfl, rfl⟩
  · have h0 : ¬ n < 0 := by omega
    go_enter Tryd.func19, Tryd.ntmps19
    go_wp2
    go_ret2
    exact ⟨rfl, rfl⟩
set_option maxHeartbeats 400000 in
theorem refJoin_good (a b n : Nat) (w : World) (ha : a < 4294967296) (hb : b < 4294967296) (hn : n ≤ 1048576) :
    Calls Tryd.prog 19 #[.int .u32 (a : Int), .int .u32 (b : Int), .int .i64 (n : Int)] w fun e w' => e = .returned (.tuple #[.int .u32 (Crc.join a b n : Int), .int .i64 0]) ∧ w = w' := by
  have hj := u32_xor_nat (Crc.stpN (8 * n) a) b (Crc.stpN_lt _ _ ha) hb
  have HJ := Lib.hid (show bits .xor .u32 ((Crc.stpN (8 * n) a : Nat) : Int) (b : Int) = ((Crc.join a b n : Nat) : Int) from hj)
  clear hj
  go_enter Tryd.func19, Tryd.ntmps19
  go_wp2
  go_loop [0, 8] (fun x i => ∃ k : Nat, k ≤ n ∧ i = .int .i64 k ∧ x = .int .u32 ((Crc.stpN (8 * k) a : Nat) : Int)) (fun _ i => n - (intOf i).toNat)
  case atStart => exact ⟨0, Nat.zero_le _, rfl, rfl⟩
  case round =>
    obtain ⟨k, hk, rfl, rfl⟩ := hrel
    have hx := Crc.stpN_lt (8 * k) a ha
    by_cases hlt : k < n
    · have HS := Lib.hid (stpN_8 k a)
      go_wp2_with fail
      refine (refTake_calls _ 0 _ hx (by omega)).mono ?_
      rintro e w' ⟨rfl, rfl⟩
      go_wp2_with fail
      go_round
      case rel => exact ⟨k + 1, by omega, by go_num, by rw [HS.out]⟩
      case measure => simp [intOf]; omega
    · obtain rfl : k = n := by omega
      go_wp2
      go_ret2
      exact ⟨by rw [← HJ.out]; rfl, rfl⟩
end Go.Proofs.YtfnaklflkegafaaDoor
