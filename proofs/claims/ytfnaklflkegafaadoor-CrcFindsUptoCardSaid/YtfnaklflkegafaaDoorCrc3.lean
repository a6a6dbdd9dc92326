/-
  The walks of the document's crc.
-/
import Derived.Test.YtfnaklflkegafaaDoorCrc2
namespace Go.Proofs.YtfnaklflkegafaaDoor
open Go.RowKit

theorem stpN_snoc (k x : Nat) : Crc.stpN (k + 1) x = Crc.stp (Crc.stpN k x) := by rw [Crc.stpN_add]; rfl

set_option maxHeartbeats 400000 in
theorem refTake_calls (x c : Nat) (w : World) (hx : x < 4294967296) (hc : c < 256) :
    Calls Tryd.prog 23 #[.int .u32 (x : Int), .int .u8 (c : Int)] w fun e w' => e = .returned (.int .u32 (Crc.takes x c : Int)) ∧ w = w' := by
  have h3 : bits .xor .u32 (x : Int) (c : Int) = ((x ^^^ c : Nat) : Int) := u32_xor_nat x c hx (by omega)
  have h4 : x ^^^ c < 4294967296 := Nat.xor_lt_two_pow (n := 32) (by omega) (by omega)
  have HT := Lib.hid (Crc.takes_stp x c)
  go_enter Tryd.func23, Tryd.ntmps23
  go_wp2
  clear h3
  generalize x ^^^ c = y0 at *
  go_loop [0, 5, 6] (fun x i f => ∃ k : Nat, k ≤ 8 ∧ i = .int .i64 k ∧ x = .int .u32 ((Crc.stpN k y0 : Nat) : Int)) (fun _ i _ => 8 - (intOf i).toNat)
  case atStart => exact ⟨0, Nat.zero_le _, rfl, rfl⟩
  case round =>
    obtain ⟨k, hk, rfl, rfl⟩ := hrel
    have hy := Crc.stpN_lt k y0 h4
    by_cases hlt : k < 8
    · have HS := Lib.hid (stpN_snoc k y0)
      generalize Crc.stpN k y0 = y at *
      by_cases hodd : y % 2 = 1
      · have ht : ((y : Int) % 2 == 1) = true := by rw [beq_iff_eq]; omega
        have hb : bits .xor .u32 ((y : Int) / 2) 3988292384 = ((Crc.stp y : Nat) : Int) := by
          have := u32_xor_nat (y / 2) 3988292384 (by omega) (by omega)
          rw [Crc.stp, if_pos hodd]
          exact this
        clear hodd
        go_wp2
        go_round
        case rel => exact ⟨k + 1, by omega, by go_num, by rw [HS.out]⟩
        case measure => simp [intOf]; omega
      · have ht : ((y : Int) % 2 == 1) = false := by rw [beq_eq_false_iff_ne]; omega
        have hb : Crc.stp y = y / 2 := by rw [Crc.stp, if_neg hodd, Nat.xor_zero]
        have Hb := Lib.hid hb
        clear hodd hb
        go_wp2
        go_round
        case rel => exact ⟨k + 1, by omega, by go_num, by rw [HS.out, Hb.out]; rfl⟩
        case measure => simp [intOf]; omega
    · obtain rfl : k = 8 := by omega
      go_wp2
      go_ret
      exact ⟨by rw [HT.out]; rfl, rfl⟩

set_option maxHeartbeats 400000 in
theorem refSum_calls (A : Option Addr) (n c : Nat) (xs : List UInt8) (w : World) (ok : Nat → Prop) (hr : RdB w ok A n xs) :
    Calls Tryd.prog 13 #[.slice A n c] w fun e w' => e = .returned (.int .u32 (Crc.sum xs : Int)) ∧ w = w' := by
  have hl := hr.len
  have hm := hr.max
  go_enter Tryd.func13, Tryd.ntmps13
  go_wp2
  go_loop [3, 4] (fun x i => ∃ k : Nat, k ≤ n ∧ i = .int .i64 k ∧ x = .int .u32 ((Crc.run 4294967295 (xs.take k) : Nat) : Int)) (fun _ i => n - (intOf i).toNat)
  case atStart => exact ⟨0, Nat.zero_le _, rfl, rfl⟩
  case round =>
    obtain ⟨k, hk, rfl, rfl⟩ := hrel
    by_cases hlt : k < n
    · obtain ⟨bb, oo, rfl, hck⟩ := hr.at_ k hlt
      have hb := byt_lt xs k
      have hx := Crc.run_lt (xs.take k) 4294967295 (by omega)
      have HS := Lib.hid (run_next 4294967295 xs k (by omega))
      clear hl
      go_wp2_with fail
      refine (refTake_calls _ _ _ hx hb).mono ?_
      rintro e w' ⟨rfl, rfl⟩
      go_wp2_with fail
      go_round
      case rel => exact ⟨k + 1, by omega, by go_num, by rw [HS.out]⟩
      case measure => simp [intOf]; omega
    · obtain rfl : k = n := by omega
      have hx := Crc.run_lt (xs.take k) 4294967295 (by omega)
      have hk' : xs.take k = xs := List.take_of_length_le (by omega)
      rw [hk'] at hx
      have hn := u32_xor_nat (Crc.run 4294967295 xs) 4294967295 hx (by omega)
      have hn' : bits .xor .u32 ((Crc.run 4294967295 xs : Nat) : Int) 4294967295 = ((Crc.sum xs : Nat) : Int) := hn
      clear hl hn
      go_wp2
      go_ret
      exact ⟨rfl, rfl⟩

/-- The first k of a number's bytes, the lowest first. -/
def lo4 (x : Nat) : Nat → List UInt8
  | 0 => []
  | k + 1 => UInt8.ofNat x :: lo4 (x / 256) k
theorem lo4_four (x : Nat) : lo4 x 4 = Crc.four x := by simp [lo4, Crc.four, Nat.div_div_eq_div_mul]
theorem lo4_length (k : Nat) : ∀ x, (lo4 x k).length = k := by
  induction k with
  | zero => intro x; rfl
  | succ k ih => intro x; simp [lo4, ih]
theorem lo4_snoc (k : Nat) : ∀ x, lo4 x (k + 1) = lo4 x k ++ [UInt8.ofNat (x / 256 ^ k)] := by
  induction k with
  | zero => intro x; simp [lo4]
  | succ k ih =>
    intro x
    have h := ih (x / 256)
    rw [lo4, h, lo4, Nat.div_div_eq_div_mul, Nat.pow_succ, Nat.mul_comm 256]
    rfl

set_option maxHeartbeats 800000 in
theorem refSeal_calls (A : Option Addr) (n c : Nat) (xs : List UInt8) (w : World) (ok : Nat → Prop) (hr : RdB w ok A n xs) (hn : n ≤ 140737488351232) :
    Calls Tryd.prog 14 #[.slice A n c] w (RetB w (Crc.sealed xs)) := by
  have hl := Lib.hid hr.len
  have hsum := Crc.sum_lt xs
  have HE := Lib.hid (show Crc.sealed xs = xs ++ lo4 (Crc.sum xs) 4 by rw [lo4_four]; rfl)
  go_enter Tryd.func14, Tryd.ntmps14
  go_wp2_with fail
  refine (refSum_calls A n c xs w ok hr).mono ?_
  rintro e w1 ⟨rfl, rfl⟩
  have hn' : ([] : List UInt8).length + n ≤ 140737488355328 := by simp; omega
  go_wp2_with (at_builtin; refine appB w.heap.size w.heap.size rfl _ _ rfl (.slice none 0 0) [] xs A n c rfl rfl (OwnB.nil _ _) hr (Below.refl _ _) (Nat.le_refl _) (Nat.le_refl _) hn' ?_; intro v1 w1 ho1 hb1 _ _)
  generalize Crc.sum xs = S at *
  go_loopw [3, 4, 5] (fun s v i wr => ∃ k : Nat, k ≤ 4 ∧ i = .int .i64 k ∧ s = .int .u32 ((S / 256 ^ k : Nat) : Int) ∧ OwnB wr w.heap.size v (xs ++ lo4 S k) ∧ Below w.heap.size w wr) (fun _ _ i _ => 4 - (intOf i).toNat)
  case atStart => exact ⟨0, Nat.zero_le _, rfl, by simp, by simpa [lo4] using ho1, hb1⟩
  case round =>
    obtain ⟨k, hk, rfl, rfl, ho, hb⟩ := hrel
    clear ho1 hb1 hr
    by_cases hlt : k < 4
    · have hy : S / 256 ^ k < 4294967296 := Nat.lt_of_le_of_lt (Nat.div_le_self _ _) hsum
      have HS := Lib.hid (lo4_snoc k S)
      have HD := Lib.hid (show S / 256 ^ (k + 1) = S / 256 ^ k / 256 by rw [Nat.div_div_eq_div_mul, Nat.pow_succ])
      generalize S / 256 ^ k = y at *
      have hone : OwnB (wr.alloc (.cells #[.int .u8 ((y : Int) % 256)] 5)) w.heap.size (.slice (some ⟨wr.heap.size, 0, none⟩) 1 1) [UInt8.ofNat y] := by
        have h := OwnB.lit wr w.heap.size [UInt8.ofNat y] hb.size (by simp)
        simpa [bvals, UInt8.toNat_ofNat'] using h
      obtain ⟨A1, c1, e1, _, _, hr1⟩ := hone.rd
      cases e1
      have hoa : OwnB (wr.alloc (.cells #[.int .u8 ((y : Int) % 256)] 5)) w.heap.size u4 (xs ++ lo4 S k) := ho.below ((Below.refl _ _).alloc (Nat.le_refl _) _)
      have hba : Below w.heap.size w (wr.alloc (.cells #[.int .u8 ((y : Int) % 256)] 5)) := hb.alloc hb.size _
      have hz : w.heap.size ≤ (wr.alloc (.cells #[.int .u8 ((y : Int) % 256)] 5)).heap.size := hba.size
      have hlen : (xs ++ lo4 S k).length + 1 ≤ 140737488355328 := by rw [List.length_append, hl.out, lo4_length]; omega
      clear hone
      go_wp2_with (at_builtin; go_loud (refine appB w.heap.size w.heap.size rfl _ _ rfl u4 (xs ++ lo4 S k) [UInt8.ofNat y] (some ⟨wr.heap.size, 0, none⟩) 1 1 rfl rfl hoa hr1 hba hz (Nat.le_refl _) hlen ?_); intro v2 w2 ho2 hb2 _ _; clear hoa hr1 hba hz)
      go_roundw
      case rel => exact ⟨k + 1, by omega, by go_num, by rw [HD.out]; rfl, by rw [HS.out, ← List.append_assoc]; exact ho2, hb2⟩
      case measure => simp [intOf]; omega
    · obtain rfl : k = 4 := by omega
      go_wp2
      go_ret
      exact ⟨_, rfl, by rw [HE.out]; exact ho, hb⟩
end Go.Proofs.YtfnaklflkegafaaDoor
