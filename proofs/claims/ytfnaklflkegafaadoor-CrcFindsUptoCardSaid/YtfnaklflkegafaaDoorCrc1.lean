/-
  The walks of crc's functions.
-/
import Derived.Test.YtfnaklflkegafaaDoorBase
import Derived.Test.YtfnaklflkegafaaDoorCrcPure
namespace Go.Proofs.YtfnaklflkegafaaDoor
open Go.RowKit

/-- The table lies in the variable's block. -/
def Tab (w : World) : Prop := ∀ i, i < 16 → w.cell? ⟨0, i, none⟩ = some (.int .u32 ((Crc.tab i : Nat) : Int))
theorem Tab.below {w w' : World} (h : Tab w) (hb : Below w.heap.size w w') : Tab w' := fun i hi => cellBelow hb (h i hi)
theorem Tab.drew {w : World} (h : Tab w) : Tab w.drew := h
theorem Tab.drewN {w : World} (h : Tab w) (n : Nat) : Tab (w.drewN n) := h

set_option maxHeartbeats 400000 in
theorem half_calls (x : Nat) (w : World) (hx : x < 4294967296) (ht : Tab w) :
    Calls Tryd.prog 25 #[.int .u32 (x : Int)] w fun e w' => e = .returned (.int .u32 (Crc.half x : Int)) ∧ w = w' := by
  have h1 := ht (x % 16) (by omega)
  have h2 : bits .and .u32 (x : Int) 15 = ((x % 16 : Nat) : Int) := by
    have := u32_and_nat x 15 hx (by omega)
    rw [Nat.and_two_pow_sub_one_eq_mod x 4] at this
    exact this
  have h3 : bits .xor .u32 ((x : Int) / 16) ((Crc.tab (x % 16) : Nat) : Int) = ((Crc.half x : Nat) : Int) := u32_xor_nat (x / 16) _ (by omega) (Crc.tab_lt _)
  have h4 : x % 16 < 16 := by omega
  clear ht
  go_enter Tryd.func25, Tryd.ntmps25
  go_wp2
  go_ret
  exact ⟨rfl, rfl⟩

set_option maxHeartbeats 400000 in
theorem takes_calls (x c : Nat) (w : World) (hx : x < 4294967296) (hc : c < 256) (ht : Tab w) :
    Calls Tryd.prog 22 #[.int .u32 (x : Int), .int .u8 (c : Int)] w fun e w' => e = .returned (.int .u32 (Crc.takes x c : Int)) ∧ w = w' := by
  have h3 : bits .xor .u32 (x : Int) (c : Int) = ((x ^^^ c : Nat) : Int) := u32_xor_nat x c hx (by omega)
  have h4 : x ^^^ c < 4294967296 := Nat.xor_lt_two_pow (n := 32) (by omega) (by omega)
  have h5 := Crc.half_lt _ h4
  go_enter Tryd.func22, Tryd.ntmps22
  go_wp2_with fail
  refine (half_calls (x ^^^ c) _ h4 ht).mono ?_
  rintro e w' ⟨rfl, rfl⟩
  go_wp2_with fail
  refine (half_calls _ _ h5 ht).mono ?_
  rintro e w' ⟨rfl, rfl⟩
  go_wp2
  go_ret
  exact ⟨rfl, rfl⟩

theorem run_snoc (x : Nat) (xs : List UInt8) (b : UInt8) : Crc.run x (xs ++ [b]) = Crc.takes (Crc.run x xs) b.toNat := by rw [Crc.run_append]; rfl
theorem run_next (x : Nat) (xs : List UInt8) (k : Nat) (h : k < xs.length) : Crc.run x (xs.take (k + 1)) = Crc.takes (Crc.run x (xs.take k)) (byt xs k) := by
  rw [List.take_succ_eq_append_getElem h, run_snoc, byt_eq xs k h]
theorem not_u32 (x : Nat) (hx : x < 4294967296) : bits .xor .u32 IntKind.u32.max (x : Int) = ((x ^^^ 4294967295 : Nat) : Int) := by
  rw [show IntKind.u32.max = ((4294967295 : Nat) : Int) by rfl, u32_xor_nat _ x (by omega) hx, Nat.xor_comm]

set_option maxHeartbeats 400000 in
theorem sum_calls (A : Option Addr) (n c : Nat) (xs : List UInt8) (w : World) (ok : Nat → Prop) (hr : RdB w ok A n xs) (ht : Tab w) :
    Calls Tryd.prog 12 #[.slice A n c] w fun e w' => e = .returned (.int .u32 (Crc.sum xs : Int)) ∧ w = w' := by
  have hl := hr.len
  have hm := hr.max
  go_enter Tryd.func12, Tryd.ntmps12
  go_wp2
  go_loop [3, 5, 8] (fun x y i => ∃ k : Nat, k ≤ n ∧ i = .int .i64 k ∧ x = .int .u32 ((Crc.run 4294967295 (xs.take k) : Nat) : Int)) (fun _ _ i => n - (intOf i).toNat)
  case atStart => exact ⟨0, Nat.zero_le _, rfl, rfl⟩
  case round =>
    obtain ⟨k, hk, rfl, rfl⟩ := hrel
    by_cases hlt : k < n
    · obtain ⟨bb, oo, rfl, hck⟩ := hr.at_ k hlt
      have hb := byt_lt xs k
      have hx := Crc.run_lt (xs.take k) 4294967295 (by omega)
      have HS := Lib.hid (run_next 4294967295 xs k (by omega))
      clear hl
      go_wp2_with fail
      refine (takes_calls _ _ _ hx hb ht).mono ?_
      rintro e w' ⟨rfl, rfl⟩
      go_wp2_with fail
      go_round
      case rel => exact ⟨k + 1, by omega, by go_num, by rw [HS.out]⟩
      case measure => simp [intOf]; omega
    · obtain rfl : k = n := by omega
      have hx := Crc.run_lt (xs.take k) 4294967295 (by omega)
      have hk' : xs.take k = xs := List.take_of_length_le (by omega)
      rw [hk'] at hx
      have hn := not_u32 _ hx
      clear hl
      go_wp2
      go_ret
      exact ⟨rfl, rfl⟩

theorem or_join (i x y : Nat) (hx : x < 2 ^ i) : x ||| y * 2 ^ i = x + y * 2 ^ i := by
  rw [Nat.or_comm, nat_join i (y * 2 ^ i) x (by simp) hx, Nat.add_comm]
theorem or_le (a b c d : Nat) (ha : a < 256) (hb : b < 256) (hc : c < 256) (hd : d < 256) :
    bits .or .u32 (bits .or .u32 (bits .or .u32 (a : Int) ((b : Int) * 256)) ((c : Int) * 65536)) ((d : Int) * 16777216) = ((a + 256 * b + 65536 * c + 16777216 * d : Nat) : Int) := by
  have e1 : bits .or .u32 (a : Int) ((b : Int) * 256) = ((a + b * 256 : Nat) : Int) := by
    have := u32_or_nat a (b * 256) (by omega) (by omega)
    rw [or_join 8 a b (by omega)] at this
    exact this
  have e2 : bits .or .u32 ((a + b * 256 : Nat) : Int) ((c : Int) * 65536) = ((a + b * 256 + c * 65536 : Nat) : Int) := by
    have := u32_or_nat (a + b * 256) (c * 65536) (by omega) (by omega)
    rw [or_join 16 (a + b * 256) c (by omega)] at this
    exact this
  have e3 : bits .or .u32 ((a + b * 256 + c * 65536 : Nat) : Int) ((d : Int) * 16777216) = ((a + b * 256 + c * 65536 + d * 16777216 : Nat) : Int) := by
    have := u32_or_nat (a + b * 256 + c * 65536) (d * 16777216) (by omega) (by omega)
    rw [or_join 24 (a + b * 256 + c * 65536) d (by omega)] at this
    exact this
  rw [e1, e2, e3]
  congr 1
  omega

set_option maxHeartbeats 400000 in
theorem number_calls (A : Option Addr) (n c : Nat) (xs : List UInt8) (w : World) (ok : Nat → Prop) (hr : RdB w ok A n xs) (h4 : n = 4) :
    Calls Tryd.prog 24 #[.slice A n c] w fun e w' => e = .returned (.int .u32 (Crc.le xs : Int)) ∧ ∃ k, w' = w.drewN k := by
  subst h4
  obtain ⟨bb, oo, rfl, h0⟩ := hr.at_ 0 (by omega)
  obtain ⟨_, _, e1, h1⟩ := hr.at_ 1 (by omega)
  obtain ⟨_, _, e2, h2⟩ := hr.at_ 2 (by omega)
  obtain ⟨_, _, e3, h3⟩ := hr.at_ 3 (by omega)
  cases e1
  cases e2
  cases e3
  rw [Nat.add_zero] at h0
  have b0 := byt_lt xs 0
  have b1 := byt_lt xs 1
  have b2 := byt_lt xs 2
  have b3 := byt_lt xs 3
  have hle : Crc.le xs = byt xs 0 + 256 * byt xs 1 + 65536 * byt xs 2 + 16777216 * byt xs 3 := by
    have hl := hr.len
    match xs, hl with
    | [p, q, r, s], _ => simp [Crc.le, byt]; omega
  have HL := Lib.hid hle
  have w0 : IntKind.u32.wrap ((byt xs 0 : Nat) : Int) = ((byt xs 0 : Nat) : Int) := IntWalk.u32_in _ ⟨by omega, by omega⟩
  have w1 : IntKind.u32.wrap ((byt xs 1 : Nat) : Int) = ((byt xs 1 : Nat) : Int) := IntWalk.u32_in _ ⟨by omega, by omega⟩
  have w2 : IntKind.u32.wrap ((byt xs 2 : Nat) : Int) = ((byt xs 2 : Nat) : Int) := IntWalk.u32_in _ ⟨by omega, by omega⟩
  have w3 : IntKind.u32.wrap ((byt xs 3 : Nat) : Int) = ((byt xs 3 : Nat) : Int) := IntWalk.u32_in _ ⟨by omega, by omega⟩
  clear hle hr
  go_enter Tryd.func24, Tryd.ntmps24
  go_wp2_with fail
  go_quiet (fail)
  go_wp2
  go_ret
  exact ⟨by rw [HL.out, ← or_le _ _ _ _ b0 b1 b2 b3]; rfl, _, rfl⟩
end Go.Proofs.YtfnaklflkegafaaDoor
