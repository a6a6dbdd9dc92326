/-
  The walk of CrcFinds.
-/
import Derived.Test.YtfnaklflkegafaaDoorCrcSums
namespace Go.Proofs.YtfnaklflkegafaaDoor
open Go.RowKit

set_option maxHeartbeats 3200000 in
theorem crcFinds_walk (w : World) (A : Option Addr) (n c : Nat) (xs : List UInt8) (at_ turn : Nat)
    (hr : RdB w (fun k => k < w.heap.size) A n xs) (_hc : n ≤ c) (hn : n ≤ 1048576) (hat : at_ < 65536) (hturn : turn < 4294967296) (ht : Tab w) :
    Calls Tryd.prog 4 #[.slice A n c, .int .u16 (at_ : Int), .int .u32 (turn : Int)] w fun e w' => e = .returned (.bool true) ∧ Below w.heap.size w w' := by
  have lx := hr.len
  have ls : (Crc.sealed xs).length = n + 4 := by rw [Crc.sealed_length, lx]
  have hx1 : ((strOf xs).toList == (strOf xs).toList) = true := by rw [strOf_beq]; simp
  obtain ⟨bit, hbit⟩ : ∃ bit : Nat, (at_ : Int) % (8 * ((n : Int) + 4) - 31) = (bit : Int) := ⟨((at_ : Int) % (8 * ((n : Int) + 4) - 31)).toNat, by have := Int.emod_nonneg (at_ : Int) (show (8 * ((n : Int) + 4) - 31) ≠ 0 by omega); omega⟩
  have hbl : bit + 32 ≤ 8 * (n + 4) := by have := Int.emod_lt_of_pos (at_ : Int) (show 0 < (8 * ((n : Int) + 4) - 31) by omega); omega
  have hsr := Crc.sealed_right xs
  rw [lx] at hsr
  have htk : (Crc.sealed xs).take n = xs := by rw [Crc.sealed, ← lx, List.take_left]
  have LX := Lib.hid lx
  have LS := Lib.hid ls
  have BT := Lib.hid hbit
  clear lx ls hbit
  go_enter Tryd.func4, Tryd.ntmps4
  go_wp2_with fail
  refine (seal_calls A n c xs w _ hr ht (by omega)).mono ?_
  rintro e w1 ⟨v1, rfl, ho1, hb1⟩
  obtain ⟨A1, k1, e1, hk1, _, r1⟩ := ho1.rd
  subst e1
  rw [LS.out] at r1 hk1 ho1 ⊢
  go_wp2_with fail
  refine (open_good A1 (n + 4) n k1 _ w1 _ r1 rfl hk1 (ht.below hb1) hsr (by omega)).mono ?_
  rintro e w2 ⟨v2, rfl, ho2, hb2⟩
  rw [htk] at ho2
  obtain ⟨A2, k2, rfl, hk2, _, r2⟩ := ho2.rd
  rw [LX.out] at r2 hk2 ⊢
  have hb12 := belowThen hb1 hb1.size hb2
  have cx := conv_string r2 k2
  have cb := conv_string (hr.below hb12) c
  have z12 := hb2.size
  have o1 := ho1.below hb2
  have o1' : OwnB w2 w.heap.size (.slice A1 (Crc.sealed xs).length k1) (Crc.sealed xs) := by rw [LS.out]; exact o1
  obtain ⟨g, kg, eg, hg0, hg2, _, _, _⟩ := o1'.form (by rw [LS.out]; omega)
  rw [LS.out] at eg
  cases eg
  clear ho1 ho2 r1 r2 o1'
  go_wp2_with fail
  rw [BT.out]
  go_loopw [11, 12] (fun i q wr => ∃ (k : Nat) (ts : List UInt8), k ≤ 32 ∧ i = .int .i64 k ∧ ts.length = n + 4 ∧ OwnB wr w.heap.size (.slice (some ⟨g, 0, none⟩) (n + 4) k1) ts ∧ w2.grownBy wr (some g) ∧ Crc.le ts = Crc.le (Crc.sealed xs) ^^^ 2 ^ bit * (turn % 2 ^ k)) (fun i _ _ => 32 - (intOf i).toNat)
  case atStart => exact ⟨0, _, Nat.zero_le _, rfl, LS.out, o1, World.grownBy.refl _ _, by simp [Nat.mod_one]⟩
  case round =>
    obtain ⟨k, ts, hk, rfl, hts, ho, hgr, hle⟩ := hrel
    have HLE := Lib.hid hle
    clear hle cx cb o1
    by_cases hlt : k < 32
    · have ho' : OwnB wr w.heap.size (.slice (some ⟨g, 0, none⟩) ts.length k1) ts := by rw [hts]; exact ho
      obtain ⟨g', cap', e1, _, _, _, hcell, hfz⟩ := ho'.form (by omega)
      cases e1
      have HTS := Lib.hid hts
      obtain ⟨j, hj⟩ : ∃ j, j = (bit + k) / 8 := ⟨_, rfl⟩
      obtain ⟨r, hrr⟩ : ∃ r, r = (bit + k) % 8 := ⟨_, rfl⟩
      have hjr : bit + k = 8 * j + r := by omega
      have j0 : j < ts.length := by omega
      have r8 : r < 8 := by omega
      have cg := hcell j j0
      have fg := hfz j
      have d1 : IntKind.i64.wrap (((bit : Int) + (k : Int)).tdiv 8) = (j : Int) := by
        rw [Int.tdiv_eq_ediv_of_nonneg (by omega), show ((bit : Int) + (k : Int)) / 8 = (j : Int) by omega]
        exact IntWalk.i64_in _ ⟨by omega, by omega⟩
      have d2 : ((bit : Int) + (k : Int)).tmod 8 = (r : Int) := by
        rw [Int.tmod_eq_emod_of_nonneg (by omega)]; omega
      have j1 : (j : Int) < (n : Int) + 4 := by omega
      have j2 : (0 : Int) ≤ (j : Int) := by omega
      have r0 : (0 : Int) ≤ (r : Int) := by omega
      have HJ := Lib.hid hjr
      obtain ⟨b, hb⟩ : ∃ b, b = turn / 2 ^ k % 2 := ⟨_, rfl⟩
      have b2 : b < 2 := by omega
      have d3 : bits .and .u32 ((turn : Int) / 2 ^ k) 1 = (b : Int) := by
        have h1 : ((turn : Int) / 2 ^ k) = ((turn / 2 ^ k : Nat) : Int) := by simp
        have h2 := u32_and_nat (turn / 2 ^ k) 1 (Nat.lt_of_le_of_lt (Nat.div_le_self _ _) hturn) (by omega)
        rw [h1, hb, ← Nat.and_one_is_mod]
        exact h2
      have d4 : ((b : Int)) % 256 = (b : Int) := by omega
      have HB := Lib.hid hb
      clear hts ho hcell hfz hj hrr hjr hb
      go_wp2_with fail
      obtain ⟨u, hu⟩ : ∃ u : UInt8, u = UInt8.ofNat (byt ts j ^^^ (b * 2 ^ r)) := ⟨_, rfl⟩
      have br : b * 2 ^ r < 256 := by
        have h1 : 2 ^ r ≤ 2 ^ 7 := Nat.pow_le_pow_right (by omega) (by omega)
        have h2 : b * 2 ^ r ≤ 1 * 2 ^ r := Nat.mul_le_mul_right _ (by omega)
        omega
      have hut : u.toNat = byt ts j ^^^ (b * 2 ^ r) := by
        rw [hu, UInt8.toNat_ofNat', Nat.mod_eq_of_lt (Nat.xor_lt_two_pow (n := 8) (byt_lt ts j) br)]
      have d5 : bits .xor .u8 ((byt ts j : Nat) : Int) ((b : Int) * 2 ^ r % 256) = ((u.toNat : Nat) : Int) := by
        have h1 : (b : Int) * 2 ^ r % 256 = ((b * 2 ^ r : Nat) : Int) := by
          have : ((b * 2 ^ r : Nat) : Int) = (b : Int) * 2 ^ r := by simp
          omega
        have h2 := u8_xor_nat (byt ts j) (b * 2 ^ r) (byt_lt ts j) br
        rw [h1, hut]
        exact h2
      have HU := Lib.hid hut
      have HLT := Lib.hid (Crc.le_turn ts j r b u j0 hut)
      have hst := ho'.store j u
      have hst' : OwnB (wr.setCell ⟨g, j, none⟩ (.int .u8 (u.toNat : Int))) w.heap.size (.slice (some ⟨g, 0, none⟩) (n + 4) k1) (ts.set j u) ∧ wr.grownBy (wr.setCell ⟨g, j, none⟩ (.int .u8 (u.toNat : Int))) (some g) := by rw [HTS.out] at hst; exact hst
      clear hu hut
      go_region
      clear d1 d2 d3 d4 d5 cg fg
      obtain ⟨hs1, hs2⟩ := hst'
      go_wp2
      go_roundw
      case rel =>
        refine ⟨k + 1, ts.set j u, by omega, by go_num, by rw [List.length_set]; exact HTS.out, hs1.drew, have h := hgr.trans hs2; ⟨h.os, h.tape, h.output, h.size, h.block⟩, ?_⟩
        have := Crc.turn_bit turn k bit
        rw [HLT.out, HLE.out, this, Nat.xor_assoc, ← HJ.out, ← HB.out]
      case measure => simp [intOf]; omega
    · obtain rfl : k = 32 := by omega
      have hle := HLE.out
      have ht32 : turn % 2 ^ 32 = turn := Nat.mod_eq_of_lt hturn
      rw [ht32] at hle
      clear HLE
      have hbr : Below w.heap.size w wr := hb12.grown hgr (by omega) (fun k hk => by injection hk with hk; omega)
      have ho' : OwnB wr w.heap.size (.slice (some ⟨g, 0, none⟩) ts.length k1) ts := by rw [hts]; exact ho
      obtain ⟨A9, k9, e9, _, _, r9⟩ := ho'.rd
      cases e9
      rw [hts] at r9
      have htr := ht.below hbr
      by_cases h0 : turn = 0
      · subst h0
        have hle' : Crc.le ts = Crc.le (Crc.sealed xs) := by rw [hle, Nat.mul_zero, Nat.xor_zero]
        have hts2 : ts = Crc.sealed xs := Crc.le_inj _ _ (by rw [hts, LS.out]) hle'
        subst hts2
        clear hle hle' hgr ho ho'
        go_wp2_with fail
        refine (open_good _ (n + 4) n k1 _ wr _ r9 rfl hk1 htr hsr (by omega)).mono ?_
        rintro e w4 ⟨v4, rfl, ho4, hb4⟩
        rw [htk] at ho4
        obtain ⟨A4, k4, rfl, hk4, _, r4⟩ := ho4.rd
        rw [LX.out] at r4 hk4 ⊢
        have hb4' := belowThen hbr hbr.size hb4
        have cx := conv_string r4 k4
        have cb := conv_string (hr.below hb4') c
        clear ho4 r4 r9
        go_wp2_with fail
        refine (wakes_calls w4 (ht.below hb4')).mono ?_
        rintro e w5 ⟨rfl, hb5⟩
        go_wp2
        go_ret
        exact ⟨rfl, belowThen hb4' hb4'.size hb5⟩
      · have hbad : ¬ Crc.le (ts.drop n) = Crc.sum (ts.take n) := fun h => h0 (Crc.turned_right xs ts bit turn (by rw [hts, LX.out]) hturn (by rw [LX.out]; exact hbl) hle (by rw [LX.out]; exact h))
        have h0' : ((turn : Int) == 0) = false := by rw [beq_eq_false_iff_ne]; omega
        clear hle hgr ho ho' h0
        go_wp2_with fail
        refine (weakD (open_bad _ (n + 4) n k1 ts wr _ r9 rfl hk1 htr hbad)).mono ?_
        rintro e w4 ⟨rfl, hb4⟩
        have hb4' := belowThen hbr hbr.size hb4
        clear r9
        go_wp2_with fail
        refine (wakes_calls w4 (ht.below hb4')).mono ?_
        rintro e w5 ⟨rfl, hb5⟩
        go_wp2
        go_ret
        exact ⟨rfl, belowThen hb4' hb4'.size hb5⟩
end Go.Proofs.YtfnaklflkegafaaDoor
