/-
  The walk of WireLays.
-/
import Derived.Test.YtljbghgpojdikaaWire4
namespace Go.Proofs.Ytljbghgpojdikaa
open Go.RowKit

theorem not8 (x : Nat) (h : x < 256) : bits .xor .u8 (x : Int) 255 = ((x ^^^ 255 : Nat) : Int) := u8_xor_nat x 255 h (by omega)
theorem numOf_length (xs : List UInt8) (x : Nat) (z : Int) : (Wire.numOf xs x z).1.length ≤ xs.length + 8 := by
  unfold Wire.numOf
  split
  · simp
  · split
    · simp
    · simp [Wire.form_length]; omega

set_option maxHeartbeats 3200000 in
theorem wireLays_walk (w : World) (A : Option Addr) (n c : Nat) (xs : List UInt8) (m : Nat) (z : Int)
    (hr : RdB w (fun k => k < w.heap.size) A n xs) (_hc : n ≤ c) (hn : n ≤ 1048576) (hm : m < 18446744073709551616) (_h1 : -9223372036854775808 ≤ z) (_h2 : z ≤ 9223372036854775807) :
    Calls Try.prog 3 #[.slice A n c, .int .u64 (m : Int), .int .i64 z] w fun e w' => e = .returned (.bool true) ∧ Below w.heap.size w w' := by
  have LX := Lib.hid hr.len
  have hnl := numOf_length xs m z
  rw [hr.len] at hnl
  go_enter Try.func3, Try.ntmps3
  go_wp2_with fail
  refine (own_calls A n c xs w _ hr (by omega)).mono ?_
  rintro e w1 ⟨v1, rfl, ho1, hb1⟩
  obtain ⟨A1, k1, rfl, _, _, r1⟩ := ho1.rd
  rw [LX.out] at r1 ⊢
  have r1' : RdB w1 (fun k => k < w1.heap.size) A1 n xs := r1.mono fun k _ hl => hl
  clear ho1 r1
  go_wp2_with fail
  refine (wnum_any A1 n k1 m z xs w1 _ r1' (by omega) hm).mono ?_
  rintro e w2 ⟨v2, rfl, ho2, hb2⟩
  have hb12 := belowThen hb1 hb1.size hb2
  go_wp2_with fail
  refine (rnum_any A n c m z xs w2 _ (hr.below hb12) (by omega) hm).mono ?_
  rintro e w3 ⟨v3, rfl, ho3, hb3⟩
  have hb13 := belowThen hb12 hb12.size hb3
  have he : ((Wire.numOf xs m z).2 == (Wire.numOf xs m z).2) = true := by simp
  generalize (Wire.numOf xs m z).2 = er at *
  generalize (Wire.numOf xs m z).1 = zs at *
  have x3 := ho2.below hb3
  obtain ⟨A2, k2, rfl, hk2, _, r2⟩ := x3.rd
  obtain ⟨A3, k3, rfl, _, _, r3⟩ := ho3.rd
  obtain ⟨L, hL⟩ : ∃ L, zs.length = L := ⟨_, rfl⟩
  have HL := Lib.hid hL
  rw [hL] at r2 r3 hnl hk2 x3 ⊢
  clear ho2 ho3 hb12
  go_wp2_with fail
  refine (equal_calls A2 A3 L k2 L k3 zs zs w3 _ _ r2 r3).mono ?_
  rintro e w4 ⟨rfl, rfl⟩
  have r13 := (r1'.below hb2).below hb3
  have z12 := hb2.size
  have z23 := hb3.size
  have hdd : decide (zs = zs) = true := by simp
  rw [hdd]
  clear r2 r3 hdd hL r1'
  go_wp2_with fail
  go_loopw [35] (fun i wr => ∃ (k : Nat) (ts : List UInt8), k ≤ L ∧ i = .int .i64 k ∧ ts.length = L ∧ OwnB wr w1.heap.size (.slice A2 L k2) ts ∧ w3.grownBy wr (Value.slice A2 L k2).ownBlock) (fun i _ => L - (intOf i).toNat)
  case atStart => exact ⟨0, _, Nat.zero_le _, rfl, HL.out, x3, World.grownBy.refl _ _⟩
  case round =>
    obtain ⟨k, ts, hk, rfl, hts, ho, hgr⟩ := hrel
    by_cases hlt : k < L
    · have ho' : OwnB wr w1.heap.size (.slice A2 ts.length k2) ts := by rw [hts]; exact ho
      obtain ⟨g', cap', e1, _, _, _, hcell, hfz⟩ := ho'.form (by omega)
      rw [hts] at e1
      cases e1
      have cg := hcell k (by omega)
      have fg := hfz k
      have x1 := not8 (byt ts k) (byt_lt _ _)
      have hst := ho'.store k ((ts[k]?.getD 0) ^^^ 255)
      rw [UInt8.toNat_xor] at hst
      have hst1 : OwnB (wr.setCell ⟨g', k, none⟩ (.int .u8 ((byt ts k ^^^ 255 : Nat) : Int))) w1.heap.size (.slice (some ⟨g', 0, none⟩) L k2) (ts.set k ((ts[k]?.getD 0) ^^^ 255)) := by
        have h := hst.1
        unfold OwnB at h ⊢
        rw [List.length_set, hts] at h
        rw [List.length_set, hts]
        exact h
      have hst2 : w3.grownBy (wr.setCell ⟨g', k, none⟩ (.int .u8 ((byt ts k ^^^ 255 : Nat) : Int))) (some g') := World.grownBy.trans hgr hst.2
      have hts2 : (ts.set k ((ts[k]?.getD 0) ^^^ 255)).length = L := by rw [List.length_set]; exact hts
      clear hst hcell hfz ho' ho hts x3
      go_wp2
      go_roundw
      case rel => exact ⟨k + 1, _, by omega, by go_num, hts2, hst1, hst2⟩
      case measure => simp [intOf]; omega
    · have hbl : ∀ q, (Value.slice A2 L k2).ownBlock = some q → w1.heap.size ≤ q := fun q hq => (ho.lt q hq).1
      have f1 := r13.grown hgr (fun q hq he => by have := hbl q he.symm; omega)
      have hb8 : Below w.heap.size w wr := hb13.grown hgr hb13.size (fun q hq => by have := hbl q hq; have := hb1.size; omega)
      clear ho hgr x3 r13
      go_wp2_with fail
      refine (awake_calls wr).mono ?_
      rintro e w9 ⟨rfl, hb9⟩
      have hb10 := belowThen hb8 hb8.size hb9
      go_wp2_with fail
      refine (equal_calls A1 A n k1 n c xs xs w9 _ _ (f1.below hb9) (hr.below hb10)).mono ?_
      rintro e w10 ⟨rfl, rfl⟩
      have hdd : decide (xs = xs) = true := by simp
      rw [hdd]
      go_wp2
      go_ret
      exact ⟨rfl, hb10⟩
end Go.Proofs.Ytljbghgpojdikaa
