/-
  The walks of the document's wire: Own, Num.
-/
import Derived.Test.YtljbghgpojdikaaWire1
namespace Go.Proofs.Ytljbghgpojdikaa
open Go.RowKit

theorem own_calls (A : Option Addr) (n c : Nat) (xs : List UInt8) (w : World) (ok : Nat → Prop) (hr : RdB w ok A n xs) (hn : n ≤ 140737488355328) :
    Calls Try.prog 9 #[.slice A n c] w (RetB w xs) := by
  have hn' : ([] : List UInt8).length + n ≤ 140737488355328 := by simpa using hn
  go_enter Try.func9, Try.ntmps9
  go_wp2_with (at_builtin; refine appB w.heap.size w.heap.size rfl _ _ rfl (.slice none 0 0) [] xs A n c rfl rfl (OwnB.nil _ _) hr (Below.refl _ _) (Nat.le_refl _) (Nat.le_refl _) hn' ?_; intro v1 w1 ho1 hb1 _ _)
  go_ret
  exact ⟨_, rfl, by simpa using ho1, hb1⟩

theorem rnum_arg (A : Option Addr) (n c x : Nat) (z : Int) (w : World) (h : z < 1 ∨ 8 < z) :
    Calls Try.prog 11 #[.slice A n c, .int .u64 (x : Int), .int .i64 z] w fun e w' => e = .returned (.tuple #[.slice none 0 0, .int .i64 1]) ∧ w = w' := by
  rcases h with h | h
  · go_enter Try.func11, Try.ntmps11
    go_wp2
    go_ret2
    exact ⟨rfl, rfl⟩
  · have _h0 : ¬ z < 1 := by omega
    go_enter Try.func11, Try.ntmps11
    go_wp2
    go_ret2
    exact ⟨rfl, rfl⟩

/-- What the document's laying has laid after k rounds. -/
def rlaid (xs : List UInt8) (x z k : Nat) : List UInt8 := xs ++ (List.replicate (z - k) 0 ++ Wire.form x k)
theorem rlaid_next (xs : List UInt8) (x z k : Nat) (h : k < z) : (rlaid xs x z k).set (xs.length + (z - 1 - k)) (UInt8.ofNat (x / 256 ^ k)) = rlaid xs x z (k + 1) := by
  have e : z - k = (z - (k + 1)) + 1 := by omega
  have e2 : z - 1 - k = z - (k + 1) := by omega
  rw [rlaid, rlaid, form_cons, e, List.replicate_succ', e2, List.set_append_right _ _ (by simp), List.append_assoc, List.set_append_right _ _ (by simp)]
  simp
theorem rlaid_length (xs : List UInt8) (x z k : Nat) (h : k ≤ z) : (rlaid xs x z k).length = xs.length + z := by
  simp [rlaid, Wire.form_length]; omega

set_option maxHeartbeats 1600000 in
theorem rnum_calls (A : Option Addr) (n c x z : Nat) (xs : List UInt8) (w : World) (ok : Nat → Prop) (hr : RdB w ok A n xs) (hn : n ≤ 140737488351232) (h1 : 1 ≤ z) (h8 : z ≤ 8) (hx : x < 18446744073709551616):
    Calls Try.prog 11 #[.slice A n c, .int .u64 (x : Int), .int .i64 (z : Int)] w (RetNum w xs x (z : Int)) := by
  have _h0 : ¬ (z : Int) < 1 := by omega
  have _h9 : ¬ 8 < (z : Int) := by omega
  have LX := Lib.hid hr.len
  go_enter Try.func11, Try.ntmps11
  go_wp2_with fail
  refine (own_calls A n c xs w ok hr (by omega)).mono ?_
  rintro e w1 ⟨v1, rfl, ho1, hb1⟩
  obtain ⟨A1, c1, rfl, hc1, _, _⟩ := ho1.rd
  rw [LX.out] at hc1 ho1 ⊢
  go_wp2_with fail
  go_loopw [8, 10] (fun v i wr => ∃ k : Nat, k ≤ z ∧ i = .int .i64 k ∧ OwnB wr w.heap.size v (xs ++ List.replicate k 0) ∧ Below w.heap.size w wr) (fun _ i _ => 8 - (intOf i).toNat)
  case atStart => exact ⟨0, Nat.zero_le _, rfl, by simpa using ho1, hb1⟩
  case round =>
    obtain ⟨k, hk, rfl, ho, hb⟩ := hrel
    clear ho1 hb1 hr
    by_cases hlt : k < z
    · have hone : OwnB (wr.alloc (.cells #[.int .u8 0] 5)) w.heap.size (.slice (some ⟨wr.heap.size, 0, none⟩) 1 1) [0] := OwnB.lit wr w.heap.size [0] hb.size (by simp)
      obtain ⟨A2, c2, e2, _, _, hr1⟩ := hone.rd
      cases e2
      have hoa : OwnB (wr.alloc (.cells #[.int .u8 0] 5)) w.heap.size u8 (xs ++ List.replicate k 0) := ho.below ((Below.refl _ _).alloc (Nat.le_refl _) _)
      have hba : Below w.heap.size w (wr.alloc (.cells #[.int .u8 0] 5)) := hb.alloc hb.size _
      have hz : w.heap.size ≤ (wr.alloc (.cells #[.int .u8 0] 5)).heap.size := hba.size
      have hlen : (xs ++ List.replicate k 0).length + 1 ≤ 140737488355328 := by rw [List.length_append, LX.out, List.length_replicate]; omega
      clear hone
      go_wp2_with (at_builtin; go_loud (refine appB w.heap.size w.heap.size rfl _ _ rfl u8 (xs ++ List.replicate k 0) [0] (some ⟨wr.heap.size, 0, none⟩) 1 1 rfl rfl hoa hr1 hba hz (Nat.le_refl _) hlen ?_); intro v2 w2 ho2 hb2 _ _; clear hoa hr1 hba hz)
      go_roundw
      case rel => exact ⟨k + 1, by omega, by go_num, by rw [List.replicate_succ', ← List.append_assoc]; exact ho2, hb2⟩
      case measure => simp [intOf]; omega
    · obtain rfl : z = k := by omega
      have ho' : OwnB wr w.heap.size u8 (rlaid xs x z 0) := by simpa [rlaid, Wire.form] using ho
      have hll := rlaid_length xs x z 0 (by omega)
      rw [LX.out] at hll
      obtain ⟨g, cap, rfl, hg0, hg1, hcap, _, _⟩ := ho'.form (by omega)
      rw [hll] at ho' hcap ⊢
      clear hll ho
      go_wp2_with fail
      rename_i wr0
      go_loopw [1, 11] (fun y i wr => ∃ k : Nat, k ≤ z ∧ i = .int .i64 ((z : Int) - 1 - (k : Int)) ∧ y = .int .u64 ((x / 256 ^ k : Nat) : Int) ∧ OwnB wr w.heap.size (.slice (some ⟨g, 0, none⟩) (n + z) cap) (rlaid xs x z k) ∧ Below w.heap.size w wr) (fun _ i _ => (intOf i + 1).toNat)
      case atStart => exact ⟨0, Nat.zero_le _, by simp, by simp, ho', hb⟩
      case round =>
        obtain ⟨k, hk, rfl, rfl, ho, hb⟩ := hrel
        clear ho'
        by_cases hlt : k < z
        · obtain ⟨j, hj⟩ : ∃ j, j = z - 1 - k := ⟨_, rfl⟩
          have hjk : (z : Int) - 1 - (k : Int) = (j : Int) := by omega
          have hll := rlaid_length xs x z k hk
          rw [LX.out] at hll
          have ho' : OwnB wr w.heap.size (.slice (some ⟨g, 0, none⟩) (rlaid xs x z k).length cap) (rlaid xs x z k) := by rw [hll]; exact ho
          obtain ⟨_, _, e1, _, _, _, hcell, hfz⟩ := ho'.form (by omega)
          cases e1
          rw [hll] at hcell
          have cj := hcell (n + j) (by omega)
          have fj := hfz (n + j)
          have hjn : (n : Int) + (j : Int) < (n : Int) + (z : Int) := by omega
          have hjn0 : (0 : Int) ≤ (n : Int) + (j : Int) := by omega
          have hylt : x / 256 ^ k < 18446744073709551616 := Nat.lt_of_le_of_lt (Nat.div_le_self _ _) hx
          have HD := Lib.hid (show x / 256 ^ (k + 1) = x / 256 ^ k / 256 by rw [Nat.div_div_eq_div_mul, Nat.pow_succ])
          have HS := Lib.hid (rlaid_next xs x z k hlt)
          have hst := (ho'.store (n + j) (UInt8.ofNat (x / 256 ^ k))).1
          rw [UInt8.toNat_ofNat'] at hst
          rw [hll] at hst
          rw [hj] at hst
          rw [LX.out] at HS
          rw [HS.out, ← hj] at hst
          have HJ := Lib.hid hj
          generalize x / 256 ^ k = y at *
          clear hj hll hcell hfz ho ho'
          have hwy : IntKind.u64.wrap ((y : Int) / 256) = (y : Int) / 256 := IntWalk.u64_in _ ⟨by omega, by omega⟩
          have hone : OwnB (wr.setCell ⟨g, n + j, none⟩ (.int .u8 ((y : Int) % 256))) w.heap.size (.slice (some ⟨g, 0, none⟩) (n + z) cap) (rlaid xs x z (k + 1)) := hst
          have hbs : Below w.heap.size w (wr.setCell ⟨g, n + j, none⟩ (.int .u8 ((y : Int) % 256))) := hb.setCell hg0 _
          go_wp2_with fail
          go_roundw
          case rel => exact ⟨k + 1, by omega, by congr 1; omega, by rw [HD.out]; go_num, hone, hbs⟩
          case measure => simp [intOf]; omega
        · obtain rfl : z = k := by omega
          have hfin : rlaid xs x z z = xs ++ Wire.form x z := by simp [rlaid]
          rw [hfin] at ho
          have hm1 : (z : Int) - 1 - (z : Int) = -1 := by omega
          by_cases hx2 : x < 256 ^ z
          · have hnum : Wire.numOf xs x (z : Int) = (xs ++ Wire.form x z, 0) := by
              rw [Wire.numOf, if_neg (by omega), if_neg (by simpa using hx2)]; rfl
            have HN := Lib.hid hnum
            have hq : x / 256 ^ z = 0 := Nat.div_eq_of_lt hx2
            rw [hq]
            clear hnum hq hx2 hfin
            go_wp2_with fail
            go_ret2
            unfold RetNum
            rw [HN.out]
            exact ⟨_, rfl, ho, hb⟩
          · have hnum : Wire.numOf xs x (z : Int) = ([], 3) := by
              rw [Wire.numOf, if_neg (by omega), if_pos (by simpa using hx2)]
            have HN := Lib.hid hnum
            have hq : 0 < x / 256 ^ z := Nat.div_pos (by omega) (Nat.pow_pos (by omega))
            generalize x / 256 ^ z = q at *
            have hq' : ((q : Int) != 0) = true := by rw [bne_iff_ne]; omega
            clear hnum hq hx2 hfin
            go_wp2_with fail
            go_ret2
            unfold RetNum
            rw [HN.out]
            exact ⟨_, rfl, OwnB.nil _ _, hb⟩
theorem rnum_any (A : Option Addr) (n c x : Nat) (z : Int) (xs : List UInt8) (w : World) (ok : Nat → Prop) (hr : RdB w ok A n xs) (hn : n ≤ 140737488351232) (hx : x < 18446744073709551616) :
    Calls Try.prog 11 #[.slice A n c, .int .u64 (x : Int), .int .i64 z] w (RetNum w xs x z) := by
  by_cases h : z < 1 ∨ 8 < z
  · refine (rnum_arg A n c x z w h).mono ?_
    rintro e w1 ⟨rfl, rfl⟩
    unfold RetNum
    rw [Wire.numOf, if_pos h]
    exact ⟨_, rfl, OwnB.nil _ _, Below.refl _ _⟩
  · have := rnum_calls A n c x z.toNat xs w ok hr hn (by omega) (by omega) hx
    rwa [Int.toNat_of_nonneg (by omega)] at this
end Go.Proofs.Ytljbghgpojdikaa
