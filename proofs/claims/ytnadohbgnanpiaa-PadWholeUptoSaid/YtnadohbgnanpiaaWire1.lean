/-
  The walk of wire.Num.
-/
import Derived.Test.YtnadohbgnanpiaaBytes
import Derived.Test.YtnadohbgnanpiaaWirePure
namespace Go.Proofs.Ytnadohbgnanpiaa
open Go.RowKit

set_option maxHeartbeats 1600000 in
theorem wnum_arg (A : Option Addr) (n c x : Nat) (z : Int) (w : World) (h : z < 1 ∨ 8 < z) :
    Calls Try.prog 21 #[.slice A n c, .int .u64 (x : Int), .int .i64 z] w fun e w' => e = .returned (.tuple #[.slice none 0 0, .int .i64 1]) ∧ w = w' := by
  rcases h with h | h
  · go_enter Try.func21, Try.ntmps21
    go_wp2
    go_ret2
    exact ⟨rfl, rfl⟩
  · have _h0 : ¬ z < 1 := by omega
    go_enter Try.func21, Try.ntmps21
    go_wp2
    go_ret2
    exact ⟨rfl, rfl⟩
/-- The eight bytes of a number being laid, in their array. -/
def Arr8 (w : World) (base g : Nat) (xs : List UInt8) : Prop := w.ownsRow base 74 1 (.slice (some ⟨g, 0, none⟩) xs.length 8) xs.length (bvals xs)
section
variable {w w' : World} {base g : Nat} {xs : List UInt8}
theorem Arr8.drew (h : Arr8 w base g xs) : Arr8 w.drew base g xs := h
theorem Arr8.form (h : Arr8 w base g xs) (_h0 : 0 < xs.length) : base ≤ g ∧ g < w.heap.size ∧
    (∀ j, j < xs.length → w.cell? ⟨g, j, none⟩ = some (.int .u8 (byt xs j : Int))) ∧ ∀ j, w.frozen? ⟨g, j, none⟩ = false := by
  rcases h.2 with ⟨h1, _⟩ | ⟨g', cap, cur, e, hb, hg, hn, hm, hc, ht⟩
  · cases h1
  · cases e
    refine ⟨hb, (Array.getElem?_eq_some_iff.1 hg).1, fun j hj => ?_, fun j => by simp [World.frozen?, hg]⟩
    have := World.ownsRow.cells h (g := g) rfl j _ (bvals_get xs j hj)
    rwa [addPlain, Nat.zero_add] at this
theorem Arr8.store (h : Arr8 w base g xs) (j : Nat) (u : UInt8) :
    Arr8 (w.setCell ⟨g, j, none⟩ (.int .u8 (u.toNat : Int))) base g (xs.set j u) ∧ w.grownBy (w.setCell ⟨g, j, none⟩ (.int .u8 (u.toNat : Int))) (some g) := by
  have hs := World.ownsRow.stored h j (.int .u8 (u.toNat : Int))
  have he : (bvals xs).set j (.int .u8 (u.toNat : Int)) = bvals (xs.set j u) := by simp [bvals, List.map_set]
  rw [he] at hs
  exact ⟨by unfold Arr8; rw [List.length_set]; exact hs.1, hs.2⟩
theorem Arr8.rd (h : Arr8 w base g xs) (h0 : 0 < xs.length) : RdB w (fun k => k = g) (some ⟨g, 0, none⟩) xs.length xs := by
  obtain ⟨hb, hl, hc, _⟩ := h.form h0
  refine ⟨rfl, ?_, fun _ => ⟨⟨g, 0, none⟩, rfl, rfl, hl, rfl, fun j hj => by rw [addPlain, Nat.zero_add]; exact hc j hj⟩⟩
  rcases h.2 with ⟨h1, _⟩ | ⟨g', cap, cur, e, _, hg, hn, hm, _, _⟩
  · cases h1
  · simp only [maxLen] at hm; omega
theorem Arr8.lit (w : World) (base : Nat) (xs : List UInt8) (hb : base ≤ w.heap.size) (hm : xs.length = 8) :
    Arr8 (w.alloc (.cells (bvals xs).toArray 74)) base w.heap.size xs := by
  have h := World.ownsRow_lit (base := base) (e := 74) (size := 1) w (bvals xs).toArray xs.length hb (by simp [maxLen]; omega) (by simp [bvals])
  unfold Arr8
  rw [hm] at h ⊢
  simpa using h
end
theorem arr8_len : Try.prog.arrayLen 74 = 8 := by kernel_rfl
theorem arr8_to (g m : Nat) (z : Int) (hz : z = (m : Int)) (hm : m ≤ 8) : ∀ W : World, (Instr.sliceAt 74 (.pointer (some ⟨g, 0, none⟩)) none (some (.int .i64 z)) none).run Try.prog W = .ok (.slice (some ⟨g, 0, none⟩) m 8) W := by
  intro W
  subst hz
  rw [run_sliceAt_array_h W 74 ⟨g, 0, none⟩ (by kernel_rfl) .i64 (m : Int) (by omega) (by rw [arr8_len]; omega), arr8_len]
  have hsz : (sizeOf (Try.prog.elem 74)).run Try.prog W = .ok 1 W := by rfl
  rw [hsz]
  rfl
theorem arr8_from (g m : Nat) (z : Int) (hz : z = (m : Int)) (hm : m < 8) : ∀ W : World, (Instr.sliceAt 74 (.pointer (some ⟨g, 0, none⟩)) (some (.int .i64 z)) none none).run Try.prog W = .ok (.slice (some ⟨g, m, none⟩) (8 - m) (8 - m)) W := by
  intro W
  subst hz
  rw [run_sliceAt_array_l W 74 ⟨g, 0, none⟩ (by kernel_rfl) .i64 (m : Int) (by omega) (by rw [arr8_len]; omega), arr8_len]
  have hsz : (sizeOf (Try.prog.elem 74)).run Try.prog W = .ok 1 W := by rfl
  rw [hsz]
  simp [Result.andThen_ok, slicedAt, addPlain, show ¬ 8 = m by omega]
def RetNum (w : World) (xs : List UInt8) (x : Nat) (z : Int) (e : Ending) (w' : World) : Prop :=
  ∃ v, e = .returned (.tuple #[v, .int .i64 (Wire.numOf xs x z).2]) ∧ OwnB w' w.heap.size v (Wire.numOf xs x z).1 ∧ Below w.heap.size w w'
theorem zeros_lt (x z : Nat) (h8 : z ≤ 8) (hx : x < 18446744073709551616) (h : ∀ t, t < 8 - z → byt (Wire.form x 8) t = 0) : x < 256 ^ z := by
  have e : Wire.form x 8 = Wire.form (x / 256 ^ z) (8 - z) ++ Wire.form x z := by rw [← Wire.form_split, show 8 - z + z = 8 by omega]
  have h2 : Wire.form (x / 256 ^ z) (8 - z) = Wire.form 0 (8 - z) := by
    rw [Wire.form_zero]
    refine List.ext_getElem (by simp [Wire.form_length]) fun i h1 h2 => ?_
    rw [Wire.form_length] at h1
    have h3 := h i h1
    rw [e, byt_eq _ i (by simp [Wire.form_length]; omega), List.getElem_append_left (by simp [Wire.form_length]; omega)] at h3
    rw [List.getElem_replicate]
    exact UInt8.toNat_inj.1 h3
  have hp : 0 < 256 ^ z := Nat.pow_pos (by omega)
  have hq : 256 ^ (8 - z) * 256 ^ z = 18446744073709551616 := by rw [← Nat.pow_add, show 8 - z + z = 8 by omega]
  have h4 := Wire.form_inj (x / 256 ^ z) 0 (8 - z) (by rw [Nat.div_lt_iff_lt_mul hp, hq]; exact hx) (Nat.pow_pos (by omega)) h2
  have := Nat.lt_mul_div_succ x hp
  rw [h4] at this
  omega
theorem zeros_of (x z t : Nat) (h8 : z ≤ 8) (h : x < 256 ^ z) (ht : t < 8 - z) : byt (Wire.form x 8) t = 0 := by
  have e : Wire.form x 8 = Wire.form (x / 256 ^ z) (8 - z) ++ Wire.form x z := by rw [← Wire.form_split, show 8 - z + z = 8 by omega]
  have hz : x / 256 ^ z = 0 := Nat.div_eq_of_lt h
  rw [e, hz, Wire.form_zero, byt, List.getElem?_append_left (by simpa using ht), List.getElem?_replicate, if_pos ht]
  rfl
theorem form_tail (x z : Nat) (h8 : z ≤ 8) : (Wire.form x 8).drop (8 - z) = Wire.form x z := by
  have e : Wire.form x 8 = Wire.form (x / 256 ^ z) (8 - z) ++ Wire.form x z := by rw [← Wire.form_split, show 8 - z + z = 8 by omega]
  rw [e, List.drop_left' (Wire.form_length _ _)]
/-- What the laying of a number has laid after k rounds. -/
def laid (x k : Nat) : List UInt8 := List.replicate (8 - k) 0 ++ Wire.form x k
theorem form_cons (x : Nat) : ∀ k, Wire.form x (k + 1) = UInt8.ofNat (x / 256 ^ k) :: Wire.form x k := by
  intro k
  rw [Nat.add_comm, Wire.form_split]
  rfl
theorem laid_next (x k : Nat) (h : k < 8) : (laid x k).set (7 - k) (UInt8.ofNat (x / 256 ^ k)) = laid x (k + 1) := by
  have e : 8 - k = (8 - (k + 1)) + 1 := by omega
  have e2 : 7 - k = 8 - (k + 1) := by omega
  rw [laid, laid, form_cons, e, List.replicate_succ', List.append_assoc, e2]
  rw [List.set_append_right _ _ (by simp)]
  simp

set_option maxHeartbeats 1600000 in
theorem wnum_calls (A : Option Addr) (n c x z : Nat) (xs : List UInt8) (w : World) (ok : Nat → Prop) (hr : RdB w ok A n xs) (hn : n ≤ 140737488351232) (h1 : 1 ≤ z) (h8 : z ≤ 8) (hx : x < 18446744073709551616):
    Calls Try.prog 21 #[.slice A n c, .int .u64 (x : Int), .int .i64 (z : Int)] w (RetNum w xs x (z : Int)) := by
  have h0 : ¬ (z : Int) < 1 := by omega
  have h9 : ¬ 8 < (z : Int) := by omega
  have hl0 : Arr8 (w.alloc (.cells #[.int .u8 0, .int .u8 0, .int .u8 0, .int .u8 0, .int .u8 0, .int .u8 0, .int .u8 0, .int .u8 0] 74)) w.heap.size w.heap.size (laid x 0) := Arr8.lit w w.heap.size (List.replicate 8 0) (Nat.le_refl _) rfl
  go_enter Try.func21, Try.ntmps21
  go_wp2
  generalize hg : w.heap.size = g at hl0
  go_loopw [1, 18] (fun y i wr => ∃ k : Nat, k ≤ 8 ∧ i = .int .i64 k ∧ y = .int .u64 ((x / 256 ^ k : Nat) : Int) ∧ Arr8 wr g g (laid x k) ∧ Below g w wr) (fun _ i _ => 8 - (intOf i).toNat)
  case atStart => exact ⟨0, Nat.zero_le _, rfl, by simp, hl0, by rw [← hg]; exact (Below.refl _ _).alloc (Nat.le_refl _) _⟩
  case round =>
    obtain ⟨k, hk, rfl, rfl, ha, hbr⟩ := hrel
    by_cases hlt : k < 8
    · have j8 : 7 - k < 8 := by omega
      have hll : (laid x k).length = 8 := by simp [laid, Wire.form_length]; omega
      obtain ⟨_, hlt2, hcell, hfz⟩ := ha.form (by omega)
      rw [hll] at hcell
      have cj := hcell (7 - k) j8
      have fj := hfz (7 - k)
      have HD := Lib.hid (show x / 256 ^ (k + 1) = x / 256 ^ k / 256 by rw [Nat.div_div_eq_div_mul, Nat.pow_succ])
      have HS := Lib.hid (laid_next x k hlt)
      have hst := ha.store (7 - k) (UInt8.ofNat (x / 256 ^ k))
      rw [UInt8.toNat_ofNat'] at hst
      generalize x / 256 ^ k = y at *
      obtain ⟨hs1, _⟩ := hst
      clear hll hcell hfz hlt2
      go_wp2_with fail
      have hone : Arr8 (wr.setCell ⟨g, 7 - k, none⟩ (.int .u8 ((y : Int) % 256))) g g (laid x (k + 1)) := by rw [← HS.out]; exact hs1
      go_roundw
      case rel => exact ⟨k + 1, by omega, by go_num, by rw [HD.out]; go_num, hone, hbr.setCell (Nat.le_refl _) _⟩
      case measure => simp [intOf]; omega
    · obtain rfl : k = 8 := by omega
      have e8 : laid x 8 = Wire.form x 8 := rfl
      rw [e8] at ha
      clear hl0 e8
      have HG := Lib.hid hg
      clear hg
      obtain ⟨F, hF⟩ : ∃ F, F = Wire.form x 8 := ⟨_, rfl⟩
      rw [← hF] at ha
      have hFl : F.length = 8 := by rw [hF, Wire.form_length]
      have HF := Lib.hid hF
      clear hF
      obtain ⟨m, hm⟩ : ∃ m, m = 8 - z := ⟨_, rfl⟩
      have hmz : (8 : Int) - (z : Int) = (m : Int) := by omega
      have c1 := arr8_to g m _ rfl (by omega)
      have c2 := arr8_from g m _ rfl (by omega)
      rw [show 8 - m = z by omega] at c2
      have HM := Lib.hid hm
      have m8 : m < 8 := by omega
      clear hm
      obtain ⟨_, _, hcell, _⟩ := ha.form (by omega)
      rw [hFl] at hcell
      go_wp2_with fail

      go_loop [33] (fun i => ∃ k : Nat, k ≤ m ∧ i = .int .i64 k ∧ ∀ t, t < k → byt F t = 0) (fun i => 8 - (intOf i).toNat)
      case atStart => exact ⟨0, Nat.zero_le _, rfl, fun t ht => absurd ht (by omega)⟩
      case round =>
        obtain ⟨k, hk, rfl, hz⟩ := hrel
        by_cases hlt : k < m
        · have ck := hcell k (by omega)
          have hb := byt_lt F k
          by_cases hb0 : byt F k = 0
          · go_wp2_with fail
            go_round
            case rel => exact ⟨k + 1, by omega, by go_num, fun t ht => by rcases Nat.lt_or_eq_of_le (Nat.le_of_lt_succ ht) with h | h; exact hz t h; rw [h]; exact hb0⟩
            case measure => simp [intOf]; omega
          · have hne : ((byt F k : Nat) : Int) != 0 := by rw [bne_iff_ne]; omega
            have hlong : 256 ^ z ≤ x := by
              refine Nat.le_of_not_lt fun h => hb0 ?_
              rw [HF.out]
              exact zeros_of x z k h8 h (by rw [← HM.out]; exact hlt)
            have hnum : Wire.numOf xs x (z : Int) = ([], 3) := by
              rw [Wire.numOf, if_neg (by omega), if_pos (by simpa using hlong)]
            have HN := Lib.hid hnum
            clear hb0 hlong hnum
            go_wp2_with fail
            go_ret2
            unfold RetNum
            rw [HN.out]
            exact ⟨_, rfl, OwnB.nil _ _, by rw [HG.out]; exact hbr⟩
        · obtain rfl : k = m := by omega
          have hlong : x < 256 ^ z := zeros_lt x z h8 hx (by rw [← HF.out, ← HM.out]; exact hz)
          have hnum : Wire.numOf xs x (z : Int) = (xs ++ Wire.form x z, 0) := by
            rw [Wire.numOf, if_neg (by omega), if_neg (by simpa using hlong)]; rfl
          have HN := Lib.hid hnum
          have hft := form_tail x z h8
          rw [← HF.out, ← HM.out] at hft
          have HFT := Lib.hid hft
          clear hz hlong hnum hft hcell hlt
          have hwk : IntKind.i64.wrap (k : Int) = (k : Int) := IntWalk.i64_in _ ⟨by omega, by omega⟩
          have hrr := hr.below (by rw [HG.out]; exact hbr)
          go_wp2_with fail
          have hbr' := hbr
          rw [← HG.out] at hbr'
          have hrd := (ha.rd (by omega)).cut (c := 8) (lo := k) (hi := F.length) (by omega) (by omega) (by omega)
          have hr2 : RdB wr (fun q => q = g) (some ⟨g, k, none⟩) z (Wire.form x z) := by
            rw [if_neg (by omega), List.take_length, HFT.out, hFl, show 8 - k = z by have := HM.out; omega] at hrd
            simpa [addPlain] using hrd
          have hln : xs.length + z ≤ 140737488355328 := by rw [hr.len]; omega
          clear hrd ha hFl
          go_region_law (first
            | (refine stepAppB w.heap.size w.heap.size (by rfl) _ _ (by rfl) v1 xs (Wire.form x z) (some ⟨g, k, none⟩) z z (by rfl) (by rfl) ho1' hr2' hb1' hb1'.size (Nat.le_refl _) hln ?_; intro v2 w2 ho2 hb2 _ _)
            | (go_simp; go_at_call 35; (with_reducible refine (clone_calls _ _ _ _ _ ok hrr.drew (by omega)).mono ?_); rintro e w1 ⟨v1, rfl, ho1, hb1⟩; have hb1' := belowThen hbr'.drew hbr'.drew.size hb1; have ho1' := ho1.lower hbr'.drew.size; have hr2' := hr2.drew.below hb1))
          all_goals
            go_wp2
            go_ret2
            unfold RetNum
            rw [HN.out]
            exact ⟨_, rfl, ho2, hb2⟩
theorem wnum_any (A : Option Addr) (n c x : Nat) (z : Int) (xs : List UInt8) (w : World) (ok : Nat → Prop) (hr : RdB w ok A n xs) (hn : n ≤ 140737488351232) (hx : x < 18446744073709551616) :
    Calls Try.prog 21 #[.slice A n c, .int .u64 (x : Int), .int .i64 z] w (RetNum w xs x z) := by
  by_cases h : z < 1 ∨ 8 < z
  · refine (wnum_arg A n c x z w h).mono ?_
    rintro e w1 ⟨rfl, rfl⟩
    unfold RetNum
    rw [Wire.numOf, if_pos h]
    exact ⟨_, rfl, OwnB.nil _ _, Below.refl _ _⟩
  · have := wnum_calls A n c x z.toNat xs w ok hr hn (by omega) (by omega) hx
    rwa [Int.toNat_of_nonneg (by omega)] at this
end Go.Proofs.Ytnadohbgnanpiaa
