/-
  The walk of CrcKnown.
-/
import Derived.Test.YtfnaklflkegafaaDoorCrc5
namespace Go.Proofs.YtfnaklflkegafaaDoor
open Go.RowKit

theorem join_last : Crc.join 0 7 1048576 = 7 := by rw [Crc.join, Crc.stpN_zero, Nat.zero_xor]
theorem run_make4 (W : World) : (Instr.makeSlice 22 (.int .i64 4) (.int .i64 4)).run Tryd.prog W = .ok (.slice (some ⟨W.heap.size, 0, none⟩) 4 4) (W.alloc (.cells #[.int .u8 0, .int .u8 0, .int .u8 0, .int .u8 0] 5)) := by kernel_rfl

set_option maxHeartbeats 400000 in
theorem crcKnown_walk (w : World) (ht : Tab w) :
    Calls Tryd.prog 10 #[] w fun e w' => e = .returned (.bool true) ∧ Below w.heap.size w w' := by
  have hmk := run_make4
  go_enter Tryd.func10, Tryd.ntmps10
  go_wp2_with fail
  refine (join_bad 1 2 (-1) w (by omega)).mono ?_
  rintro e w1 ⟨rfl, rfl⟩
  go_wp2_with fail
  refine (join_bad 1 2 1048577 w (by omega)).mono ?_
  rintro e w1 ⟨rfl, rfl⟩
  go_wp2_with fail
  refine (join_good 0 7 1048576 w (by omega) (by omega) (by omega) ht).mono ?_
  rintro e w1 ⟨rfl, rfl⟩
  rw [join_last]
  go_wp2_with fail
  refine (open_short none 0 0 w (by omega)).mono ?_
  rintro e w1 ⟨rfl, rfl⟩
  go_wp2_with fail
  have hr := rdLitN w w.heap.size rfl #[.int .u8 0, .int .u8 0, .int .u8 0, .int .u8 0] (0, 0) 4 [0, 0, 0, 0] rfl rfl (by omega)
  have hb0 : Below w.heap.size w (w.alloc (.cells #[.int .u8 0, .int .u8 0, .int .u8 0, .int .u8 0] 5)) := (Below.refl _ _).alloc (Nat.le_refl _) _
  refine (open_good _ 4 0 4 [0, 0, 0, 0] _ _ hr rfl (by omega) (ht.below hb0) (by decide +kernel) (by omega)).mono ?_
  rintro e w1 ⟨v1, rfl, ho1, hb1⟩
  obtain ⟨A1, c1, rfl, _, _, _⟩ := ho1.rd
  replace hb1 := belowThen hb0 hb0.size hb1
  clear hb0 hr ho1
  go_wp2_with fail
  refine (wakes_calls w1 (ht.below hb1)).mono ?_
  rintro e w2 ⟨rfl, hb2⟩
  replace hb2 := belowThen hb1 hb1.size hb2
  go_wp2
  go_ret
  exact ⟨rfl, hb2⟩
end Go.Proofs.YtfnaklflkegafaaDoor
