/-
  The walk of the chapter's rows ('wakes').
-/
import Derived.Test.YtfnaklflkegafaaDoorCrc4
namespace Go.Proofs.YtfnaklflkegafaaDoor
open Go.RowKit

theorem sum9 : Crc.sum [49, 50, 51, 52, 53, 54, 55, 56, 57] = 3421780262 := by decide +kernel
theorem sum0 : Crc.sum [0] = 3523407757 := by decide +kernel
theorem sum255 : Crc.sum [255] = 4278190080 := by decide +kernel
theorem sealedNil : Crc.sealed [] = [0, 0, 0, 0] := by decide +kernel

set_option maxHeartbeats 400000 in
theorem wakes_calls (w : World) (ht : Tab w) : Calls Tryd.prog 17 #[] w fun e w' => e = .returned (.bool true) ∧ Below w.heap.size w w' := by
  have kc := conv_const
  go_enter Tryd.func17, Tryd.ntmps17
  go_wp2_with fail
  have hb0 : Below w.heap.size w (w.alloc (.cells #[.int .u8 0, .int .u8 0, .int .u8 0] 5)) := (Below.refl _ _).alloc (Nat.le_refl _) _
  refine (weakB (open_short _ 3 _ _ (by omega))).mono ?_
  rintro e w1 ⟨rfl, hb1⟩
  replace hb1 := belowThen hb0 hb0.size hb1
  clear hb0
  go_wp2_with fail
  have hr2 := rdLitN w1 w1.heap.size rfl #[.int .u8 0, .int .u8 0, .int .u8 0, .int .u8 1] (0, 0) 4 [0, 0, 0, 1] rfl rfl (by omega)
  have hb2 := hb1.alloc hb1.size (.cells #[.int .u8 0, .int .u8 0, .int .u8 0, .int .u8 1] 5)
  refine (weakD (open_bad _ 4 0 4 [0, 0, 0, 1] _ _ hr2 rfl (by omega) (ht.below hb2) (by decide +kernel))).mono ?_
  rintro e w2 ⟨rfl, hb3⟩
  replace hb3 := belowThen hb2 hb2.size hb3
  clear hb2 hr2 hb1
  go_wp2_with fail
  have hr4 := rdLitN w2 w2.heap.size rfl #[.int .u8 49, .int .u8 50, .int .u8 51, .int .u8 52, .int .u8 53, .int .u8 54, .int .u8 55, .int .u8 56, .int .u8 57] (9, 10) 9 [49, 50, 51, 52, 53, 54, 55, 56, 57] rfl rfl (by omega)
  have hb4 := hb3.alloc hb3.size (.cells #[.int .u8 49, .int .u8 50, .int .u8 51, .int .u8 52, .int .u8 53, .int .u8 54, .int .u8 55, .int .u8 56, .int .u8 57] 5 (9, 10))
  refine (weakB (sum_calls _ 9 9 _ _ _ hr4 (ht.below hb4))).mono ?_
  rintro e w3 ⟨rfl, hb5⟩
  rw [sum9]
  replace hb5 := belowThen hb4 hb4.size hb5
  clear hb4 hr4 hb3
  go_wp2_with fail
  refine (weakB (sum_calls none 0 0 [] _ _ (RdB.nil _ (fun _ => True) _) (ht.below hb5))).mono ?_
  rintro e w4 ⟨rfl, hb6⟩
  rw [Crc.sum_nil]
  replace hb6 := belowThen hb5 hb5.size hb6
  clear hb5
  go_wp2_with fail
  have hr7 := rdLitN w4 w4.heap.size rfl #[.int .u8 0] (0, 0) 1 [0] rfl rfl (by omega)
  have hb7 := hb6.alloc hb6.size (.cells #[.int .u8 0] 5)
  refine (weakB (sum_calls _ 1 1 _ _ _ hr7 (ht.below hb7))).mono ?_
  rintro e w5 ⟨rfl, hb8⟩
  rw [sum0]
  replace hb8 := belowThen hb7 hb7.size hb8
  clear hb7 hr7 hb6
  go_wp2_with fail
  have hr9 := rdLitN w5 w5.heap.size rfl #[.int .u8 255] (0, 0) 1 [255] rfl rfl (by omega)
  have hb9 := hb8.alloc hb8.size (.cells #[.int .u8 255] 5)
  refine (weakB (sum_calls _ 1 1 _ _ _ hr9 (ht.below hb9))).mono ?_
  rintro e w6 ⟨rfl, hb10⟩
  rw [sum255]
  replace hb10 := belowThen hb9 hb9.size hb10
  clear hb9 hr9 hb8
  go_wp2_with fail
  refine (seal_calls none 0 0 [] _ _ (RdB.nil _ (fun _ => True) _) (ht.below hb10) (by omega)).mono ?_
  rintro e w7 ⟨v7, rfl, ho7, hb11⟩
  rw [sealedNil] at ho7
  replace hb11 := belowThen hb10 hb10.size hb11
  obtain ⟨A7, c7, rfl, _, _, hr7⟩ := ho7.rd
  have hcv : (convert 22 9 (.slice A7 4 c7)).run Tryd.prog w7 = .ok (.string (strOf [0, 0, 0, 0])) w7 := conv_string hr7 c7
  have hs : ((strOf [0, 0, 0, 0]).toList == [0, 0, 0, 0]) = true := by rw [strOf_toList]; rfl
  clear hb10 hr7 ho7
  go_wp2
  go_ret
  exact ⟨rfl, hb11⟩
end Go.Proofs.YtfnaklflkegafaaDoor
