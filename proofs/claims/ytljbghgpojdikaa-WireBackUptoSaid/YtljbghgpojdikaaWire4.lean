/-
  The walk of the chapter's examples ('awake').
-/
import Derived.Test.YtljbghgpojdikaaWire3
namespace Go.Proofs.Ytljbghgpojdikaa
open Go.RowKit

theorem awake1 : Wire.numOf [] 258 3 = ([0, 1, 2], 0) := by decide +kernel
theorem awake2 : Wire.numOf [] 256 1 = ([], 3) := by decide +kernel
theorem awake3 : Wire.numRead [1, 2, 3] 2 = (258, 0, [3]) := by decide +kernel
theorem awake4 : Wire.takeRead [3] 2 = ([], 4, [3]) := by decide +kernel
theorem awake5 : Wire.takeRead [3] 1 = ([3], 0, []) := by decide +kernel
set_option maxHeartbeats 800000 in
theorem awake_calls (w : World) : Calls Try.prog 13 #[] w fun e w' => e = .returned (.bool true) ∧ Below w.heap.size w w' := by
  go_enter Try.func13, Try.ntmps13
  go_wp2_with fail
  refine (wnum_any none 0 0 258 3 [] w (fun _ => True) (RdB.nil _ _ _) (by omega) (by omega)).mono ?_
  unfold RetNum
  rw [awake1]
  rintro e w1 ⟨v1, rfl, ho1, hb1⟩
  obtain ⟨A1, c1, rfl, hc1, _, hr1⟩ := ho1.rd
  clear ho1
  go_wp2_with fail
  refine (wnum_any none 0 0 256 1 [] w1 (fun _ => True) (RdB.nil _ _ _) (by omega) (by omega)).mono ?_
  unfold RetNum
  rw [awake2]
  rintro e w2 ⟨v2, rfl, ho2, hb2⟩
  have hb12 := belowThen hb1 hb1.size hb2
  have hr1' : RdB w2 (fun k => k < w2.heap.size) A1 3 [0, 1, 2] := (hr1.below hb2).mono fun k _ hl => hl
  clear hr1
  rename RdB w2 (fun k => k < w2.heap.size) A1 3 [0, 1, 2] => hr1
  clear hb1 hb2 ho2
  go_wp2_with fail
  have hr3 := rdLitN w2 w2.heap.size rfl #[.int .u8 1, .int .u8 2, .int .u8 3] (0, 0) 3 [1, 2, 3] rfl rfl (by omega)
  have hb3 := hb12.alloc hb12.size (.cells #[.int .u8 1, .int .u8 2, .int .u8 3] 5)
  have hr13 := hr1.alloc (.cells #[.int .u8 1, .int .u8 2, .int .u8 3] 5)
  refine (new_calls _ 3 3 [1, 2, 3] _ _ hr3 (by omega)).mono ?_
  rintro e w4 ⟨g, rfl, hgs, ⟨A4, n4, c4, hR4⟩, hb4⟩
  have hg0 : w.heap.size ≤ g := Nat.le_trans hb3.size hgs
  have hb24 := belowThen hb3 hb3.size hb4
  have hr14 := hr13.below hb4
  clear hr3 hb3 hr13 hb12 hr1 hb4
  go_wp2_with fail
  refine (read_calls g g A4 n4 c4 [1, 2, 3] 2 w4 hR4 (Nat.le_of_lt hR4.1)).mono ?_
  unfold RetRead
  rw [awake3]
  rintro e w5 ⟨rfl, ⟨A5, n5, c5, hR5⟩, hg5⟩
  have hb5 := hb24.grown hg5 hb24.size (fun k hk => by injection hk with hk; omega)
  have hgs' : w2.heap.size < g := by rw [World.size_alloc] at hgs; omega
  have hr15 := hr14.grown hg5 (fun k hk e => by injection e with e; omega)
  clear hb24 hr14 hg5 hR4
  go_wp2_with fail
  refine (take_calls g g A5 n5 c5 [3] 2 w5 hR5 (Nat.le_of_lt hR5.1) (by have := hR5.2.2.2.2.2.len; simp at this; omega)).mono ?_
  unfold RetTake
  rw [awake4]
  rintro e w6 ⟨v6, rfl, ho6, ⟨A6, n6, c6, hR6⟩, hg6⟩
  have hb6 := hb5.grown hg6 hb5.size (fun k hk => by injection hk with hk; omega)
  have hr16 := hr15.grown hg6 (fun k hk e => by injection e with e; omega)
  clear hb5 hr15 hg6 hR5 ho6
  go_wp2_with fail
  refine (take_calls g g A6 n6 c6 [3] 1 w6 hR6 (Nat.le_of_lt hR6.1) (by have := hR6.2.2.2.2.2.len; simp at this; omega)).mono ?_
  unfold RetTake
  rw [awake5]
  rintro e w7 ⟨v7, rfl, ho7, ⟨A7, n7, c7, hR7⟩, hg7⟩
  have hb7 := hb6.grown hg7 hb6.size (fun k hk => by injection hk with hk; omega)
  have hr17 := hr16.grown hg7 (fun k hk e => by injection e with e; omega)
  obtain ⟨B7, d7, rfl, _, _, hq7⟩ := ho7.rd
  clear hb6 hr16 hg7 hR6 ho7
  go_wp2_with fail
  have hr8 := rdLitN w7 w7.heap.size rfl #[.int .u8 0, .int .u8 1, .int .u8 2] (0, 0) 3 [0, 1, 2] rfl rfl (by omega)
  have hb8 := hb7.alloc hb7.size (.cells #[.int .u8 0, .int .u8 1, .int .u8 2] 5)
  have hr18 := hr17.alloc (.cells #[.int .u8 0, .int .u8 1, .int .u8 2] 5)
  have hq8 := hq7.alloc (.cells #[.int .u8 0, .int .u8 1, .int .u8 2] 5)
  have hR8 := hR7.below ((Below.refl _ w7).alloc (Nat.le_refl _) (.cells #[.int .u8 0, .int .u8 1, .int .u8 2] 5))
  refine (equal_calls _ _ 3 c1 3 3 _ _ _ _ _ hr18 hr8).mono ?_
  rintro e w9 ⟨rfl, hw9⟩
  clear hb7 hr17 hq7 hR7 hr8 hr18
  rw [hw9] at hb8 hq8 hR8
  have hs9 : w7.heap.size + 1 = w9.heap.size := by rw [← hw9, World.size_alloc]
  clear hw9
  go_wp2_with fail
  have hr9 := rdLitN w9 w9.heap.size rfl #[.int .u8 3] (0, 0) 1 [3] rfl rfl (by omega)
  have hb9 := hb8.alloc hb8.size (.cells #[.int .u8 3] 5)
  have hq9 := hq8.alloc (.cells #[.int .u8 3] 5)
  have hR9 := hR8.below ((Below.refl _ w9).alloc (Nat.le_refl _) (.cells #[.int .u8 3] 5))
  refine (equal_calls _ _ 1 d7 1 1 _ _ _ _ _ hq9 hr9).mono ?_
  rintro e w10 ⟨rfl, rfl⟩
  clear hb8 hq8 hR8 hr9 hq9
  go_wp2_with fail
  refine (end_calls g _ _ _ _ _ _ hR9).mono ?_
  rintro e w11 ⟨rfl, rfl⟩
  go_wp2
  go_ret
  exact ⟨rfl, hb9⟩
end Go.Proofs.Ytljbghgpojdikaa
