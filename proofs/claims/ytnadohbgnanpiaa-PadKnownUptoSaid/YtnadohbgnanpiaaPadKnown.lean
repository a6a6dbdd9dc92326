/-
  The walk of PadKnown (its lines written by wip/py/genk.py).
-/
import Derived.Test.YtnadohbgnanpiaaPadA
namespace Go.Proofs.Ytnadohbgnanpiaa
open Go.RowKit

theorem kn1 : Pad.takes [[0, 0, 0], [1, 97, 1]] 2 3 = ([], 5) := by decide
theorem kn2 : Pad.takes [[0, 0, 0], [0, 0, 0]] 2 3 = ([], 5) := by decide
theorem kn3 : Pad.takes [[0, 0, 0]] 2 3 = ([], 21) := by decide
theorem kn4 : Pad.takes [[0, 0], [0, 0, 0]] 2 3 = ([], 21) := by decide
theorem kn5 : chunkRes [97, 98] [2, 1] (6 - 4) = ([], [], 1) := by decide
theorem kn6 : chunkRes [97, 98] [3] (6 - 4) = ([], [], 1) := by decide
theorem kn7 : chunkRes [97, 98] [-1] (6 - 4) = ([], [], 1) := by decide
theorem kn8 : chunkRes [97, 98, 99] [0] (6 - 4) = ([[97, 98]], [99], 0) := by decide
theorem one (w : World) (A0 : Option Addr) (x : List UInt8) (n0 c0 : Nat) (h0 : RdB w (fun _ => True) A0 n0 x) (k0 : n0 ≤ c0) :
    ∀ j, j < 1 → ∃ Aj nj cj, [Value.slice A0 n0 c0][j]? = some (.slice Aj nj cj) ∧ nj ≤ cj ∧ RdB w (fun _ => True) Aj nj (lrow [x] j) := by
  intro j hj
  match j, hj with
  | 0, _ => exact ⟨A0, n0, c0, rfl, k0, h0⟩
theorem bad14 : ¬ okGS 1 4 := by unfold okGS; decide
theorem bad256 : ¬ okGS 256 1 := by unfold okGS; decide
set_option maxRecDepth 100000 in
set_option maxHeartbeats 4000000 in
theorem padKnown_walk (w : World) : Calls Try.prog 3 #[] w fun e w' => e = .returned (.bool true) ∧ Below w.heap.size w w' := by
  have kc := conv_const
  go_enter Try.func3, Try.ntmps3
  go_wp2_with fail
  refine (room_calls 2 3 6 w (by omega) (by omega) (by omega) (by omega) (by omega) (by omega) (by omega)).mono ?_
  rintro e w' ⟨rfl, rfl⟩
  go_wp2_with fail
  refine (room_bad 1 4 w bad14).mono ?_
  rintro e w' ⟨rfl, rfl⟩
  go_wp2_with fail
  refine (room_bad 256 1 w bad256).mono ?_
  rintro e w' ⟨rfl, rfl⟩
  go_wp2_with fail
  refine (room_calls 255 65535 16711425 w (by omega) (by omega) (by omega) (by omega) (by omega) (by omega) (by omega)).mono ?_
  rintro e w' ⟨rfl, rfl⟩
  go_wp2_with fail
  refine (lay_short none 0 2 3 6 w (by omega) (by omega) (by omega) (by omega) (by omega) (by omega) (by omega)).mono ?_
  rintro e w' ⟨rfl, rfl⟩
  obtain ⟨p1, q1, _⟩ := rowLit w #[.int .u8 97, .int .u8 98, .int .u8 99] (3, 4) 3 [97, 98, 99] rfl rfl (by omega)
  go_wp2_with fail
  refine (lay_long (some ⟨w.heap.size, 0, none⟩) 3 3 2 3 6 _ (by omega) (by omega) (by omega) (by omega) (by omega) (by omega) (by omega) (by omega)).mono ?_
  rintro e w0 ⟨rfl, hw0⟩
  rw [hw0] at q1
  have hb0 := q1
  clear p1 q1 hw0
  obtain ⟨p0, q0, z0⟩ := rowLit w0 #[.int .u8 0, .int .u8 0, .int .u8 0] (0, 0) 3 [0, 0, 0] rfl rfl (by omega)
  obtain ⟨x0, hx0⟩ : ∃ x0, w0.alloc (.cells #[.int .u8 0, .int .u8 0, .int .u8 0] 5) = x0 := ⟨_, rfl⟩
  rw [hx0] at p0 q0 z0
  obtain ⟨p1, q1, z1⟩ := rowLit x0 #[.int .u8 1, .int .u8 97, .int .u8 1] (0, 0) 3 [1, 97, 1] rfl rfl (by omega)
  obtain ⟨x1, hx1⟩ : ∃ x1, x0.alloc (.cells #[.int .u8 1, .int .u8 97, .int .u8 1] 5) = x1 := ⟨_, rfl⟩
  rw [hx1] at p1 q1 z1
  rw [z0] at p1 z1
  obtain ⟨pp, qq⟩ := rowsLit x1 [.slice (some ⟨w0.heap.size, 0, none⟩) 3 3, .slice (some ⟨w0.heap.size + 1, 0, none⟩) 3 3] [[0, 0, 0], [1, 97, 1]] 2 rfl (by omega) _ rfl (two x1 _ _ _ _ 3 3 3 3 (p0.below q1) p1 (by omega) (by omega))
  rw [z1] at pp
  have hbb := stepBelow (stepBelow (stepBelow hb0 q0) q1) qq
  rw [← hx1, ← hx0] at pp hbb
  clear hx0 p0 q0 z0 hx1 p1 q1 z1 qq hb0
  go_wp2_with fail
  refine (ptake_calls (some ⟨w0.heap.size + 1 + 1, 0, none⟩) 2 2 2 3 6 [[0, 0, 0], [1, 97, 1]] _ _ pp (by omega) rfl (by omega) (by omega) (by omega) (by omega) (by omega) (by omega) (by omega)).mono ?_
  unfold RetTk
  rw [kn1]
  rintro e w1 ⟨v1, rfl, _, hb⟩
  have hb1 := stepBelow hbb hb
  clear pp hb hbb
  obtain ⟨p0, q0, z0⟩ := rowLit w1 #[.int .u8 0, .int .u8 0, .int .u8 0] (0, 0) 3 [0, 0, 0] rfl rfl (by omega)
  obtain ⟨x0, hx0⟩ : ∃ x0, w1.alloc (.cells #[.int .u8 0, .int .u8 0, .int .u8 0] 5) = x0 := ⟨_, rfl⟩
  rw [hx0] at p0 q0 z0
  obtain ⟨p1, q1, z1⟩ := rowLit x0 #[.int .u8 0, .int .u8 0, .int .u8 0] (0, 0) 3 [0, 0, 0] rfl rfl (by omega)
  obtain ⟨x1, hx1⟩ : ∃ x1, x0.alloc (.cells #[.int .u8 0, .int .u8 0, .int .u8 0] 5) = x1 := ⟨_, rfl⟩
  rw [hx1] at p1 q1 z1
  rw [z0] at p1 z1
  obtain ⟨pp, qq⟩ := rowsLit x1 [.slice (some ⟨w1.heap.size, 0, none⟩) 3 3, .slice (some ⟨w1.heap.size + 1, 0, none⟩) 3 3] [[0, 0, 0], [0, 0, 0]] 2 rfl (by omega) _ rfl (two x1 _ _ _ _ 3 3 3 3 (p0.below q1) p1 (by omega) (by omega))
  rw [z1] at pp
  have hbb := stepBelow (stepBelow (stepBelow hb1 q0) q1) qq
  rw [← hx1, ← hx0] at pp hbb
  clear hx0 p0 q0 z0 hx1 p1 q1 z1 qq hb1
  go_wp2_with fail
  refine (ptake_calls (some ⟨w1.heap.size + 1 + 1, 0, none⟩) 2 2 2 3 6 [[0, 0, 0], [0, 0, 0]] _ _ pp (by omega) rfl (by omega) (by omega) (by omega) (by omega) (by omega) (by omega) (by omega)).mono ?_
  unfold RetTk
  rw [kn2]
  rintro e w2 ⟨v2, rfl, _, hb⟩
  have hb2 := stepBelow hbb hb
  clear pp hb hbb
  obtain ⟨p0, q0, z0⟩ := rowLit w2 #[.int .u8 0, .int .u8 0, .int .u8 0] (0, 0) 3 [0, 0, 0] rfl rfl (by omega)
  obtain ⟨x0, hx0⟩ : ∃ x0, w2.alloc (.cells #[.int .u8 0, .int .u8 0, .int .u8 0] 5) = x0 := ⟨_, rfl⟩
  rw [hx0] at p0 q0 z0
  obtain ⟨pp, qq⟩ := rowsLit x0 [.slice (some ⟨w2.heap.size, 0, none⟩) 3 3] [[0, 0, 0]] 1 rfl (by omega) _ rfl (one x0 _ _ 3 3 p0 (by omega))
  rw [z0] at pp
  have hbb := stepBelow (stepBelow hb2 q0) qq
  rw [← hx0] at pp hbb
  clear hx0 p0 q0 z0 qq hb2
  go_wp2_with fail
  refine (ptake_calls (some ⟨w2.heap.size + 1, 0, none⟩) 1 1 2 3 6 [[0, 0, 0]] _ _ pp (by omega) rfl (by omega) (by omega) (by omega) (by omega) (by omega) (by omega) (by omega)).mono ?_
  unfold RetTk
  rw [kn3]
  rintro e w3 ⟨v3, rfl, _, hb⟩
  have hb3 := stepBelow hbb hb
  clear pp hb hbb
  obtain ⟨p0, q0, z0⟩ := rowLit w3 #[.int .u8 0, .int .u8 0] (0, 0) 2 [0, 0] rfl rfl (by omega)
  obtain ⟨x0, hx0⟩ : ∃ x0, w3.alloc (.cells #[.int .u8 0, .int .u8 0] 5) = x0 := ⟨_, rfl⟩
  rw [hx0] at p0 q0 z0
  obtain ⟨p1, q1, z1⟩ := rowLit x0 #[.int .u8 0, .int .u8 0, .int .u8 0] (0, 0) 3 [0, 0, 0] rfl rfl (by omega)
  obtain ⟨x1, hx1⟩ : ∃ x1, x0.alloc (.cells #[.int .u8 0, .int .u8 0, .int .u8 0] 5) = x1 := ⟨_, rfl⟩
  rw [hx1] at p1 q1 z1
  rw [z0] at p1 z1
  obtain ⟨pp, qq⟩ := rowsLit x1 [.slice (some ⟨w3.heap.size, 0, none⟩) 2 2, .slice (some ⟨w3.heap.size + 1, 0, none⟩) 3 3] [[0, 0], [0, 0, 0]] 2 rfl (by omega) _ rfl (two x1 _ _ _ _ 2 3 2 3 (p0.below q1) p1 (by omega) (by omega))
  rw [z1] at pp
  have hbb := stepBelow (stepBelow (stepBelow hb3 q0) q1) qq
  rw [← hx1, ← hx0] at pp hbb
  clear hx0 p0 q0 z0 hx1 p1 q1 z1 qq hb3
  go_wp2_with fail
  refine (ptake_calls (some ⟨w3.heap.size + 1 + 1, 0, none⟩) 2 2 2 3 6 [[0, 0], [0, 0, 0]] _ _ pp (by omega) rfl (by omega) (by omega) (by omega) (by omega) (by omega) (by omega) (by omega)).mono ?_
  unfold RetTk
  rw [kn4]
  rintro e w4 ⟨v4, rfl, _, hb⟩
  have hb4 := stepBelow hbb hb
  clear pp hb hbb
  obtain ⟨p1, q1, z1⟩ := rowLit w4 #[.int .u8 97, .int .u8 98] (2, 3) 2 [97, 98] rfl rfl (by omega)
  obtain ⟨wa, hwa⟩ : ∃ wa, w4.alloc (.cells #[.int .u8 97, .int .u8 98] 5 (2, 3)) = wa := ⟨_, rfl⟩
  rw [hwa] at p1 q1 z1
  have p2 := intsLit wa [2, 1] 2 rfl (by omega) (by simp) #[.int .i64 2, .int .i64 1] rfl
  have q2 : Below wa.heap.size wa (wa.alloc (.cells #[.int .i64 2, .int .i64 1] 3)) := (Below.refl _ _).alloc (Nat.le_refl _) _
  have p1' := (p1.below q2).mono (ok' := fun k => k < (wa.alloc (.cells #[.int .i64 2, .int .i64 1] 3)).heap.size) fun k _ hl => hl
  have hbb := stepBelow (stepBelow hb4 q1) q2
  rw [z1] at p2
  rw [← hwa] at p2 p1' hbb
  clear hwa p1 q1 z1 q2 hb4
  go_wp2_with fail
  refine (chunks_calls (some ⟨w4.heap.size, 0, none⟩) 2 2 [97, 98] (some ⟨w4.heap.size + 1, 0, none⟩) 2 2 [2, 1] 2 3 6 _ p1' (by omega) (by omega) p2 (by omega) (by omega) (by omega) (by omega) (by omega) (by omega) (by omega)).mono ?_
  unfold RetCh
  rw [kn5]
  rintro e w5 ⟨v5, u5, rfl, ho, hu, hb⟩
  obtain ⟨A5, c5, rfl, _, _⟩ := ho.rdn 0 rfl
  obtain ⟨B5, d5, rfl, _, ru⟩ := hu.rdn 0 rfl
  have hb5 := stepBelow hbb hb
  clear p1' p2 hbb hb ho hu ru
  obtain ⟨p1, q1, z1⟩ := rowLit w5 #[.int .u8 97, .int .u8 98] (2, 3) 2 [97, 98] rfl rfl (by omega)
  obtain ⟨wa, hwa⟩ : ∃ wa, w5.alloc (.cells #[.int .u8 97, .int .u8 98] 5 (2, 3)) = wa := ⟨_, rfl⟩
  rw [hwa] at p1 q1 z1
  have p2 := intsLit wa [3] 1 rfl (by omega) (by simp) #[.int .i64 3] rfl
  have q2 : Below wa.heap.size wa (wa.alloc (.cells #[.int .i64 3] 3)) := (Below.refl _ _).alloc (Nat.le_refl _) _
  have p1' := (p1.below q2).mono (ok' := fun k => k < (wa.alloc (.cells #[.int .i64 3] 3)).heap.size) fun k _ hl => hl
  have hbb := stepBelow (stepBelow hb5 q1) q2
  rw [z1] at p2
  rw [← hwa] at p2 p1' hbb
  clear hwa p1 q1 z1 q2 hb5
  go_wp2_with fail
  refine (chunks_calls (some ⟨w5.heap.size, 0, none⟩) 2 2 [97, 98] (some ⟨w5.heap.size + 1, 0, none⟩) 1 1 [3] 2 3 6 _ p1' (by omega) (by omega) p2 (by omega) (by omega) (by omega) (by omega) (by omega) (by omega) (by omega)).mono ?_
  unfold RetCh
  rw [kn6]
  rintro e w6 ⟨v6, u6, rfl, ho, hu, hb⟩
  obtain ⟨A6, c6, rfl, _, _⟩ := ho.rdn 0 rfl
  obtain ⟨B6, d6, rfl, _, ru⟩ := hu.rdn 0 rfl
  have hb6 := stepBelow hbb hb
  clear p1' p2 hbb hb ho hu ru
  obtain ⟨p1, q1, z1⟩ := rowLit w6 #[.int .u8 97, .int .u8 98] (2, 3) 2 [97, 98] rfl rfl (by omega)
  obtain ⟨wa, hwa⟩ : ∃ wa, w6.alloc (.cells #[.int .u8 97, .int .u8 98] 5 (2, 3)) = wa := ⟨_, rfl⟩
  rw [hwa] at p1 q1 z1
  have p2 := intsLit wa [-1] 1 rfl (by omega) (by simp) #[.int .i64 (-1)] rfl
  have q2 : Below wa.heap.size wa (wa.alloc (.cells #[.int .i64 (-1)] 3)) := (Below.refl _ _).alloc (Nat.le_refl _) _
  have p1' := (p1.below q2).mono (ok' := fun k => k < (wa.alloc (.cells #[.int .i64 (-1)] 3)).heap.size) fun k _ hl => hl
  have hbb := stepBelow (stepBelow hb6 q1) q2
  rw [z1] at p2
  rw [← hwa] at p2 p1' hbb
  clear hwa p1 q1 z1 q2 hb6
  go_wp2_with fail
  refine (chunks_calls (some ⟨w6.heap.size, 0, none⟩) 2 2 [97, 98] (some ⟨w6.heap.size + 1, 0, none⟩) 1 1 [-1] 2 3 6 _ p1' (by omega) (by omega) p2 (by omega) (by omega) (by omega) (by omega) (by omega) (by omega) (by omega)).mono ?_
  unfold RetCh
  rw [kn7]
  rintro e w7 ⟨v7, u7, rfl, ho, hu, hb⟩
  obtain ⟨A7, c7, rfl, _, _⟩ := ho.rdn 0 rfl
  obtain ⟨B7, d7, rfl, _, ru⟩ := hu.rdn 0 rfl
  have hb7 := stepBelow hbb hb
  clear p1' p2 hbb hb ho hu ru
  obtain ⟨p1, q1, z1⟩ := rowLit w7 #[.int .u8 97, .int .u8 98, .int .u8 99] (3, 4) 3 [97, 98, 99] rfl rfl (by omega)
  obtain ⟨wa, hwa⟩ : ∃ wa, w7.alloc (.cells #[.int .u8 97, .int .u8 98, .int .u8 99] 5 (3, 4)) = wa := ⟨_, rfl⟩
  rw [hwa] at p1 q1 z1
  have p2 := intsLit wa [0] 1 rfl (by omega) (by simp) #[.int .i64 0] rfl
  have q2 : Below wa.heap.size wa (wa.alloc (.cells #[.int .i64 0] 3)) := (Below.refl _ _).alloc (Nat.le_refl _) _
  have p1' := (p1.below q2).mono (ok' := fun k => k < (wa.alloc (.cells #[.int .i64 0] 3)).heap.size) fun k _ hl => hl
  have hbb := stepBelow (stepBelow hb7 q1) q2
  rw [z1] at p2
  rw [← hwa] at p2 p1' hbb
  clear hwa p1 q1 z1 q2 hb7
  go_wp2_with fail
  refine (chunks_calls (some ⟨w7.heap.size, 0, none⟩) 3 3 [97, 98, 99] (some ⟨w7.heap.size + 1, 0, none⟩) 1 1 [0] 2 3 6 _ p1' (by omega) (by omega) p2 (by omega) (by omega) (by omega) (by omega) (by omega) (by omega) (by omega)).mono ?_
  unfold RetCh
  rw [kn8]
  rintro e w8 ⟨v8, u8, rfl, ho, hu, hb⟩
  obtain ⟨A8, c8, rfl, _, _⟩ := ho.rdn 1 rfl
  obtain ⟨B8, d8, rfl, _, ru⟩ := hu.rdn 1 rfl
  have hb8 := stepBelow hbb hb
  clear p1' p2 hbb hb ho hu
  go_wp2_with fail
  refine (awake_calls w8).mono ?_
  rintro e w9 ⟨rfl, hb⟩
  have hb9 := stepBelow hb8 hb
  have ru2 := ru.below hb
  have hcv := conv_string ru2 d8
  have hst : (strOf [99]).toList = [99] := strOf_toList _
  clear hb hb8 ru ru2
  go_wp2_with fail
  go_ret
  exact ⟨rfl, hb9⟩
end Go.Proofs.Ytnadohbgnanpiaa
