/-
  The walk of WireKnown.
-/
import Derived.Test.YtljbghgpojdikaaWire4
namespace Go.Proofs.Ytljbghgpojdikaa
open Go.RowKit

theorem read_nil (z : Int) (w : World) :
    Calls Try.prog 15 #[.pointer none, .int .i64 z] w fun e w' => e = .returned (.tuple #[.int .u64 0, .int .i64 2]) ∧ Below w.heap.size w w' := by
  go_enter_defers Try.func15, Try.ntmps15
  go_wp2_with fail
  simp [bodyPostD, Leaves, results, Try.results15, go_sem]
  exact (Below.refl _ _).alloc (Nat.le_refl _) _
theorem take_nil (z : Int) (w : World) :
    Calls Try.prog 18 #[.pointer none, .int .i64 z] w fun e w' => e = .returned (.tuple #[.slice none 0 0, .int .i64 2]) ∧ w = w' := by
  go_enter Try.func18, Try.ntmps18
  go_wp2_with fail
  go_ret2
  exact ⟨rfl, rfl⟩
theorem left_nil (w : World) :
    Calls Try.prog 20 #[.pointer none] w fun e w' => e = .returned (.int .i64 0) ∧ w = w' := by
  go_enter Try.func20, Try.ntmps20
  go_wp2_with fail
  go_ret
  exact ⟨rfl, rfl⟩
theorem end_nil (w : World) :
    Calls Try.prog 21 #[.pointer none] w fun e w' => e = .returned (.int .i64 2) ∧ w = w' := by
  go_enter Try.func21, Try.ntmps21
  go_wp2_with fail
  go_ret
  exact ⟨rfl, rfl⟩
theorem end_unmade (g : Nat) (w : World) (h : w.cell? ⟨g, 1, none⟩ = some (.bool false)) :
    Calls Try.prog 21 #[.pointer (some ⟨g, 0, none⟩)] w fun e w' => e = .returned (.int .i64 2) ∧ w = w' := by
  go_enter Try.func21, Try.ntmps21
  go_wp2_with fail
  go_ret
  exact ⟨rfl, rfl⟩
theorem known1 : Wire.numOf [] 0 9 = ([], 1) := by decide +kernel
theorem known2 : Wire.numOf [] 0 0 = ([], 1) := by decide +kernel
theorem known3 : Wire.numOf [7] 18446744073709551615 8 = ([7, 255, 255, 255, 255, 255, 255, 255, 255], 0) := by decide +kernel
theorem known4 : Wire.numRead [1] 2 = (0, 4, [1]) := by decide +kernel
theorem known5 : Wire.numRead [1] 0 = (0, 1, [1]) := by decide +kernel
theorem known6 : Wire.takeRead [1] (-1) = ([], 1, [1]) := by decide +kernel
theorem known7 : Wire.takeRead [1] 0 = ([], 0, [1]) := by decide +kernel
set_option maxHeartbeats 3200000 in
set_option maxRecDepth 100000 in
theorem wireKnown_walk (w : World) : Calls Try.prog 8 #[] w fun e w' => e = .returned (.bool true) ∧ Below w.heap.size w w' := by
  go_enter Try.func8, Try.ntmps8
  go_wp2_with fail
  refine (awake_calls w).mono ?_
  rintro e w0 ⟨rfl, hb0⟩
  go_wp2_with fail
  refine (wnum_any none 0 0 0 9 [] w0 (fun _ => True) (RdB.nil _ _ _) (by omega) (by omega)).mono ?_
  unfold RetNum
  rw [known1]
  rintro e w1 ⟨v1, rfl, _, hb1⟩
  have hb01 := belowThen hb0 hb0.size hb1
  clear hb0 hb1
  go_wp2_with fail
  refine (wnum_any none 0 0 0 0 [] w1 (fun _ => True) (RdB.nil _ _ _) (by omega) (by omega)).mono ?_
  unfold RetNum
  rw [known2]
  rintro e w2 ⟨v2, rfl, _, hb2⟩
  have hb02 := belowThen hb01 hb01.size hb2
  clear hb01 hb2
  go_wp2_with fail
  have hr2 := rdLitN w2 w2.heap.size rfl #[.int .u8 7] (0, 0) 1 [7] rfl rfl (by omega)
  have hb2 := hb02.alloc hb02.size (.cells #[.int .u8 7] 5)
  refine (wnum_any _ 1 1 18446744073709551615 8 [7] _ _ hr2 (by omega) (by omega)).mono ?_
  unfold RetNum
  rw [known3]
  rintro e w3 ⟨v3, rfl, ho3, hb3⟩
  have hb03 := belowThen hb2 hb2.size hb3
  have hc3 : (w2.alloc (.cells #[.int .u8 7] 5)).heap.size = w2.heap.size + 1 := World.size_alloc _ _
  rw [hc3] at ho3
  obtain ⟨gc, capc, rfl, hg0, hg1, _, _, _⟩ := ho3.form (by simp)
  clear hb02 hb2 hr2 hb3 hc3
  go_wp2_with fail
  have hr3 := rdLitN w3 w3.heap.size rfl #[.int .u8 1] (0, 0) 1 [1] rfl rfl (by omega)
  have hb3 := hb03.alloc hb03.size (.cells #[.int .u8 1] 5)
  have ho3' := ho3.below ((Below.refl _ w3).alloc (Nat.le_refl _) (.cells #[.int .u8 1] 5))
  refine (new_calls _ 1 1 [1] _ _ hr3 (by omega)).mono ?_
  rintro e w4 ⟨g, rfl, hgs, ⟨A4, n4, c4, hR4⟩, hb4⟩
  have hb04 := belowThen hb3 hb3.size hb4
  have ho4 := ho3'.below hb4
  rw [World.size_alloc] at hgs
  have hg0' : w.heap.size ≤ g := by have := hb03.size; omega
  clear hr3 hb3 hb4 ho3' ho3 hb03
  go_wp2_with fail
  refine (read_calls g g A4 n4 c4 [1] 2 w4 hR4 (Nat.le_of_lt hR4.1)).mono ?_
  unfold RetRead
  rw [known4]
  rintro e w5 ⟨rfl, ⟨A5, n5, c5, hR5⟩, hg5⟩
  have hb5 := hb04.grown hg5 hb04.size (fun k hk => by injection hk with hk; omega)
  have ho5 := ho4.grown hg5 (fun k hk e => by injection e with e; injection hk with hk; simp only at hk; omega)
  clear hb04 ho4 hg5 hR4
  go_wp2_with fail
  refine (read_calls g g A5 n5 c5 [1] 0 w5 hR5 (Nat.le_of_lt hR5.1)).mono ?_
  unfold RetRead
  rw [known5]
  rintro e w6 ⟨rfl, ⟨A6, n6, c6, hR6⟩, hg6⟩
  have hb6 := hb5.grown hg6 hb5.size (fun k hk => by injection hk with hk; omega)
  have ho6 := ho5.grown hg6 (fun k hk e => by injection e with e; injection hk with hk; simp only at hk; omega)
  clear hb5 ho5 hg6 hR5
  go_wp2_with fail
  refine (take_calls g g A6 n6 c6 [1] (-1) w6 hR6 (Nat.le_of_lt hR6.1) (by have := hR6.2.2.2.2.2.len; simp at this; omega)).mono ?_
  unfold RetTake
  rw [known6]
  rintro e w7 ⟨v7, rfl, _, ⟨A7, n7, c7, hR7⟩, hg7⟩
  have hb7 := hb6.grown hg7 hb6.size (fun k hk => by injection hk with hk; omega)
  have ho7 := ho6.grown hg7 (fun k hk e => by injection e with e; injection hk with hk; simp only at hk; omega)
  clear hb6 ho6 hg7 hR6
  go_wp2_with fail
  refine (take_calls g g A7 n7 c7 [1] 0 w7 hR7 (Nat.le_of_lt hR7.1) (by have := hR7.2.2.2.2.2.len; simp at this; omega)).mono ?_
  unfold RetTake
  rw [known7]
  rintro e w8 ⟨v8, rfl, hv8, ⟨A8, n8, c8, hR8⟩, hg8⟩
  obtain ⟨B8, d8, rfl, _, _, _⟩ := hv8.rd
  have hb8 := hb7.grown hg8 hb7.size (fun k hk => by injection hk with hk; omega)
  have ho8 := ho7.grown hg8 (fun k hk e => by injection e with e; injection hk with hk; simp only at hk; omega)
  clear hb7 ho7 hg8 hR7 hv8
  go_wp2_with fail
  refine (read_nil 1 w8).mono ?_
  rintro e w9 ⟨rfl, hb9⟩
  have hR9 := hR8.below hb9
  have ho9 := ho8.below hb9
  have hb09 := belowThen hb8 hb8.size hb9
  clear hR8 ho8 hb8 hb9
  go_wp2_with fail
  refine (take_nil 0 w9).mono ?_
  rintro e w10 ⟨rfl, rfl⟩
  obtain ⟨gc', capc', ec, _, _, _, hcell, _⟩ := ho9.form (by simp)
  cases ec
  have k0 : w9.cell? ⟨gc, 0, none⟩ = some (.int .u8 7) := hcell 0 (by simp)
  have k8 : w9.cell? ⟨gc, 8, none⟩ = some (.int .u8 255) := hcell 8 (by simp)
  clear ho9 hcell
  go_wp2_with fail
  refine (left_calls g _ _ _ _ _ _ hR9).mono ?_
  rintro e w10 ⟨rfl, rfl⟩
  go_wp2_with fail
  refine (end_calls g _ _ _ _ _ _ hR9).mono ?_
  rintro e w10 ⟨rfl, rfl⟩
  have he1 : endOf [1] = 3 := rfl
  rw [he1]
  go_wp2_with fail
  refine (left_nil w9).mono ?_
  rintro e w10 ⟨rfl, rfl⟩
  go_wp2_with fail
  refine (end_nil w9).mono ?_
  rintro e w10 ⟨rfl, rfl⟩
  go_wp2_with fail
  refine (end_unmade w9.heap.size _ (World.cell?_alloc_new _ _ _ 1)).mono ?_
  rintro e w10 ⟨rfl, rfl⟩
  go_wp2
  go_ret
  exact ⟨rfl, hb09.alloc hb09.size _⟩
end Go.Proofs.Ytljbghgpojdikaa
