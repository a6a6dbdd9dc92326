/-
  The walk of law09's awake.
-/
import Derived.Test.YtnadohbgnanpiaaPad9
namespace Go.Proofs.Ytnadohbgnanpiaa
open Go.RowKit

theorem stepBelow {w W W' : World} (h : Below w.heap.size w W) (k : Below W.heap.size W W') : Below w.heap.size w W' := belowThen h h.size k
theorem rowLit (w : World) (cs : Array Value) (fr : Nat × Nat) (n : Nat) (xs : List UInt8) (hc : (bvals xs).toArray = cs) (hn : xs.length = n) (hm : n ≤ 9223372036854775807) :
    RdB (w.alloc (.cells cs 5 fr)) (fun _ => True) (some ⟨w.heap.size, 0, none⟩) n xs ∧ Below w.heap.size w (w.alloc (.cells cs 5 fr)) ∧ (w.alloc (.cells cs 5 fr)).heap.size = w.heap.size + 1 :=
  ⟨(rdLitN w w.heap.size rfl cs fr n xs hc hn hm).mono fun _ _ _ => trivial, (Below.refl _ _).alloc (Nat.le_refl _) _, by simp⟩
theorem rowsLit (w : World) (vs : List Value) (ls : List (List UInt8)) (n : Nat) (hn : ls.length = n) (hm : n ≤ 9223372036854775807) (cs : Array Value) (hc : vs.toArray = cs)
    (hv : ∀ j, j < n → ∃ Aj nj cj, vs[j]? = some (.slice Aj nj cj) ∧ nj ≤ cj ∧ RdB w (fun _ => True) Aj nj (lrow ls j)) :
    RdBB (w.alloc (.cells cs 28)) (fun _ => True) (some ⟨w.heap.size, 0, none⟩) n ls ∧ Below w.heap.size w (w.alloc (.cells cs 28)) :=
  ⟨RdBB.lit w (fun _ => True) ls vs n hn hm trivial cs hc hv, (Below.refl _ _).alloc (Nat.le_refl _) _⟩
theorem OwnBB.rdn {w : World} {base : Nat} {v : Value} {ls : List (List UInt8)} (h : OwnBB w base v ls) (n : Nat) (hn : ls.length = n) : ∃ A c, v = .slice A n c ∧ n ≤ c ∧ RdBB w (fun k => base ≤ k) A n ls := by
  obtain ⟨A, c, h1, h2, h3⟩ := h.rd
  subst hn
  exact ⟨A, c, h1, h2, h3⟩
theorem OwnB.rdn {w : World} {base : Nat} {v : Value} {xs : List UInt8} (h : OwnB w base v xs) (n : Nat) (hn : xs.length = n) : ∃ A c, v = .slice A n c ∧ n ≤ c ∧ RdB w (fun k => base ≤ k ∧ v.ownBlock = some k) A n xs := by
  obtain ⟨A, c, h1, h2, _, h3⟩ := h.rd
  subst hn
  exact ⟨A, c, h1, h2, h3⟩
theorem aw1 : Pad.lays [97] 2 3 = [[0, 0, 0], [1, 97, 0]] := by decide
theorem aw2 : Pad.takes [[0, 0, 0], [1, 97, 0]] 2 3 = ([97], 0) := by decide
theorem aw3 : Pad.takes [[0, 0, 0], [3, 97, 98]] 2 3 = ([], 5) := by decide
theorem aw4 : chunkRes [97, 98, 99, 100, 101, 102, 103] [3, 3] (6 - 4) = ([[97, 98], [99], [100, 101], [102, 103]], [], 0) := by decide
theorem two (w : World) (A0 A1 : Option Addr) (x y : List UInt8) (n0 n1 c0 c1 : Nat) (h0 : RdB w (fun _ => True) A0 n0 x) (h1 : RdB w (fun _ => True) A1 n1 y) (k0 : n0 ≤ c0) (k1 : n1 ≤ c1) :
    ∀ j, j < 2 → ∃ Aj nj cj, [Value.slice A0 n0 c0, .slice A1 n1 c1][j]? = some (.slice Aj nj cj) ∧ nj ≤ cj ∧ RdB w (fun _ => True) Aj nj (lrow [x, y] j) := by
  intro j hj
  match j, hj with
  | 0, _ => exact ⟨A0, n0, c0, rfl, k0, h0⟩
  | 1, _ => exact ⟨A1, n1, c1, rfl, k1, h1⟩
theorem intsLit (w : World) (zs : List Int) (n : Nat) (hn : zs.length = n) (hm : n ≤ 9223372036854775807) (hz : ∀ z ∈ zs, -9223372036854775808 ≤ z ∧ z ≤ 9223372036854775807) (cs : Array Value) (hc : (zs.map fun z => Value.int .i64 z).toArray = cs) :
    RdI (w.alloc (.cells cs 3)) (fun k => k < (w.alloc (.cells cs 3)).heap.size) (some ⟨w.heap.size, 0, none⟩) n zs := by
  subst hc
  refine ⟨hn, hm, hz, fun _ => ⟨_, rfl, by simp, by simp, rfl, fun j hj => ?_⟩⟩
  rw [addPlain, World.cell?_alloc_new]
  simp [show j < zs.length by omega]
theorem four (w : World) (A0 A1 A2 A3 : Option Addr) (x y z u : List UInt8) (n0 n1 n2 n3 c0 c1 c2 c3 : Nat) (h0 : RdB w (fun _ => True) A0 n0 x) (h1 : RdB w (fun _ => True) A1 n1 y) (h2 : RdB w (fun _ => True) A2 n2 z) (h3 : RdB w (fun _ => True) A3 n3 u) (k0 : n0 ≤ c0) (k1 : n1 ≤ c1) (k2 : n2 ≤ c2) (k3 : n3 ≤ c3) :
    ∀ j, j < 4 → ∃ Aj nj cj, [Value.slice A0 n0 c0, .slice A1 n1 c1, .slice A2 n2 c2, .slice A3 n3 c3][j]? = some (.slice Aj nj cj) ∧ nj ≤ cj ∧ RdB w (fun _ => True) Aj nj (lrow [x, y, z, u] j) := by
  intro j hj
  match j, hj with
  | 0, _ => exact ⟨A0, n0, c0, rfl, k0, h0⟩
  | 1, _ => exact ⟨A1, n1, c1, rfl, k1, h1⟩
  | 2, _ => exact ⟨A2, n2, c2, rfl, k2, h2⟩
  | 3, _ => exact ⟨A3, n3, c3, rfl, k3, h3⟩
set_option maxHeartbeats 4000000 in
theorem awake_calls (w : World) : Calls Try.prog 13 #[] w fun e w' => e = .returned (.bool true) ∧ Below w.heap.size w w' := by
  have kc := conv_const
  obtain ⟨r0, b0, _⟩ := rowLit w #[.int .u8 97] (1, 2) 1 [97] rfl rfl (by omega)
  go_enter Try.func13, Try.ntmps13
  go_wp2_with fail
  refine (lay_calls (some ⟨w.heap.size, 0, none⟩) 1 1 2 3 6 [97] _ _ r0 rfl (by omega) (by omega) (by omega) (by omega) (by omega) (by omega) (by omega) (by omega) (by omega)).mono ?_
  rw [aw1]
  rintro e w1 ⟨v1, rfl, ho1, hb⟩
  obtain ⟨A1, c1, rfl, hc1, r1⟩ := ho1.rdn 2 rfl
  have hb1 := stepBelow b0 hb
  clear r0 b0 hb ho1
  go_wp2_with fail
  refine (ptake_calls A1 2 c1 2 3 6 [[0, 0, 0], [1, 97, 0]] w1 _ r1 hc1 rfl (by omega) (by omega) (by omega) (by omega) (by omega) (by omega) (by omega)).mono ?_
  unfold RetTk
  rw [aw2]
  rintro e w2 ⟨v2, rfl, ho2, hb⟩
  have hb2 := stepBelow hb1 hb
  have r1 := r1.below hb
  obtain ⟨A2, c2, rfl, hc2, r2⟩ := ho2.rdn 1 rfl
  clear hb1 hb ho2
  obtain ⟨p1, q1, z1⟩ := rowLit w2 #[.int .u8 0, .int .u8 0, .int .u8 0] (0, 0) 3 [0, 0, 0] rfl rfl (by omega)
  obtain ⟨wa, hwa⟩ : ∃ wa, w2.alloc (.cells #[.int .u8 0, .int .u8 0, .int .u8 0] 5) = wa := ⟨_, rfl⟩
  rw [hwa] at p1 q1 z1
  obtain ⟨p2, q2, z2⟩ := rowLit wa #[.int .u8 3, .int .u8 97, .int .u8 98] (0, 0) 3 [3, 97, 98] rfl rfl (by omega)
  obtain ⟨wb, hwb⟩ : ∃ wb, wa.alloc (.cells #[.int .u8 3, .int .u8 97, .int .u8 98] 5) = wb := ⟨_, rfl⟩
  rw [hwb] at p2 q2 z2
  rw [z1] at p2 z2
  obtain ⟨p3, q3⟩ := rowsLit wb [.slice (some ⟨w2.heap.size, 0, none⟩) 3 3, .slice (some ⟨w2.heap.size + 1, 0, none⟩) 3 3] [[0, 0, 0], [3, 97, 98]] 2 rfl (by omega) _ rfl
    (two wb _ _ _ _ 3 3 3 3 (p1.below q2) p2 (by omega) (by omega))
  rw [z2] at p3
  have hb2' := stepBelow (stepBelow (stepBelow hb2 q1) q2) q3
  have r1' := (((r1.below q1).below q2).below q3)
  have r2' := (((r2.below q1).below q2).below q3)
  rw [← hwb, ← hwa] at p3 hb2' r1' r2'
  clear hwa hwb p1 q1 z1 p2 q2 z2 q3 r1 r2 hb2
  go_wp2_with fail
  refine (ptake_calls (some ⟨w2.heap.size + 1 + 1, 0, none⟩) 2 2 2 3 6 [[0, 0, 0], [3, 97, 98]] _ _ p3 (by omega) rfl (by omega) (by omega) (by omega) (by omega) (by omega) (by omega) (by omega)).mono ?_
  unfold RetTk
  rw [aw3]
  rintro e w3 ⟨v3, rfl, _, hb⟩
  have hb3 := stepBelow hb2' hb
  have r1 := r1'.below hb
  have r2 := r2'.below hb
  clear p3 hb hb2' r1' r2'
  obtain ⟨p1, q1, z1⟩ := rowLit w3 #[.int .u8 97, .int .u8 98, .int .u8 99, .int .u8 100, .int .u8 101, .int .u8 102, .int .u8 103] (7, 8) 7 [97, 98, 99, 100, 101, 102, 103] rfl rfl (by omega)
  obtain ⟨wa, hwa⟩ : ∃ wa, w3.alloc (.cells #[.int .u8 97, .int .u8 98, .int .u8 99, .int .u8 100, .int .u8 101, .int .u8 102, .int .u8 103] 5 (7, 8)) = wa := ⟨_, rfl⟩
  rw [hwa] at p1 q1 z1
  have p2 := intsLit wa [3, 3] 2 rfl (by omega) (by simp) #[.int .i64 3, .int .i64 3] rfl
  have q2 : Below wa.heap.size wa (wa.alloc (.cells #[.int .i64 3, .int .i64 3] 3)) := (Below.refl _ _).alloc (Nat.le_refl _) _
  have p1' := (p1.below q2).mono (ok' := fun k => k < (wa.alloc (.cells #[.int .i64 3, .int .i64 3] 3)).heap.size) fun k _ hl => hl
  have hb3' := stepBelow (stepBelow hb3 q1) q2
  have r1' := (r1.below q1).below q2
  have r2' := (r2.below q1).below q2
  rw [z1] at p2
  rw [← hwa] at p2 p1' hb3' r1' r2'
  clear hwa p1 q1 z1 q2 r1 r2 hb3
  go_wp2_with fail
  refine (chunks_calls (some ⟨w3.heap.size, 0, none⟩) 7 7 [97, 98, 99, 100, 101, 102, 103] (some ⟨w3.heap.size + 1, 0, none⟩) 2 2 [3, 3] 2 3 6 _ p1' (by omega) (by omega) p2 (by omega) (by omega) (by omega) (by omega) (by omega) (by omega) (by omega)).mono ?_
  unfold RetCh
  rw [aw4]
  rintro e w4 ⟨v4, u4, rfl, ho4, hu4, hb⟩
  obtain ⟨A4, c4, rfl, hc4, r4⟩ := ho4.rdn 4 rfl
  obtain ⟨A5, c5, rfl, hc5, _⟩ := hu4.rdn 0 rfl
  have hb4 := stepBelow hb3' hb
  have r1 := r1'.below hb
  have r2 := r2'.below hb
  clear p1' p2 hb3' r1' r2' hb ho4 hu4
  obtain ⟨p1, q1, z1⟩ := rowLit w4 #[.int .u8 0, .int .u8 0, .int .u8 0] (0, 0) 3 [0, 0, 0] rfl rfl (by omega)
  obtain ⟨wa, hwa⟩ : ∃ wa, w4.alloc (.cells #[.int .u8 0, .int .u8 0, .int .u8 0] 5) = wa := ⟨_, rfl⟩
  rw [hwa] at p1 q1 z1
  obtain ⟨p2, q2, z2⟩ := rowLit wa #[.int .u8 1, .int .u8 97, .int .u8 0] (0, 0) 3 [1, 97, 0] rfl rfl (by omega)
  obtain ⟨wb, hwb⟩ : ∃ wb, wa.alloc (.cells #[.int .u8 1, .int .u8 97, .int .u8 0] 5) = wb := ⟨_, rfl⟩
  rw [hwb] at p2 q2 z2
  rw [z1] at p2 z2
  obtain ⟨p3, q3⟩ := rowsLit wb [.slice (some ⟨w4.heap.size, 0, none⟩) 3 3, .slice (some ⟨w4.heap.size + 1, 0, none⟩) 3 3] [[0, 0, 0], [1, 97, 0]] 2 rfl (by omega) _ rfl
    (two wb _ _ _ _ 3 3 3 3 (p1.below q2) p2 (by omega) (by omega))
  rw [z2] at p3
  have hb4' := stepBelow (stepBelow (stepBelow hb4 q1) q2) q3
  have r1' := (((r1.below q1).below q2).below q3)
  have r2' := (((r2.below q1).below q2).below q3)
  have r4' := (((r4.below q1).below q2).below q3)
  rw [← hwb, ← hwa] at p3 hb4' r1' r2' r4'
  clear hwa hwb p1 q1 z1 p2 q2 z2 q3 r1 r2 r4 hb4
  go_wp2_with fail
  refine (weakD (bb_same_eq A1 (some ⟨w4.heap.size + 1 + 1, 0, none⟩) 2 c1 2 [[0, 0, 0], [1, 97, 0]] _ _ _ r1' p3)).mono ?_
  rintro e w5 ⟨rfl, hb⟩
  have hb5 := stepBelow hb4' hb
  have r2 := r2'.below hb
  have r4 := r4'.below hb
  have hcv := conv_string r2 c2
  have hst : (strOf [97]).toList = [97] := strOf_toList _
  clear p3 hb hb4' r1' r2' r4' r2
  obtain ⟨p1, q1, z1⟩ := rowLit w5 #[.int .u8 97, .int .u8 98] (2, 3) 2 [97, 98] rfl rfl (by omega)
  obtain ⟨wa, hwa⟩ : ∃ wa, w5.alloc (.cells #[.int .u8 97, .int .u8 98] 5 (2, 3)) = wa := ⟨_, rfl⟩
  rw [hwa] at p1 q1 z1
  obtain ⟨p2, q2, z2⟩ := rowLit wa #[.int .u8 99] (1, 2) 1 [99] rfl rfl (by omega)
  obtain ⟨wb, hwb⟩ : ∃ wb, wa.alloc (.cells #[.int .u8 99] 5 (1, 2)) = wb := ⟨_, rfl⟩
  rw [hwb] at p2 q2 z2
  have k2 := conv_const wa #[.int .u8 99] 1 1
  rw [z1] at p2 z2 k2
  obtain ⟨p3, q3, z3⟩ := rowLit wb #[.int .u8 100, .int .u8 101] (2, 3) 2 [100, 101] rfl rfl (by omega)
  obtain ⟨wc, hwc⟩ : ∃ wc, wb.alloc (.cells #[.int .u8 100, .int .u8 101] 5 (2, 3)) = wc := ⟨_, rfl⟩
  rw [hwc] at p3 q3 z3
  have k3 := conv_const wb #[.int .u8 100, .int .u8 101] 2 2
  rw [z2] at p3 z3 k3
  obtain ⟨p4, q4, z4⟩ := rowLit wc #[.int .u8 102, .int .u8 103] (2, 3) 2 [102, 103] rfl rfl (by omega)
  obtain ⟨wd, hwd⟩ : ∃ wd, wc.alloc (.cells #[.int .u8 102, .int .u8 103] 5 (2, 3)) = wd := ⟨_, rfl⟩
  rw [hwd] at p4 q4 z4
  have k4 := conv_const wc #[.int .u8 102, .int .u8 103] 2 2
  rw [z3] at p4 z4 k4
  obtain ⟨p5, q5⟩ := rowsLit wd [.slice (some ⟨w5.heap.size, 0, none⟩) 2 2, .slice (some ⟨w5.heap.size + 1, 0, none⟩) 1 1, .slice (some ⟨w5.heap.size + 1 + 1, 0, none⟩) 2 2, .slice (some ⟨w5.heap.size + 1 + 1 + 1, 0, none⟩) 2 2] [[97, 98], [99], [100, 101], [102, 103]] 4 rfl (by omega) _ rfl
    (four wd _ _ _ _ _ _ _ _ 2 1 2 2 2 1 2 2 (((p1.below q2).below q3).below q4) ((p2.below q3).below q4) (p3.below q4) p4 (by omega) (by omega) (by omega) (by omega))
  rw [z4] at p5
  have hb5' := stepBelow (stepBelow (stepBelow (stepBelow (stepBelow hb5 q1) q2) q3) q4) q5
  have r4' := ((((r4.below q1).below q2).below q3).below q4).below q5
  rw [← hwd, ← hwc, ← hwb, ← hwa] at p5 hb5' r4'
  rw [← hwa] at k2
  rw [← hwb, ← hwa] at k3
  rw [← hwc, ← hwb, ← hwa] at k4
  clear hwa hwb hwc hwd p1 q1 z1 p2 q2 z2 p3 q3 z3 p4 q4 z4 q5 r4
  go_wp2_with fail
  refine (weakD (bb_same_eq A4 (some ⟨w5.heap.size + 1 + 1 + 1 + 1, 0, none⟩) 4 c4 4 [[97, 98], [99], [100, 101], [102, 103]] _ _ _ r4' p5)).mono ?_
  rintro e w6 ⟨rfl, hb⟩
  have hb6 := stepBelow hb5' hb
  go_wp2_with fail
  go_ret
  exact ⟨rfl, hb6⟩
end Go.Proofs.Ytnadohbgnanpiaa
