/-
  The walk of TopoKnown.
-/
import Derived.Test.YtgfnlfkbbedkaaaTpKe
import Derived.Deep.CutBlock
import Derived.Deep.LoopGhost
namespace Go.Proofs.Ytgfnlfkbbedkaaa
open Go.RowKit
set_option linter.unusedVariables false
set_option linter.unusedSimpArgs false

set_option maxRecDepth 100000 in
set_option maxHeartbeats 16000000 in
theorem topoKnown_walk (w : World) : Calls Try.prog 6 #[] w fun e w' => e = .returned (.bool true) ∧ Below w.heap.size w w' := by
  go_enter Try.func6, Try.ntmps6
  go_upto_region 2 with (fail)
  obtain ⟨w1, hw1⟩ : ∃ w1, ((w.alloc (.cells #[.int .i64 3, .int .i64 4] 3)).alloc (.cells #[.int .i64 1, .int .i64 5, .int .i64 0, .slice (some ⟨w.heap.size, 0, none⟩) 2 2] 46)).alloc (.cells #[.int .i64 5, .slice (some ⟨w.heap.size + 1, 0, none⟩) 1 1, .int .i64 1, .int .i64 1] 49) = w1 := ⟨_, rfl⟩
  obtain ⟨hCW, hb1⟩ := CW.made w w1 hw1
  rw [hw1]
  obtain ⟨P, hP⟩ : ∃ P, w.heap.size + 2 = P := ⟨_, rfl⟩
  obtain ⟨F, hF⟩ : ∃ F, w.heap.size + 1 = F := ⟨_, rfl⟩
  obtain ⟨S, hS⟩ : ∃ S, w.heap.size = S := ⟨_, rfl⟩
  rw [hP, hF] at hCW
  rw [hS] at hCW
  try rw [hP]
  obtain ⟨f0, f1, f2, f3⟩ := hCW.p
  have hPl := hCW.lt.1
  have hcf := (hCW.below (Below.refl w1.heap.size w1).drew).config
  have H1 := Lib.hid hCW
  have HB1 := Lib.hid hb1
  clear hw1 hCW hb1 hP hF hS
  go_region_held3 (fun w' => w'.cell? ⟨P, 0, none⟩ = some (.int .i64 5) ∧ w'.cell? ⟨P, 1, none⟩ = some (.slice (some ⟨F, 0, none⟩) 1 1) ∧ w'.cell? ⟨P, 2, none⟩ = some (.int .i64 1) ∧ w'.cell? ⟨P, 3, none⟩ = some (.int .i64 1))
    (first | exact H1.out.p | exact H2.out.p | exact H3.out.p | exact H4.out.p | exact H5.out.p | exact H6.out.p | exact H7.out.p | exact H8.out.p | exact H9.out.p | exact H10.out.p | exact H11.out.p | exact H12.out.p | exact H13.out.p | exact (H7.out.below ((Below.refl _ _).alloc (Nat.le_refl _) _)).p | exact (H9.out.below ((Below.refl _ _).alloc (Nat.le_refl _) _)).p | exact (H11.out.below ((Below.refl _ _).alloc (Nat.le_refl _) _)).p | go_keep)
    (first
      | (go_at_call 19; (with_reducible refine hcf.mono ?_); rintro e w2 ⟨rfl, b2⟩; have H2 := Lib.hid (H1.out.below ((Below.refl w1.heap.size w1).drew.trans b2)); have B2 := Lib.hid ((Below.refl w1.heap.size w1).drew.trans b2); have hd2 := diamond_none w2; clear hcf b2)
      | (go_at_call 21; (with_reducible refine hd2.mono ?_); rintro e w3 ⟨v3, rfl, hT3, b3⟩; have H3 := Lib.hid (H2.out.below b3); have B3 := Lib.hid b3; have hm3 := H3.out.may hT3 (few_one (by decide)) known_dia; clear hd2 hT3 b3)
      | (go_at_call 20; (with_reducible refine hm3.mono ?_); rintro e w4 ⟨rfl, b4⟩; have H4 := Lib.hid (H3.out.below b4); have B4 := Lib.hid b4; have hd4 := diamond_none w4; clear hm3 b4)
      | (go_at_call 21; (with_reducible refine hd4.mono ?_); rintro e w5 ⟨v5, rfl, hT5, b5⟩; have H5 := Lib.hid (H4.out.below b5); have B5 := Lib.hid b5; have hm5 := zero_may hT5; clear hd4 hT5 b5)
      | (go_at_call 20; (with_reducible refine hm5.mono ?_); rintro e w6 ⟨rfl, b6⟩; have H6 := Lib.hid (H5.out.below b6); have B6 := Lib.hid b6; have hm6 := H6.out.empty; clear hm5 b6)
      | (go_at_call 20; (with_reducible refine hm6.mono ?_); rintro e w7 ⟨rfl, b7⟩; have H7 := Lib.hid (H6.out.below b7); have B7 := Lib.hid b7; have HP7 := H7.out.lt.1; have hd7 := diamond_one w7 1 5 (by decide) (by decide); clear hm6 b7)
      | (go_at_call 21; (with_reducible refine hd7.mono ?_); rintro e w8 ⟨v8, rfl, hT8, b8⟩; have H8 := Lib.hid (H7.out.below b8); have B8 := Lib.hid b8; have hm8 := H8.out.may hT8 (few_one (by decide)) known_out; clear hd7 hT8 b8)
      | (go_at_call 20; (with_reducible refine hm8.mono ?_); rintro e w9 ⟨rfl, b9⟩; have H9 := Lib.hid (H8.out.below b9); have B9 := Lib.hid b9; have HP9 := H9.out.lt.1; have hd9 := diamond_one w9 1 1 (by decide) (by decide); clear hm8 b9)
      | (go_at_call 21; (with_reducible refine hd9.mono ?_); rintro e w10 ⟨v10, rfl, hT10, b10⟩; have H10 := Lib.hid (H9.out.below b10); have B10 := Lib.hid b10; have hm10 := H10.out.may hT10 (few_one (by decide)) known_self; clear hd9 hT10 b10)
      | (go_at_call 20; (with_reducible refine hm10.mono ?_); rintro e w11 ⟨rfl, b11⟩; have H11 := Lib.hid (H10.out.below b11); have B11 := Lib.hid b11; have HP11 := H11.out.lt.1; have hd11 := diamond_one w11 1 2 (by decide) (by decide); clear hm10 b11)
      | (go_at_call 21; (with_reducible refine hd11.mono ?_); rintro e w12 ⟨v12, rfl, hT12, b12⟩; have H12 := Lib.hid (H11.out.below b12); have B12 := Lib.hid b12; have hm12 := H12.out.may hT12 (few_one (by decide)) known_order; clear hd11 hT12 b12)
      | (go_at_call 20; (with_reducible refine hm12.mono ?_); rintro e w13 ⟨rfl, b13⟩; have H13 := Lib.hid (H12.out.below b13); have B13 := Lib.hid b13; clear hm12 b13))
  all_goals
    have BA : Hid (Below w1.heap.size w1 w13) := by
      have z := B2.out
      have z := belowThen z z.size B3.out
      have z := belowThen z z.size B4.out
      have z := belowThen z z.size B5.out
      have z := belowThen z z.size B6.out
      have z := belowThen z z.size B7.out
      have z := belowThen z z.size B8.out
      have z := belowThen z z.size B9.out
      have z := belowThen z z.size B10.out
      have z := belowThen z z.size B11.out
      have z := belowThen z z.size B12.out
      have z := belowThen z z.size B13.out
      exact Lib.hid z
    clear f0 f1 f2 f3 hPl B2 B3 B4 B5 B6 B7 B8 B9 B10 B11 B12 B13 H2 H3 H4 H5 H6 H7 H8 H9 H10 H11 H12 HP7 HP9 HP11
    have hk := change_calls w13 P F S 1 2 H13.out 23 _ _ _ _ does2 (fun _ _ => rfl) (by decide) _ chg2
    go_wp2_with fail
    refine hk.mono ?_
    rintro e x0 ⟨rfl, b⟩
    have Bx0 := Lib.hid b
    have Hx0 := Lib.hid (H13.out.below b)
    clear hk b
    have hk := change_calls x0 P F S 1 2 Hx0.out 24 _ _ _ _ does3 (fun _ _ => rfl) (by decide) _ chg3
    go_wp2_with fail
    refine hk.mono ?_
    rintro e x1 ⟨rfl, b⟩
    have Bx1 := Lib.hid b
    have Hx1 := Lib.hid (Hx0.out.below b)
    clear hk b
    have hk := change_calls x1 P F S 1 2 Hx1.out 25 _ _ _ _ does4 (fun _ _ => rfl) (by decide) _ chg4
    go_wp2_with fail
    refine hk.mono ?_
    rintro e x2 ⟨rfl, b⟩
    have Bx2 := Lib.hid b
    have Hx2 := Lib.hid (Hx1.out.below b)
    clear hk b
    have hk := change_calls x2 P F S 1 2 Hx2.out 26 _ _ _ _ does5 (fun _ _ => rfl) (by decide) _ chg5
    go_wp2_with fail
    refine hk.mono ?_
    rintro e x3 ⟨rfl, b⟩
    have Bx3 := Lib.hid b
    have Hx3 := Lib.hid (Hx2.out.below b)
    clear hk b
    have hk := change_calls x3 P F S 1 2 Hx3.out 27 _ _ _ _ does6 (fun _ _ => rfl) (by decide) _ chg6
    go_wp2_with fail
    refine hk.mono ?_
    rintro e x4 ⟨rfl, b⟩
    have Bx4 := Lib.hid b
    have Hx4 := Lib.hid (Hx3.out.below b)
    clear hk b
    have hk := change_calls x4 P F S 1 2 Hx4.out 28 _ _ _ _ does7 (fun _ _ => rfl) (by decide) _ chg7
    go_wp2_with fail
    refine hk.mono ?_
    rintro e x5 ⟨rfl, b⟩
    have Bx5 := Lib.hid b
    have Hx5 := Lib.hid (Hx4.out.below b)
    clear hk b
    have hk := change_calls x5 P F S 1 2 Hx5.out 29 _ _ _ _ does8 (fun _ _ => rfl) (by decide) _ chg8
    go_wp2_with fail
    refine hk.mono ?_
    rintro e x6 ⟨rfl, b⟩
    have Bx6 := Lib.hid b
    have Hx6 := Lib.hid (Hx5.out.below b)
    clear hk b
    have hk := change_calls x6 P F S 1 2 Hx6.out 30 _ _ _ _ does9 (fun _ _ => rfl) (by decide) _ chg9
    go_wp2_with fail
    refine hk.mono ?_
    rintro e x7 ⟨rfl, b⟩
    have Bx7 := Lib.hid b
    have Hx7 := Lib.hid (Hx6.out.below b)
    clear hk b
    have hk := change_calls x7 P F S 1 2 Hx7.out 31 _ _ _ _ does10 (fun _ _ => rfl) (by decide) _ chg10
    go_wp2_with fail
    refine hk.mono ?_
    rintro e x8 ⟨rfl, b⟩
    have Bx8 := Lib.hid b
    have Hx8 := Lib.hid (Hx7.out.below b)
    clear hk b
    have hk := change_calls x8 P F S 1 2 Hx8.out 32 _ _ _ _ does11 (fun _ _ => rfl) (by decide) _ chg11
    go_wp2_with fail
    refine hk.mono ?_
    rintro e x9 ⟨rfl, b⟩
    have Bx9 := Lib.hid b
    have Hx9 := Lib.hid (Hx8.out.below b)
    clear hk b
    have BC : Hid (Below w1.heap.size w1 x9) := by
      have z := BA.out
      have z := belowThen z z.size Bx0.out
      have z := belowThen z z.size Bx1.out
      have z := belowThen z z.size Bx2.out
      have z := belowThen z z.size Bx3.out
      have z := belowThen z z.size Bx4.out
      have z := belowThen z z.size Bx5.out
      have z := belowThen z z.size Bx6.out
      have z := belowThen z z.size Bx7.out
      have z := belowThen z z.size Bx8.out
      have z := belowThen z z.size Bx9.out
      exact Lib.hid z
    clear BA Bx0 Bx1 Bx2 Bx3 Bx4 Bx5 Bx6 Bx7 Bx8 Bx9 H13 Hx0 Hx1 Hx2 Hx3 Hx4 Hx5 Hx6 Hx7 Hx8
    go_upto_region 8 with (fail)
    obtain ⟨y1, hy1⟩ : ∃ y1, ((x9.alloc (.cells #[.int .i64 1] 3)).alloc (.cells #[.int .i64 5, .int .i64 1, .int .i64 0, .slice (some ⟨x9.heap.size, 0, none⟩) 1 1] 46)).alloc (.cells #[.int .i64 11, .slice (some ⟨x9.heap.size + 1, 0, none⟩) 1 1, .int .i64 1, .int .i64 1] 49) = y1 := ⟨_, rfl⟩
    obtain ⟨hWB, hby⟩ := WB.made x9 y1 hy1
    rw [hy1]
    obtain ⟨Q, hQ⟩ : ∃ Q, x9.heap.size + 1 + 1 = Q := ⟨_, rfl⟩
    obtain ⟨G, hG⟩ : ∃ G, x9.heap.size + 1 = G := ⟨_, rfl⟩
    rw [show x9.heap.size + 2 = Q from hQ, hG] at hWB
    rw [hQ]
    have HWB := Lib.hid hWB
    have HBY := Lib.hid hby
    have HC9 := Lib.hid (Hx9.out.below hby)
    clear hy1 hQ hG hWB hby
    go_upto_region 9 with (fail)
    obtain ⟨y2, hy2⟩ : ∃ y2, ((y1.alloc (.cells #[.bool true, .bool true, .bool true, .bool true, .bool true, .bool true, .bool true, .bool true, .bool true, .bool true, .bool true] 4)).alloc (.cells #[.slice none 0 0] 39)).alloc (.cells #[.int .u64 1, .slice (some ⟨y1.heap.size, 0, none⟩) 11 11, .slice (some ⟨y1.heap.size + 1, 0, none⟩) 1 1] 27) = y2 := ⟨_, rfl⟩
    obtain ⟨Y1, hY1⟩ : ∃ Y1, y1.alloc (.cells #[.bool true, .bool true, .bool true, .bool true, .bool true, .bool true, .bool true, .bool true, .bool true, .bool true, .bool true] 4) = Y1 := ⟨_, rfl⟩
    obtain ⟨Y2, hY2⟩ : ∃ Y2, Y1.alloc (.cells #[.slice none 0 0] 39) = Y2 := ⟨_, rfl⟩
    have hKT : KT y1 y2 (y1.heap.size + 2) y1.heap.size (y1.heap.size + 1) (.slice none 0 0) := by
      have hy2' := hy2
      rw [hY1, hY2] at hy2'
      have s1 : Y1.heap.size = y1.heap.size + 1 := by rw [← hY1]; simp
      have s2 : Y2.heap.size = y1.heap.size + 2 := by rw [← hY2]; simp [s1]
      have b1 : Below y1.heap.size y1 Y1 := by rw [← hY1]; exact (Below.refl _ _).alloc (Nat.le_refl _) _
      have b2 : Below Y1.heap.size Y1 Y2 := by rw [← hY2]; exact (Below.refl _ _).alloc (Nat.le_refl _) _
      have b3 : Below Y2.heap.size Y2 y2 := by rw [← hy2']; exact (Below.refl _ _).alloc (Nat.le_refl _) _
      have e1 : Y1.heap[y1.heap.size]? = some (.cells (up11.map Value.bool).toArray 4 (0, 0)) := by rw [← hY1]; exact heap_alloc_new y1 _
      have e2 : Y2.heap[y1.heap.size + 1]? = some (.cells #[.slice none 0 0] 39 (0, 0)) := by rw [← hY2, ← s1]; exact heap_alloc_new Y1 _
      have e3 : y2.heap[y1.heap.size + 2]? = some (.cells #[.int .u64 1, .slice (some ⟨y1.heap.size, 0, none⟩) 11 11, .slice (some ⟨y1.heap.size + 1, 0, none⟩) 1 1] 27 (0, 0)) := by rw [← hy2', ← s2]; exact heap_alloc_new Y2 _
      exact ⟨belowThen (belowThen b1 b1.size b2) (by omega) b3, ⟨by omega, by omega, by omega⟩, ⟨by omega, by omega, by omega⟩, e3, (b3.block _ (by omega)).trans ((b2.block _ (by omega)).trans e1), (b3.block _ (by omega)).trans e2⟩
    rw [hy2]
    obtain ⟨R, hR⟩ : ∃ R, y1.heap.size + 1 + 1 = R := ⟨_, rfl⟩
    obtain ⟨Hh, hHh⟩ : ∃ Hh, y1.heap.size + 1 = Hh := ⟨_, rfl⟩
    obtain ⟨U, hU⟩ : ∃ U, y1.heap.size = U := ⟨_, rfl⟩
    have hKT2 : KT y1 y2 R U Hh (.slice none 0 0) := by rw [← hR, ← hHh, ← hU]; exact hKT
    rw [hR]
    have HKT := Lib.hid hKT2
    clear hy2 hY1 hY2 hKT hKT2 hR hHh hU
    go_wp2_with fail
    go_loopg [5] 8 (fun gg s5 wx => ∃ (n : Nat) (A : Option Addr) (N c : Nat), n ≤ 8 ∧ 8 - n ≤ gg ∧ s5 = .int .i64 ((n : Int) + 1) ∧ Hid (KT y1 wx R U Hh (.slice A N c)) ∧ Hid (Own elEd 42 wx (KS y1 R U Hh) (.slice A N c) (wideL n)))
    case atStart => exact ⟨0, none, 0, 0, by omega, by omega, rfl, HKT, Lib.hid (Own.nil _ _ _ _)⟩
    case round =>
      clear HKT
      obtain ⟨n, A1, N1, c1, hn8, hgg, rfl, HT, HO⟩ := hrel
      by_cases hlt : n < 8
      · have hlti : (n : Int) + 1 < 9 := by omega
        have hn0 : (0 : Int) ≤ (n : Int) + 1 := by omega
        have hn9 : (n : Int) + 1 ≤ 9 := by omega
        obtain ⟨f0, f1, f2, f3, f4⟩ := HT.out.facts
        have hHl := (Array.getElem?_eq_some_iff.1 HT.out.bh).1
        obtain ⟨W, hW⟩ : ∃ W, (wr.alloc (.cells #[.int .i64 0, .int .i64 ((n : Int) + 1)] 42)).drew = W := ⟨_, rfl⟩
        obtain ⟨A2, N2, c2, w2, hrun, F2, ⟨q2, q3, q4⟩, s2, hK2, hO2⟩ := kt_add HT.out HO.out 0 ((n : Int) + 1) (by decide) ⟨by omega, by omega⟩ (by simp [wideL]; omega) W hW
        rw [show wideL n ++ [((0 : Int), (n : Int) + 1)] = wideL (n + 1) by rw [wideL_succ]; rfl] at hO2
        have HWW := Lib.hid hW
        have HRUN := Lib.hid hrun
        have HK2 := Lib.hid hK2
        have HO2 := Lib.hid hO2
        clear hW hrun hK2 hO2
        go_wp2_with fail
        refine wp_region_held_drew (S := fun w' => w'.cell? ⟨R, 2, none⟩ = some (.slice (some ⟨Hh, 0, none⟩) 1 1)) (by kernel_rfl) (f2) (fun hHeld => ?_)
        refine wpAnyH_take (i := 0) (v := ?_) rfl (by kernel_rfl) (by kernel_rfl) (by kernel_rfl) (fun _ _ _ h => h) (Or.inl ⟨by rfl, ?_⟩) (by assumption) ?_
        rotate_left
        · (intro w hSw; (try dsimp only at hSw); go_simp; try with_reducible rfl)
        try simp only [Act.put, List.setIfInBounds_toArray, List.set_cons_zero, List.set_cons_succ]
        refine wpAnyH_take (i := 1) (v := ?_) rfl (by kernel_rfl) (by kernel_rfl) (by kernel_rfl) (fun _ _ _ h => h) (Or.inl ⟨by rfl, ?_⟩) (by assumption) ?_
        rotate_left
        · (intro w hSw; (try dsimp only at hSw); go_simp; try with_reducible rfl)
        try simp only [Act.put, List.setIfInBounds_toArray, List.set_cons_zero, List.set_cons_succ]
        refine wpAnyH_take (i := 2) (v := ?_) rfl (by kernel_rfl) (by kernel_rfl) (by kernel_rfl) (fun _ _ _ h => h) (Or.inl ⟨by rfl, ?_⟩) (by assumption) ?_
        rotate_left
        · (intro w hSw; (try dsimp only at hSw); go_simp; try with_reducible rfl)
        try simp only [Act.put, List.setIfInBounds_toArray, List.set_cons_zero, List.set_cons_succ]
        refine wpAnyH_take (i := 3) (v := ?_) rfl (by kernel_rfl) (by kernel_rfl) (by kernel_rfl) (fun _ _ _ h => h) (Or.inl ⟨by rfl, ?_⟩) (by assumption) ?_
        rotate_left
        · (intro w hSw; (try dsimp only at hSw); go_simp; try with_reducible rfl)
        try simp only [Act.put, List.setIfInBounds_toArray, List.set_cons_zero, List.set_cons_succ]
        refine wpAnyH_take (i := 4) (v := ?_) rfl (by kernel_rfl) (by kernel_rfl) (by kernel_rfl) (fun _ _ _ h => h) (Or.inl ⟨by rfl, ?_⟩) (by assumption) ?_
        rotate_left
        · (intro w hSw; (try dsimp only at hSw); go_simp; try with_reducible rfl)
        try simp only [Act.put, List.setIfInBounds_toArray, List.set_cons_zero, List.set_cons_succ]
        refine wpAnyH_take (i := 6) (v := ?_) rfl (by kernel_rfl) (by kernel_rfl) (by kernel_rfl) (fun _ _ _ h => h) (Or.inl ⟨by rfl, ?_⟩) (by assumption) ?_
        rotate_left
        · (intro w hSw; (try dsimp only at hSw); go_simp; try with_reducible rfl)
        try simp only [Act.put, List.setIfInBounds_toArray, List.set_cons_zero, List.set_cons_succ]
        refine wpAnyH_take (i := 7) (v := ?_) rfl (by kernel_rfl) (by kernel_rfl) (by kernel_rfl) (fun _ _ _ h => h) (Or.inl ⟨by rfl, ?_⟩) (by assumption) ?_
        rotate_left
        · (intro w hSw; (try dsimp only at hSw); go_simp; try with_reducible rfl)
        try simp only [Act.put, List.setIfInBounds_toArray, List.set_cons_zero, List.set_cons_succ]
        refine wpAnyH_ready (rs := [5, 8]) (by kernel_rfl) (by simp) ?_
        refine (AllReadyH.cons rfl (fun K hK => ?_) (AllReadyH.cons rfl (fun K hK => ?_) AllReadyH.nil))
        · go_simp
          refine hK.out _ _ (f2) (fun hHeld => ?_)
          clear hK K
          try simp only [Act.put, List.setIfInBounds_toArray, List.set_cons_zero, List.set_cons_succ]
          refine wpAnyH_ready (rs := [8]) (by kernel_rfl) (by simp) ?_
          refine (AllReadyH.cons rfl (fun K hK => ?_) AllReadyH.nil)
          go_simp
          refine hK.out _ _ (by rw [HWW.out]; exact F2) (fun hHeld => ?_)
          clear hK K
          try simp only [Act.put, List.setIfInBounds_toArray, List.set_cons_zero, List.set_cons_succ]
          refine wpAnyH_ready (rs := [9]) (by kernel_rfl) (by simp) ?_
          refine (AllReadyH.cons rfl (fun K hK => ?_) AllReadyH.nil)
          refine stepRunL (by rfl) _ _ 39 (by rfl) (.slice A1 N1 c1) (.slice (some ⟨wr.heap.size, 0, none⟩) 1 1) (.slice A2 N2 c2) (by go_simp) (by go_simp) (by rw [HWW.out]; exact HRUN.out) ?_
          refine hK.out _ _ (q2) (fun hHeld => ?_)
          clear hK K
          try simp only [Act.put, List.setIfInBounds_toArray, List.set_cons_zero, List.set_cons_succ]
          refine wpAnyH_ready (rs := [10]) (by kernel_rfl) (by simp) ?_
          refine (AllReadyH.cons rfl (fun K hK => ?_) AllReadyH.nil)
          go_simp
          refine hK.out _ _ (q2) (fun hHeld => ?_)
          clear hK K
          try simp only [Act.put, List.setIfInBounds_toArray, List.set_cons_zero, List.set_cons_succ]
          refine wpAnyH_ready (rs := [11]) (by kernel_rfl) (by simp) ?_
          refine (AllReadyH.cons rfl (fun K hK => ?_) AllReadyH.nil)
          go_simp
          refine hK.out _ _ (s2) (fun hHeld => ?_)
          clear hK K
          try simp only [Act.put, List.setIfInBounds_toArray, List.set_cons_zero, List.set_cons_succ]
          refine wpAnyH_done (by kernel_rfl) ?_ _
          go_wp2_with fail
          go_roundg (8 - (n + 1))
          case measure => omega
          case rel => exact ⟨n + 1, _, _, _, by omega, by omega, by go_num, HK2, HO2⟩
        · go_simp
          refine hK.out _ _ (by rw [HWW.out]; exact F2) (fun hHeld => ?_)
          clear hK K
          try simp only [Act.put, List.setIfInBounds_toArray, List.set_cons_zero, List.set_cons_succ]
          refine wpAnyH_ready (rs := [5]) (by kernel_rfl) (by simp) ?_
          refine (AllReadyH.cons rfl (fun K hK => ?_) AllReadyH.nil)
          go_simp
          refine hK.out _ _ (by rw [HWW.out]; exact F2) (fun hHeld => ?_)
          clear hK K
          try simp only [Act.put, List.setIfInBounds_toArray, List.set_cons_zero, List.set_cons_succ]
          refine wpAnyH_ready (rs := [9]) (by kernel_rfl) (by simp) ?_
          refine (AllReadyH.cons rfl (fun K hK => ?_) AllReadyH.nil)
          refine stepRunL (by rfl) _ _ 39 (by rfl) (.slice A1 N1 c1) (.slice (some ⟨wr.heap.size, 0, none⟩) 1 1) (.slice A2 N2 c2) (by go_simp) (by go_simp) (by rw [HWW.out]; exact HRUN.out) ?_
          refine hK.out _ _ (q2) (fun hHeld => ?_)
          clear hK K
          try simp only [Act.put, List.setIfInBounds_toArray, List.set_cons_zero, List.set_cons_succ]
          refine wpAnyH_ready (rs := [10]) (by kernel_rfl) (by simp) ?_
          refine (AllReadyH.cons rfl (fun K hK => ?_) AllReadyH.nil)
          go_simp
          refine hK.out _ _ (q2) (fun hHeld => ?_)
          clear hK K
          try simp only [Act.put, List.setIfInBounds_toArray, List.set_cons_zero, List.set_cons_succ]
          refine wpAnyH_ready (rs := [11]) (by kernel_rfl) (by simp) ?_
          refine (AllReadyH.cons rfl (fun K hK => ?_) AllReadyH.nil)
          go_simp
          refine hK.out _ _ (s2) (fun hHeld => ?_)
          clear hK K
          try simp only [Act.put, List.setIfInBounds_toArray, List.set_cons_zero, List.set_cons_succ]
          refine wpAnyH_done (by kernel_rfl) ?_ _
          go_wp2_with fail
          go_roundg (8 - (n + 1))
          case measure => omega
          case rel => exact ⟨n + 1, _, _, _, by omega, by omega, by go_num, HK2, HO2⟩
      · have hlti : ¬ ((n : Int) + 1 < 9) := by omega
        obtain rfl : n = 8 := by omega
        obtain ⟨A1', c1', e1, hc1, hR1⟩ := HO.out.rd (by simp [wideL])
        injection e1 with e1 e2 e3
        subst e1 e2 e3
        have hWr := HWB.out.below HT.out.bel
        have hm1 := hWr.may (HT.out.tv hc1 hR1) (few_one (by simp [wideL])) known_wide
        obtain ⟨g0, g1, g2, g3⟩ := hWr.cells
        obtain ⟨f0, f1, f2, f3, f4⟩ := HT.out.facts
        obtain ⟨N1, hN1⟩ : ∃ N1, (wideL 8).length = N1 := ⟨_, rfl⟩
        rw [hN1] at HT HO
        clear hR1 hc1 hN1 hWr
        go_upto_region 14 with (go_at_call 20; refine hm1.mono ?_; rintro e z1 ⟨rfl, bz1⟩)
        have HT1 := Lib.hid (HT.out.below bz1)
        have HO1 := Lib.hid (HO.out.below bz1)
        clear hm1 bz1 f0 f1 f2 f3 f4 g0 g1 g2 g3 HT HO
        obtain ⟨f0, f1, f2, f3, f4⟩ := HT1.out.facts
        have hHl := (Array.getElem?_eq_some_iff.1 HT1.out.bh).1
        obtain ⟨W, hW⟩ : ∃ W, (z1.alloc (.cells #[.int .i64 0, .int .i64 9] 42)).drew = W := ⟨_, rfl⟩
        obtain ⟨A2, N2, c2, w2, hrun, F2, ⟨q2, q3, q4⟩, s2, hK2, hO2⟩ := kt_add HT1.out HO1.out 0 9 (by decide) (by decide) (by simp [wideL]) W hW
        have HWW := Lib.hid hW
        have HRUN := Lib.hid hrun
        have HK2 := Lib.hid hK2
        have HO2 := Lib.hid hO2
        clear hW hrun hK2 hO2
        go_wp2_with fail
        refine wp_region_held_drew (S := fun w' => w'.cell? ⟨R, 2, none⟩ = some (.slice (some ⟨Hh, 0, none⟩) 1 1)) (by kernel_rfl) (f2) (fun hHeld => ?_)
        refine wpAnyH_take (i := 0) (v := ?_) rfl (by kernel_rfl) (by kernel_rfl) (by kernel_rfl) (fun _ _ _ h => h) (Or.inl ⟨by rfl, ?_⟩) (by assumption) ?_
        rotate_left
        · (intro w hSw; (try dsimp only at hSw); go_simp; try with_reducible rfl)
        try simp only [Act.put, List.setIfInBounds_toArray, List.set_cons_zero, List.set_cons_succ]
        refine wpAnyH_take (i := 1) (v := ?_) rfl (by kernel_rfl) (by kernel_rfl) (by kernel_rfl) (fun _ _ _ h => h) (Or.inl ⟨by rfl, ?_⟩) (by assumption) ?_
        rotate_left
        · (intro w hSw; (try dsimp only at hSw); go_simp; try with_reducible rfl)
        try simp only [Act.put, List.setIfInBounds_toArray, List.set_cons_zero, List.set_cons_succ]
        refine wpAnyH_take (i := 2) (v := ?_) rfl (by kernel_rfl) (by kernel_rfl) (by kernel_rfl) (fun _ _ _ h => h) (Or.inl ⟨by rfl, ?_⟩) (by assumption) ?_
        rotate_left
        · (intro w hSw; (try dsimp only at hSw); go_simp; try with_reducible rfl)
        try simp only [Act.put, List.setIfInBounds_toArray, List.set_cons_zero, List.set_cons_succ]
        refine wpAnyH_take (i := 3) (v := ?_) rfl (by kernel_rfl) (by kernel_rfl) (by kernel_rfl) (fun _ _ _ h => h) (Or.inl ⟨by rfl, ?_⟩) (by assumption) ?_
        rotate_left
        · (intro w hSw; (try dsimp only at hSw); go_simp; try with_reducible rfl)
        try simp only [Act.put, List.setIfInBounds_toArray, List.set_cons_zero, List.set_cons_succ]
        refine wpAnyH_take (i := 4) (v := ?_) rfl (by kernel_rfl) (by kernel_rfl) (by kernel_rfl) (fun _ _ _ h => h) (Or.inl ⟨by rfl, ?_⟩) (by assumption) ?_
        rotate_left
        · (intro w hSw; (try dsimp only at hSw); go_simp; try with_reducible rfl)
        try simp only [Act.put, List.setIfInBounds_toArray, List.set_cons_zero, List.set_cons_succ]
        refine wpAnyH_take (i := 6) (v := ?_) rfl (by kernel_rfl) (by kernel_rfl) (by kernel_rfl) (fun _ _ _ h => h) (Or.inl ⟨by rfl, ?_⟩) (by assumption) ?_
        rotate_left
        · (intro w hSw; (try dsimp only at hSw); go_simp; try with_reducible rfl)
        try simp only [Act.put, List.setIfInBounds_toArray, List.set_cons_zero, List.set_cons_succ]
        refine wpAnyH_ready (rs := [5, 7]) (by kernel_rfl) (by simp) ?_
        refine (AllReadyH.cons rfl (fun K hK => ?_) (AllReadyH.cons rfl (fun K hK => ?_) AllReadyH.nil))
        · go_simp
          refine hK.out _ _ (f2) (fun hHeld => ?_)
          clear hK K
          try simp only [Act.put, List.setIfInBounds_toArray, List.set_cons_zero, List.set_cons_succ]
          refine wpAnyH_ready (rs := [7]) (by kernel_rfl) (by simp) ?_
          refine (AllReadyH.cons rfl (fun K hK => ?_) AllReadyH.nil)
          go_simp
          refine hK.out _ _ (by rw [HWW.out]; exact F2) (fun hHeld => ?_)
          clear hK K
          try simp only [Act.put, List.setIfInBounds_toArray, List.set_cons_zero, List.set_cons_succ]
          refine wpAnyH_ready (rs := [8]) (by kernel_rfl) (by simp) ?_
          refine (AllReadyH.cons rfl (fun K hK => ?_) AllReadyH.nil)
          refine stepRunL (by rfl) _ _ 39 (by rfl) (.slice A1 N1 c1) (.slice (some ⟨z1.heap.size, 0, none⟩) 1 1) (.slice A2 N2 c2) (by go_simp) (by go_simp) (by rw [HWW.out]; exact HRUN.out) ?_
          refine hK.out _ _ (q2) (fun hHeld => ?_)
          clear hK K
          try simp only [Act.put, List.setIfInBounds_toArray, List.set_cons_zero, List.set_cons_succ]
          refine wpAnyH_ready (rs := [9]) (by kernel_rfl) (by simp) ?_
          refine (AllReadyH.cons rfl (fun K hK => ?_) AllReadyH.nil)
          go_simp
          refine hK.out _ _ (q2) (fun hHeld => ?_)
          clear hK K
          try simp only [Act.put, List.setIfInBounds_toArray, List.set_cons_zero, List.set_cons_succ]
          refine wpAnyH_ready (rs := [10]) (by kernel_rfl) (by simp) ?_
          refine (AllReadyH.cons rfl (fun K hK => ?_) AllReadyH.nil)
          go_simp
          refine hK.out _ _ (s2) (fun hHeld => ?_)
          clear hK K
          try simp only [Act.put, List.setIfInBounds_toArray, List.set_cons_zero, List.set_cons_succ]
          refine wpAnyH_done (by kernel_rfl) ?_ _
          obtain ⟨z2, hz2⟩ : ∃ z2, w2.setCell ⟨Hh, 0, none⟩ (.slice A2 N2 c2) = z2 := ⟨_, rfl⟩
          rw [hz2] at HK2 HO2 ⊢
          obtain ⟨A2', c2', e1, hc2, hR2⟩ := HO2.out.rd (by simp [wideL])
          injection e1 with e1 e2 e3
          subst e1 e2 e3
          have hWr := HWB.out.below HK2.out.bel
          have hm2 := hWr.may (HK2.out.tv hc2 hR2) (few_one (by simp [wideL])) known_nine
          obtain ⟨g0, g1, g2, g3⟩ := hWr.cells
          clear f0 f1 f2 f3 f4 q2 q3 q4 s2 F2 hR2 hc2 hWr hz2 HRUN HWW hHl
          obtain ⟨f0, f1, f2, f3, f4⟩ := HK2.out.facts
          go_wp2_with fail
          refine hm2.mono ?_
          rintro e z3 ⟨rfl, b3⟩
          have HB3 := Lib.hid (belowThen HK2.out.bel HK2.out.bel.size b3)
          clear hm2 b3 f0 f1 f2 f3 f4 g0 g1 g2 g3
          have hk := change_calls z3 P F S 1 2 (HC9.out.below HB3.out) 33 _ _ _ _ does12 (fun _ _ => rfl) (by decide) _ chg12
          go_wp2_with fail
          refine hk.mono ?_
          rintro e z4 ⟨rfl, b4⟩
          have HB4 := Lib.hid (belowThen HB3.out HB3.out.size b4)
          clear hk b4
          have hwk := wakes_calls z4
          go_wp2_with fail
          refine hwk.mono ?_
          rintro e z5 ⟨rfl, b5⟩
          have HB5 := Lib.hid (belowThen HB4.out HB4.out.size b5)
          clear hwk b5
          go_wp2_with fail
          go_ret
          have z1 := belowThen HB1.out HB1.out.size BC.out
          have z2 := belowThen z1 z1.size HBY.out
          exact ⟨rfl, belowThen z2 z2.size HB5.out⟩
        · go_simp
          refine hK.out _ _ (by rw [HWW.out]; exact F2) (fun hHeld => ?_)
          clear hK K
          try simp only [Act.put, List.setIfInBounds_toArray, List.set_cons_zero, List.set_cons_succ]
          refine wpAnyH_ready (rs := [5]) (by kernel_rfl) (by simp) ?_
          refine (AllReadyH.cons rfl (fun K hK => ?_) AllReadyH.nil)
          go_simp
          refine hK.out _ _ (by rw [HWW.out]; exact F2) (fun hHeld => ?_)
          clear hK K
          try simp only [Act.put, List.setIfInBounds_toArray, List.set_cons_zero, List.set_cons_succ]
          refine wpAnyH_ready (rs := [8]) (by kernel_rfl) (by simp) ?_
          refine (AllReadyH.cons rfl (fun K hK => ?_) AllReadyH.nil)
          refine stepRunL (by rfl) _ _ 39 (by rfl) (.slice A1 N1 c1) (.slice (some ⟨z1.heap.size, 0, none⟩) 1 1) (.slice A2 N2 c2) (by go_simp) (by go_simp) (by rw [HWW.out]; exact HRUN.out) ?_
          refine hK.out _ _ (q2) (fun hHeld => ?_)
          clear hK K
          try simp only [Act.put, List.setIfInBounds_toArray, List.set_cons_zero, List.set_cons_succ]
          refine wpAnyH_ready (rs := [9]) (by kernel_rfl) (by simp) ?_
          refine (AllReadyH.cons rfl (fun K hK => ?_) AllReadyH.nil)
          go_simp
          refine hK.out _ _ (q2) (fun hHeld => ?_)
          clear hK K
          try simp only [Act.put, List.setIfInBounds_toArray, List.set_cons_zero, List.set_cons_succ]
          refine wpAnyH_ready (rs := [10]) (by kernel_rfl) (by simp) ?_
          refine (AllReadyH.cons rfl (fun K hK => ?_) AllReadyH.nil)
          go_simp
          refine hK.out _ _ (s2) (fun hHeld => ?_)
          clear hK K
          try simp only [Act.put, List.setIfInBounds_toArray, List.set_cons_zero, List.set_cons_succ]
          refine wpAnyH_done (by kernel_rfl) ?_ _
          obtain ⟨z2, hz2⟩ : ∃ z2, w2.setCell ⟨Hh, 0, none⟩ (.slice A2 N2 c2) = z2 := ⟨_, rfl⟩
          rw [hz2] at HK2 HO2 ⊢
          obtain ⟨A2', c2', e1, hc2, hR2⟩ := HO2.out.rd (by simp [wideL])
          injection e1 with e1 e2 e3
          subst e1 e2 e3
          have hWr := HWB.out.below HK2.out.bel
          have hm2 := hWr.may (HK2.out.tv hc2 hR2) (few_one (by simp [wideL])) known_nine
          obtain ⟨g0, g1, g2, g3⟩ := hWr.cells
          clear f0 f1 f2 f3 f4 q2 q3 q4 s2 F2 hR2 hc2 hWr hz2 HRUN HWW hHl
          obtain ⟨f0, f1, f2, f3, f4⟩ := HK2.out.facts
          go_wp2_with fail
          refine hm2.mono ?_
          rintro e z3 ⟨rfl, b3⟩
          have HB3 := Lib.hid (belowThen HK2.out.bel HK2.out.bel.size b3)
          clear hm2 b3 f0 f1 f2 f3 f4 g0 g1 g2 g3
          have hk := change_calls z3 P F S 1 2 (HC9.out.below HB3.out) 33 _ _ _ _ does12 (fun _ _ => rfl) (by decide) _ chg12
          go_wp2_with fail
          refine hk.mono ?_
          rintro e z4 ⟨rfl, b4⟩
          have HB4 := Lib.hid (belowThen HB3.out HB3.out.size b4)
          clear hk b4
          have hwk := wakes_calls z4
          go_wp2_with fail
          refine hwk.mono ?_
          rintro e z5 ⟨rfl, b5⟩
          have HB5 := Lib.hid (belowThen HB4.out HB4.out.size b5)
          clear hwk b5
          go_wp2_with fail
          go_ret
          have z1 := belowThen HB1.out HB1.out.size BC.out
          have z2 := belowThen z1 z1.size HBY.out
          exact ⟨rfl, belowThen z2 z2.size HB5.out⟩
end Go.Proofs.Ytgfnlfkbbedkaaa
