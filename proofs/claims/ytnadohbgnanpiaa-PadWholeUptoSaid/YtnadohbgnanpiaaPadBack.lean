/-
  The walk of PadBack.
-/
import Derived.Test.YtnadohbgnanpiaaPadB
namespace Go.Proofs.Ytnadohbgnanpiaa
open Go.RowKit

theorem boxed2 (w : World) (u v : Value) (t : TypeId) (wS : World) (h : w.alloc (.cells #[u, v] t) = wS) :
    Below w.heap.size w wS ∧ wS.cell? ⟨w.heap.size, 0, none⟩ = some u ∧ wS.cell? ⟨w.heap.size, 1, none⟩ = some v ∧ wS.frozen? ⟨w.heap.size, 1, none⟩ = false ∧ wS.frozen? ⟨w.heap.size, 0, none⟩ = false := by
  subst h
  exact ⟨(Below.refl _ _).alloc (Nat.le_refl _) _, World.cell?_alloc_new _ _ _ 0, World.cell?_alloc_new _ _ _ 1, World.frozen?_alloc_at _ _ _ _ rfl, World.frozen?_alloc_at _ _ _ _ rfl⟩
set_option maxHeartbeats 4000000 in
theorem padBack_bad (w : World) (g s : Int) (hg : -9223372036854775808 ≤ g ∧ g ≤ 9223372036854775807) (hs : -9223372036854775808 ≤ s ∧ s ≤ 9223372036854775807) (A : Option Addr) (n c : Nat) (B : Option Addr) (m e : Nat) (h : ¬ okGS (sz1 g) (sz2 s)) :
    Calls Try.prog 6 #[.int .i64 g, .int .i64 s, .agg #[.slice A n c, .slice B m e]] w fun e w' => e = .returned (.bool true) ∧ Below w.heap.size w w' := by
  obtain ⟨wS, hwS⟩ : ∃ wS, w.alloc (.cells #[.slice A n c, .slice B m e] 36) = wS := ⟨_, rfl⟩
  obtain ⟨hbS, c0, c1, f1, _⟩ := boxed2 _ _ _ _ _ hwS
  have HWS := Lib.hid hwS
  clear hwS
  have hsz := sizes_calls g s wS hg hs
  obtain ⟨g', hg'⟩ : ∃ g', sz1 g = g' := ⟨_, rfl⟩
  obtain ⟨s', hs'⟩ : ∃ s', sz2 s = s' := ⟨_, rfl⟩
  rw [hg', hs'] at hsz h
  have H := Lib.hid h
  clear h hg' hs'
  go_enter Try.func6, Try.ntmps6
  go_wp2_with fail
  rw [HWS.out]
  refine hsz.mono ?_
  rintro e w' ⟨rfl, rfl⟩
  clear hsz
  go_wp2_with fail
  refine (room_bad g' s' wS H.out).mono ?_
  rintro e w' ⟨rfl, rfl⟩
  go_wp2_with fail
  refine (lay_bad A n c g' s' wS H.out).mono ?_
  rintro e w' ⟨rfl, rfl⟩
  go_wp2_with fail
  refine (awake_calls wS).mono ?_
  rintro e w' ⟨rfl, hb⟩
  go_wp2_with fail
  go_ret
  exact ⟨rfl, stepBelow hbS hb⟩
set_option maxHeartbeats 4000000 in
theorem padBack_good (w : World) (g s : Int) (hg : -9223372036854775808 ≤ g ∧ g ≤ 9223372036854775807) (hs : -9223372036854775808 ≤ s ∧ s ≤ 9223372036854775807) (A : Option Addr) (n c : Nat) (xs : List UInt8) (B : Option Addr) (m e : Nat) (ls : List (List UInt8))
    (hr : RdB w (fun k => k < w.heap.size) A n xs) (hc : n ≤ c) (hq : RdBB w (fun k => k < w.heap.size) B m ls) (he : m ≤ e) (a b P : Nat) (ha : sz1 g = (a : Int)) (hb : sz2 s = (b : Int)) (hab : a * b = P) (hP : ((a : Int) * (b : Int)) = (P : Int)) (h1 : 1 ≤ a) (h2 : a ≤ 255) (h3 : 1 ≤ b) (h4 : b ≤ 65535) (h5 : 4 < P) (h6 : P ≤ 16711425) :
    Calls Try.prog 6 #[.int .i64 g, .int .i64 s, .agg #[.slice A n c, .slice B m e]] w fun e w' => e = .returned (.bool true) ∧ Below w.heap.size w w' := by
  obtain ⟨wS, hwS⟩ : ∃ wS, w.alloc (.cells #[.slice A n c, .slice B m e] 36) = wS := ⟨_, rfl⟩
  obtain ⟨hbS, c0, c1, f1, _⟩ := boxed2 _ _ _ _ _ hwS
  have hrS := hr.below hbS
  have HWS := Lib.hid hwS
  have hsz := sizes_calls g s wS hg hs
  rw [ha, hb] at hsz
  have HP := Lib.hid hP
  have HAB := Lib.hid hab
  have hroom := room_calls a b P wS hP h1 h2 h3 h4 h5 h6
  obtain ⟨R, hR⟩ : ∃ R, P - 4 = R := ⟨_, rfl⟩
  rw [hR] at hroom
  have HR := Lib.hid hR
  have hR2 : R ≤ 16711421 := by omega
  obtain ⟨k, hk⟩ : ∃ k, k = min n R := ⟨_, rfl⟩
  have hmin := min2_run n R k hk
  have hkn : k ≤ n := by omega
  have hkR : k ≤ R := by omega
  have hkP : k ≤ P - 4 := by omega
  obtain ⟨k2, hk2⟩ : ∃ k2, k2 = min m 50 := ⟨_, rfl⟩
  have hmin2 : ∀ W : World, (Builtin.min_ #[3, 3] 3 #[.int .i64 (m : Int), .int .i64 50]).run Try.prog W = .ok (.int .i64 (k2 : Int)) W := min2_run m 50 k2 hk2
  have hk2m : k2 ≤ m := by omega
  obtain ⟨A1, hcut, hcr⟩ := cutTo_run A n c k hkn hc
  have r1 := hcr _ _ _ hrS
  have hcut' := hcut .i64
  have hkc : k ≤ c := by omega
  clear hab hP ha hb hR hk hcut hcr hwS hr hrS hk2
  go_enter Try.func6, Try.ntmps6
  go_wp2_with fail
  rw [HWS.out]
  refine hsz.mono ?_
  rintro e' w' ⟨rfl, rfl⟩
  clear hsz
  go_wp2_with fail
  refine hroom.mono ?_
  rintro e' w' ⟨rfl, rfl⟩
  clear hroom
  by_cases hk0 : 0 < k
  · have hk1 : 1 ≤ k := hk0
    have hk0i : 0 < (k : Int) := by omega
    have hxl : (xs.take k).length = k := r1.len
    have htl := Pad.takes_lays (xs.take k) a b (by omega) (by rw [hxl, HAB.out]; omega) (by rw [HAB.out]; omega)
    have hll := Pad.lays_length (xs.take k) a b
    have hmem : ∀ x ∈ Pad.lays (xs.take k) a b, x.length = b := Pad.parts_mem b a _ (Pad.full_length _ _ (by rw [hxl, HAB.out]; omega))
    obtain ⟨zs, hzs⟩ : ∃ zs, xs.take k = zs := ⟨_, rfl⟩
    rw [hzs] at r1 htl hll hmem hxl
    obtain ⟨L, hL⟩ : ∃ L, Pad.lays zs a b = L := ⟨_, rfl⟩
    have hlay := lay_calls A1 k c a b P zs wS _ r1 HAB.out HP.out h1 h2 h3 h4 h5 h6 hk1 hkP
    rw [hL] at htl hll hmem hlay
    have HLL := Lib.hid hll
    have HTL := Lib.hid htl
    have HXL := Lib.hid hxl
    clear hzs hL hll htl hxl
    go_wp2_with fail
    refine hlay.mono ?_
    rintro e3 w3 ⟨v3, rfl, ho3, hb⟩
    have hb3 := stepBelow hbS hb
    have c13 := cellBelow hb c1
    have f13 : w3.frozen? ⟨w.heap.size, 1, none⟩ = false := (hb.frozen (p := ⟨w.heap.size, 1, none⟩) (World.block_lt_of_cell? wS _ c1)).trans f1
    have r13 := r1.below hb
    obtain ⟨A3, d3, rfl, hd3, r3⟩ := ho3.rdn a HLL.out
    clear hlay hb r1 c1 f1 c0 ho3
    go_wp2_with fail
    refine (ptake_calls A3 a d3 a b P L w3 _ r3 hd3 HAB.out HP.out h1 h2 h3 h4 h5 h6).mono ?_
    unfold RetTk
    rw [HTL.out]
    rintro e4 w4 ⟨v4, rfl, ho4, hb⟩
    have hb4 := stepBelow hb3 hb
    have c1x := cellBelow hb c13
    have f1x : w4.frozen? ⟨w.heap.size, 1, none⟩ = false := (hb.frozen (p := ⟨w.heap.size, 1, none⟩) (World.block_lt_of_cell? w3 _ c13)).trans f13
    have r14 := r13.below hb
    have r4 := r3.below hb
    obtain ⟨A4, d4, rfl, hd4, q4⟩ := ho4.rdn k HXL.out
    have heq := equal_calls A4 A1 k d4 k c zs zs w4 _ _ q4 r14
    rw [decide_eq_true (show zs = zs from rfl)] at heq
    clear hb hb3 c13 f13 r13 r3 ho4 q4 r14
    go_wp2_with fail
    refine heq.mono ?_
    rintro e5 w' ⟨rfl, rfl⟩
    clear heq
    go_wp2_with fail
    go_loop [94] (fun i => ∃ j : Nat, j ≤ a ∧ i = .int .i64 j) (fun i => a - (intOf i).toNat)
    case atStart => exact ⟨0, Nat.zero_le _, rfl⟩
    case round =>
      obtain ⟨j, hj, rfl⟩ := hrel
      by_cases hlt : j < a
      · obtain ⟨b1, o1, Aj, nj, cj, e1, _, _, k1, _, q1⟩ := r4.at_ j hlt
        subst e1
        have hnj : nj = b := by
          have := hmem (lrow L j) (by rw [lrow_eq L j (by rw [HLL.out]; exact hlt)]; exact List.getElem_mem _)
          have := q1.len
          omega
        subst hnj
        clear q1
        go_wp2_with fail
        go_round
        case rel => exact ⟨j + 1, by omega, by go_num⟩
        case measure => simp [intOf]; omega
      · obtain rfl : a = j := by omega
        go_wp2_with fail
        obtain ⟨wY, hwY⟩ : ∃ wY, w4.setCell ⟨w.heap.size, 1, none⟩ (.slice B k2 e) = wY := ⟨_, rfl⟩
        have hbY : Below w.heap.size w wY := by rw [← hwY]; exact hb4.setCell (p := ⟨w.heap.size, 1, none⟩) (Nat.le_refl _) _
        have cY : wY.cell? ⟨w.heap.size, 1, none⟩ = some (.slice B k2 e) := by rw [← hwY]; exact World.cell?_setCell_same' _ _ _ (by rw [c1x]; rfl)
        have hqY := (hq.below hbY).take k2 hk2m
        rw [hwY]
        clear hwY c1x f1x
        refine (ptake_calls B k2 e a b P (ls.take k2) wY _ hqY (by omega) HAB.out HP.out h1 h2 h3 h4 h5 h6).mono ?_
        unfold RetTk
        obtain ⟨⟨ys, er⟩, hres⟩ : ∃ r, Pad.takes (ls.take k2) a b = r := ⟨_, rfl⟩
        have hbad := Pad.takes_bad (ls.take k2) a b
        have hgood := Pad.lays_takes (ls.take k2) a b ys (by rw [HAB.out]; exact h5)
        rw [hres] at hbad hgood ⊢
        simp only at hbad
        rintro e6 w6 ⟨v6, rfl, ho6, hb⟩
        have hb6 := stepBelow hbY hb
        have c6 := cellBelow hb cY
        have hq6 := hqY.below hb
        simp only at ho6
        clear hb hres cY hqY
        by_cases her : er = 0
        · subst her
          obtain ⟨g1, g2, g3⟩ := hgood rfl
          rw [HAB.out] at g3
          have hyl : ys.length ≤ R := by have := HR.out; omega
          obtain ⟨L, hL⟩ : ∃ L, ys.length = L := ⟨_, rfl⟩
          obtain ⟨A6, d6, rfl, hd6, r6⟩ := ho6.rdn L hL
          rw [hL] at g2 g3 hyl
          have G1 := Lib.hid g1
          have hLP : L ≤ P - 4 := by omega
          clear hbad hgood g1 hL ho6
          go_wp2_with fail
          refine (lay_calls A6 L d6 a b P ys w6 _ r6 HAB.out HP.out h1 h2 h3 h4 h5 h6 g2 hLP).mono ?_
          rw [G1.out]
          rintro e7 w7 ⟨v7, rfl, ho7, hb⟩
          have hb7 := stepBelow hb6 hb
          have c7 := cellBelow hb c6
          have hq7 := hq6.below hb
          obtain ⟨A7, d7, rfl, hd7, r7⟩ := ho7.rdn k2 hq6.len
          clear hb hb6 c6 hq6 ho7 r6
          go_wp2_with fail
          refine (awake_calls w7).mono ?_
          rintro e8 w8 ⟨rfl, hb⟩
          have hb8 := stepBelow hb7 hb
          have c8 := cellBelow hb c7
          have hq8 := hq7.below hb
          have r8 := r7.below hb
          clear hb hb7 c7 hq7 r7
          go_wp2_with fail
          refine (weakD (bb_same_eq A7 B k2 d7 e (ls.take k2) w8 _ _ r8 hq8)).mono ?_
          rintro e9 w9 ⟨rfl, hb⟩
          have hb9 := stepBelow hb8 hb
          go_wp2_with fail
          go_ret
          exact ⟨rfl, hb9⟩
        · have hne : ((er : Int) != 0) = true := by rw [bne_iff_ne]; omega
          have hys := hbad her
          subst hys
          obtain ⟨A6, d6, rfl, _, _⟩ := ho6.rdn 0 rfl
          clear hbad hgood ho6 her
          go_wp2_with fail
          refine (awake_calls w6).mono ?_
          rintro e8 w8 ⟨rfl, hb⟩
          have hb8 := stepBelow hb6 hb
          go_wp2_with fail
          go_ret
          exact ⟨rfl, hb8⟩
  · obtain rfl : k = 0 := by omega
    have c1x := c1
    have f1x := f1
    clear c1 f1 r1
    go_wp2_with fail
    obtain ⟨wY, hwY⟩ : ∃ wY, wS.setCell ⟨w.heap.size, 1, none⟩ (.slice B k2 e) = wY := ⟨_, rfl⟩
    have hbY : Below w.heap.size w wY := by rw [← hwY]; exact hbS.setCell (p := ⟨w.heap.size, 1, none⟩) (Nat.le_refl _) _
    have cY : wY.cell? ⟨w.heap.size, 1, none⟩ = some (.slice B k2 e) := by rw [← hwY]; exact World.cell?_setCell_same' _ _ _ (by rw [c1x]; rfl)
    have hqY := (hq.below hbY).take k2 hk2m
    rw [hwY]
    clear hwY c1x f1x
    refine (ptake_calls B k2 e a b P (ls.take k2) wY _ hqY (by omega) HAB.out HP.out h1 h2 h3 h4 h5 h6).mono ?_
    unfold RetTk
    obtain ⟨⟨ys, er⟩, hres⟩ : ∃ r, Pad.takes (ls.take k2) a b = r := ⟨_, rfl⟩
    have hbad := Pad.takes_bad (ls.take k2) a b
    have hgood := Pad.lays_takes (ls.take k2) a b ys (by rw [HAB.out]; exact h5)
    rw [hres] at hbad hgood ⊢
    simp only at hbad
    rintro e6 w6 ⟨v6, rfl, ho6, hb⟩
    have hb6 := stepBelow hbY hb
    have c6 := cellBelow hb cY
    have hq6 := hqY.below hb
    simp only at ho6
    clear hb hres cY hqY
    by_cases her : er = 0
    · subst her
      obtain ⟨g1, g2, g3⟩ := hgood rfl
      rw [HAB.out] at g3
      have hyl : ys.length ≤ R := by have := HR.out; omega
      obtain ⟨L, hL⟩ : ∃ L, ys.length = L := ⟨_, rfl⟩
      obtain ⟨A6, d6, rfl, hd6, r6⟩ := ho6.rdn L hL
      rw [hL] at g2 g3 hyl
      have G1 := Lib.hid g1
      have hLP : L ≤ P - 4 := by omega
      clear hbad hgood g1 hL ho6
      go_wp2_with fail
      refine (lay_calls A6 L d6 a b P ys w6 _ r6 HAB.out HP.out h1 h2 h3 h4 h5 h6 g2 hLP).mono ?_
      rw [G1.out]
      rintro e7 w7 ⟨v7, rfl, ho7, hb⟩
      have hb7 := stepBelow hb6 hb
      have c7 := cellBelow hb c6
      have hq7 := hq6.below hb
      obtain ⟨A7, d7, rfl, hd7, r7⟩ := ho7.rdn k2 hq6.len
      clear hb hb6 c6 hq6 ho7 r6
      go_wp2_with fail
      refine (awake_calls w7).mono ?_
      rintro e8 w8 ⟨rfl, hb⟩
      have hb8 := stepBelow hb7 hb
      have c8 := cellBelow hb c7
      have hq8 := hq7.below hb
      have r8 := r7.below hb
      clear hb hb7 c7 hq7 r7
      go_wp2_with fail
      refine (weakD (bb_same_eq A7 B k2 d7 e (ls.take k2) w8 _ _ r8 hq8)).mono ?_
      rintro e9 w9 ⟨rfl, hb⟩
      have hb9 := stepBelow hb8 hb
      go_wp2_with fail
      go_ret
      exact ⟨rfl, hb9⟩
    · have hne : ((er : Int) != 0) = true := by rw [bne_iff_ne]; omega
      have hys := hbad her
      subst hys
      obtain ⟨A6, d6, rfl, _, _⟩ := ho6.rdn 0 rfl
      clear hbad hgood ho6 her
      go_wp2_with fail
      refine (awake_calls w6).mono ?_
      rintro e8 w8 ⟨rfl, hb⟩
      have hb8 := stepBelow hb6 hb
      go_wp2_with fail
      go_ret
      exact ⟨rfl, hb8⟩
theorem padBack_walk (w : World) (g s : Int) (A : Option Addr) (n c : Nat) (xs : List UInt8) (B : Option Addr) (m e : Nat) (ls : List (List UInt8)) (hg1 : -9223372036854775808 ≤ g) (hg2 : g ≤ 9223372036854775807) (hs1 : -9223372036854775808 ≤ s) (hs2 : s ≤ 9223372036854775807)
    (hr : RdB w (fun k => k < w.heap.size) A n xs) (hc : n ≤ c) (hq : RdBB w (fun k => k < w.heap.size) B m ls) (he : m ≤ e) (_hn : n ≤ 1048576) (_hm : m ≤ 1048576) :
    Calls Try.prog 6 #[.int .i64 g, .int .i64 s, .agg #[.slice A n c, .slice B m e]] w fun e w' => e = .returned (.bool true) ∧ Below w.heap.size w w' := by
  by_cases h : okGS (sz1 g) (sz2 s)
  · obtain ⟨a, b, P, ha, hb, hab, hP, h1, h2, h3, h4, h5, h6⟩ := okGS_nat h
    exact padBack_good w g s ⟨hg1, hg2⟩ ⟨hs1, hs2⟩ A n c xs B m e ls hr hc hq he a b P ha hb hab hP h1 h2 h3 h4 h5 h6
  · exact padBack_bad w g s ⟨hg1, hg2⟩ ⟨hs1, hs2⟩ A n c B m e h
end Go.Proofs.Ytnadohbgnanpiaa
