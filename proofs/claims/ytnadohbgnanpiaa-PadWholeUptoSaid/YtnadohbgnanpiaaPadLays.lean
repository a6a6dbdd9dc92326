/-
  The walk of PadLays.
-/
import Derived.Test.YtnadohbgnanpiaaPadL1
import Derived.Test.YtnadohbgnanpiaaPadParts
import Derived.Test.YtnadohbgnanpiaaPadBack
namespace Go.Proofs.Ytnadohbgnanpiaa
open Go.RowKit

set_option maxHeartbeats 4000000 in
theorem padLays_err (w : World) (g s : Int) (hg : -9223372036854775808 ≤ g ∧ g ≤ 9223372036854775807) (hs : -9223372036854775808 ≤ s ∧ s ≤ 9223372036854775807) (A : Option Addr) (n c : Nat) (xs : List UInt8) (B : Option Addr) (m e : Nat) (ls : List (List UInt8))
    (hr : RdB w (fun k => k < w.heap.size) A n xs) (hc : n ≤ c) (hn : n ≤ 1048576) (hq : RdBB w (fun k => k < w.heap.size) B m ls) (he : m ≤ e) (g' s' : Int) (rv re le : Nat) (T : Nat → List UInt8 × Nat) (hsg : sz1 g = g') (hss : sz2 s = s')
    (hroom : ∀ W, Calls Try.prog 9 #[.int .i64 g', .int .i64 s'] W fun e w' => e = .returned (.tuple #[.int .i64 (rv : Int), .int .i64 (re : Int)]) ∧ W = w')
    (hrroom : ∀ W, Calls Try.prog 15 #[.int .i64 g', .int .i64 s'] W fun e w' => e = .returned (.tuple #[.int .i64 (rv : Int), .int .i64 (re : Int)]) ∧ W = w')
    (hlay : ∀ W A c, Calls Try.prog 10 #[.slice A n c, .int .i64 g', .int .i64 s'] W fun e w' => e = .returned (.tuple #[.slice none 0 0, .int .i64 (le : Int)]) ∧ W = w')
    (hrlay : ∀ W A c, Calls Try.prog 16 #[.slice A n c, .int .i64 g', .int .i64 s'] W fun e w' => e = .returned (.tuple #[.slice none 0 0, .int .i64 (le : Int)]) ∧ W = w')
    (htake : ∀ W B k e, k ≤ e → RdBB W (fun k => k < w.heap.size) B k (ls.take k) → Calls Try.prog 11 #[.slice B k e, .int .i64 g', .int .i64 s'] W (RetTk W (T k)))
    (hrtake : ∀ W B k e, k ≤ e → RdBB W (fun k => k < w.heap.size) B k (ls.take k) → Calls Try.prog 18 #[.slice B k e, .int .i64 g', .int .i64 s'] W (RetTk W (T k))) :
    Calls Try.prog 4 #[.int .i64 g, .int .i64 s, .agg #[.slice A n c, .slice B m e]] w fun e w' => e = .returned (.bool true) ∧ Below w.heap.size w w' := by
  obtain ⟨wS, hwS⟩ : ∃ wS, w.alloc (.cells #[.slice A n c, .slice B m e] 36) = wS := ⟨_, rfl⟩
  obtain ⟨hbS, c0, c1, f1, _⟩ := boxed2 _ _ _ _ _ hwS
  have HWS := Lib.hid hwS
  have hsz := sizes_calls g s wS hg hs
  rw [hsg, hss] at hsz
  obtain ⟨k2, hk2⟩ : ∃ k2, k2 = min m 50 := ⟨_, rfl⟩
  have hmin2 : ∀ W : World, (Builtin.min_ #[3, 3] 3 #[.int .i64 (m : Int), .int .i64 50]).run Try.prog W = .ok (.int .i64 (k2 : Int)) W := min2_run m 50 k2 hk2
  have hk2m : k2 ≤ m := by omega
  obtain ⟨B1, hcut, hcr⟩ := cutToBB_run B m e k2 hk2m he
  clear hwS hsg hss hk2
  go_enter Try.func4, Try.ntmps4
  go_wp2_with fail
  rw [HWS.out]
  refine hsz.mono ?_
  rintro e' w' ⟨rfl, rfl⟩
  clear hsz
  go_wp2_with fail
  obtain ⟨wY, hwY⟩ : ∃ wY, wS.setCell ⟨w.heap.size, 1, none⟩ (.slice B1 k2 e) = wY := ⟨_, rfl⟩
  have hbY : Below w.heap.size w wY := by rw [← hwY]; exact hbS.setCell (p := ⟨w.heap.size, 1, none⟩) (Nat.le_refl _) _
  have cY : wY.cell? ⟨w.heap.size, 1, none⟩ = some (.slice B1 k2 e) := by rw [← hwY]; exact World.cell?_setCell_same' _ _ _ (by rw [c1]; rfl)
  have cX : wY.cell? ⟨w.heap.size, 0, none⟩ = some (.slice A n c) := by rw [← hwY]; exact (World.cell?_setCell_other _ _ _ _ (by intro h; injection h with _ h; cases h)).trans c0
  have rY := hr.below hbY
  have qY := hcr _ _ _ (hq.below hbY)
  rw [hwY]
  clear hwY c0 c1 f1 hcut hcr hmin2 hbS hr hq
  refine (hroom wY).mono ?_
  rintro e' w' ⟨rfl, rfl⟩
  clear hroom
  go_wp2_with fail
  refine (hrroom wY).mono ?_
  rintro e' w' ⟨rfl, rfl⟩
  clear hrroom
  have hE : OwnB (wY.alloc (.cells #[] 5)) wY.heap.size (.slice (some ⟨wY.heap.size, 0, none⟩) 0 0) [] := OwnB.lit wY wY.heap.size [] (Nat.le_refl _) (by simp)
  have hbE : Below wY.heap.size wY (wY.alloc (.cells #[] 5)) := (Below.refl _ _).alloc (Nat.le_refl _) _
  have hzE : wY.heap.size ≤ (wY.alloc (.cells #[] 5)).heap.size := by simp
  have rE := rY.alloc (.cells #[] 5)
  have cE := cellBelow hbE cX
  have hlE : ([] : List UInt8).length + n ≤ 140737488355328 := by simp; omega
  go_wp2_with (at_builtin; refine appB wY.heap.size wY.heap.size rfl _ _ rfl (.slice (some ⟨wY.heap.size, 0, none⟩) 0 0) [] xs A n c rfl rfl hE rE hbE hzE (Nat.le_refl _) hlE ?_; intro v1 w1 ho1 hb1 _ _; obtain ⟨A1, d1, rfl, hd1, r1⟩ := ho1.rdn n rY.len)
  have hb01 := stepBelow hbY hb1
  have c1 := cellBelow hb1 cY
  have c0 := cellBelow hb1 cX
  have rX := rY.below hb1
  have q1 := qY.below hb1
  clear hE hbE hzE rE cE hlE ho1 cY cX rY qY
  refine (hlay w1 A1 d1).mono ?_
  rintro e' w' ⟨rfl, rfl⟩
  go_wp2_with fail
  refine (hrlay w1 A c).mono ?_
  rintro e' w' ⟨rfl, rfl⟩
  clear hlay hrlay
  go_wp2_with fail
  refine (weakD (bb_same_eq none none 0 0 0 [] w1 (fun _ => True) (fun _ => True) (RdBB.nil _ _ _) (RdBB.nil _ _ _))).mono ?_
  rintro e2 w2 ⟨rfl, hb⟩
  have hb2 := stepBelow hb01 hb
  have c1 := cellBelow hb c1
  have c0 := cellBelow hb c0
  have rX := rX.below hb
  have q1 := q1.below hb
  have r1 := r1.below hb
  clear hb hb01
  go_wp2_with fail
  go_loop [87] (fun i => i = .int .i64 0) (fun _ => 0)
  case atStart => rfl
  case round =>
    subst hrel
    go_wp2_with fail
    refine (htake w2 B1 k2 e (by omega) q1).mono ?_
    obtain ⟨⟨ys, er⟩, hres⟩ : ∃ r, T k2 = r := ⟨_, rfl⟩
    rw [hres]
    have HRES := Lib.hid hres
    clear hres
    unfold RetTk
    rintro e3 w3 ⟨v3, rfl, ho3, hb⟩
    have hb3 := stepBelow hb2 hb
    have c1 := cellBelow hb c1
    have c0 := cellBelow hb c0
    have rX := rX.below hb
    have q1 := q1.below hb
    have r1 := r1.below hb
    obtain ⟨A3, d3, rfl, hd3, r3⟩ := ho3.rdn ys.length rfl
    clear hb hb2 ho3
    go_wp2_with fail
    refine (hrtake w3 B1 k2 e (by omega) q1).mono ?_
    rw [HRES.out]
    unfold RetTk
    rintro e4 w4 ⟨v4, rfl, ho4, hb⟩
    have hb4 := stepBelow hb3 hb
    have c1 := cellBelow hb c1
    have c0 := cellBelow hb c0
    have rX := rX.below hb
    have r1 := r1.below hb
    have r3 := r3.below hb
    obtain ⟨A4, d4, rfl, hd4, r4⟩ := ho4.rdn ys.length rfl
    clear hb hb3 ho4 q1
    go_wp2_with fail
    refine (awake_calls w4).mono ?_
    rintro e5 w5 ⟨rfl, hb⟩
    have hb5 := stepBelow hb4 hb
    have c1 := cellBelow hb c1
    have c0 := cellBelow hb c0
    have rX := rX.below hb
    have r1 := r1.below hb
    have r3 := r3.below hb
    have r4 := r4.below hb
    have heq := equal_calls A3 A4 ys.length d3 ys.length d4 ys ys w5 _ _ r3 r4
    rw [decide_eq_true (show ys = ys from rfl)] at heq
    have heq2 := equal_calls A1 A n d1 n c ([] ++ xs) xs w5 _ _ r1 rX
    rw [decide_eq_true (show [] ++ xs = xs from rfl)] at heq2
    clear hb hb4 r3 r4
    go_wp2_with fail
    refine heq.mono ?_
    rintro e6 w' ⟨rfl, rfl⟩
    clear heq
    go_wp2_with fail
    refine heq2.mono ?_
    rintro e6 w' ⟨rfl, rfl⟩
    go_wp2_with fail
    go_ret
    exact ⟨rfl, hb5⟩

theorem OwnBBG.cells {w : World} {base G : Nat} {v : Value} {ls : List (List UInt8)} (h : OwnBBG w base G v ls) (a b : Nat) (hl : ls.length = a) (ha : 1 ≤ a) (hb : 1 ≤ b) (hrow : ∀ j, j < a → (lrow ls j).length = b) :
    ∃ g cap, v = .slice (some ⟨g, 0, none⟩) a cap ∧ base ≤ g ∧ g < w.heap.size ∧ a ≤ cap ∧ v.ownBlock = some g ∧ ∀ j, j < a → ∃ o nj cj y : Nat, 0 < nj ∧ y < 256 ∧ w.cell? ⟨g, j, none⟩ = some (.slice (some ⟨G, o, none⟩) nj cj) ∧ w.cell? ⟨G, o, none⟩ = some (.int .u8 (y : Int)) := by
  obtain ⟨vs, h1, h2, h3⟩ := h
  rcases h2.2 with ⟨rfl, h0⟩ | ⟨g, cap, cur, rfl, hb, hg, hn, hm, hc, ht⟩
  · omega
  · refine ⟨g, cap, by rw [h1, hl], hb, (Array.getElem?_eq_some_iff.1 hg).1, by omega, rfl, fun j hj => ?_⟩
    obtain ⟨Aj, nj, cj, k1, k2, k3⟩ := h3 j (by omega)
    have hnj : nj = b := by rw [← k3.len]; exact hrow j hj
    obtain ⟨bb, o, e, k4⟩ := k3.at_ 0 (by omega)
    have hbG := k2.2 _ e
    simp only at hbG
    subst hbG
    subst e
    have hc := World.ownsRow.cells h2 (g := g) rfl j _ k1
    rw [addPlain, Nat.zero_add] at hc
    exact ⟨o, nj, cj, byt (lrow ls j) 0, by omega, byt_lt _ _, hc, k4⟩
theorem growSet (W : World) (b o : Nat) (v : Value) : W.grownBy (W.setCell ⟨b, o, none⟩ v) (some b) :=
  ⟨rfl, rfl, rfl, by simp [World.setCell], fun k _ hk => Below.heap_setCell _ _ _ _ (fun e => hk (by simp [e]))⟩
/-- What the loop leaves as it is. -/
def RowsInv (wr : World) (g G a : Nat) : Prop := (∀ o, wr.frozen? ⟨G, o, none⟩ = false) ∧ ∀ j, j < a → ∃ o nj cj y : Nat, 0 < nj ∧ y < 256 ∧ wr.cell? ⟨g, j, none⟩ = some (.slice (some ⟨G, o, none⟩) nj cj) ∧ wr.cell? ⟨G, o, none⟩ = some (.int .u8 (y : Int))
theorem RowsInv.set {wr : World} {g G a : Nat} (h : RowsInv wr g G a) (hne : g ≠ G) (o y : Nat) (hy : y < 256) : RowsInv (wr.setCell ⟨G, o, none⟩ (.int .u8 (y : Int))) g G a := by
  refine ⟨fun o' => by rw [World.frozen?_setCell]; exact h.1 o', fun j hj => ?_⟩
  obtain ⟨o1, nj, cj, y1, h1, h2, h3, h4⟩ := h.2 j hj
  have h5 := cellSet (p := ⟨G, o, none⟩) (u := .int .u8 (y : Int)) h3 (show g ≠ G from hne)
  by_cases ho : o1 = o
  · subst ho
    exact ⟨o1, nj, cj, y, h1, hy, h5, World.cell?_setCell_same' _ _ _ (by rw [h4]; rfl)⟩
  · exact ⟨o1, nj, cj, y1, h1, h2, h5, (World.cell?_setCell_other _ _ _ _ (by intro e; injection e with _ e; exact ho e.symm)).trans h4⟩
theorem rowLen (xs : List UInt8) (a b P : Nat) (hab : a * b = P) (hx : xs.length + 4 ≤ P) : ∀ j, j < a → (lrow (Pad.lays xs a b) j).length = b := fun j hj => by
  have hll := Pad.lays_length xs a b
  exact Pad.parts_mem b a _ (Pad.full_length xs _ (by rw [hab]; omega)) _ (by rw [lrow_eq _ j (by rw [hll]; exact hj)]; exact List.getElem_mem _)
set_option maxHeartbeats 4000000 in
theorem padLays_good (w : World) (g s : Int) (hg : -9223372036854775808 ≤ g ∧ g ≤ 9223372036854775807) (hs : -9223372036854775808 ≤ s ∧ s ≤ 9223372036854775807) (A : Option Addr) (n c : Nat) (xs : List UInt8) (B : Option Addr) (m e : Nat) (ls : List (List UInt8))
    (hr : RdB w (fun k => k < w.heap.size) A n xs) (hc : n ≤ c) (hn : n ≤ 1048576) (hq : RdBB w (fun k => k < w.heap.size) B m ls) (he : m ≤ e) (a b P : Nat) (hab : a * b = P) (hP : ((a : Int) * (b : Int)) = (P : Int)) (h1 : 1 ≤ a) (h2 : a ≤ 255) (h3 : 1 ≤ b) (h4 : b ≤ 65535) (h5 : 4 < P) (h6 : P ≤ 16711425) (hn1 : 1 ≤ n) (hnP : n ≤ P - 4) (rv re : Nat) (T : Nat → List UInt8 × Nat) (hsg : sz1 g = (a : Int)) (hss : sz2 s = (b : Int))
    (hroom : ∀ W, Calls Try.prog 9 #[.int .i64 (a : Int), .int .i64 (b : Int)] W fun e w' => e = .returned (.tuple #[.int .i64 (rv : Int), .int .i64 (re : Int)]) ∧ W = w')
    (hrroom : ∀ W, Calls Try.prog 15 #[.int .i64 (a : Int), .int .i64 (b : Int)] W fun e w' => e = .returned (.tuple #[.int .i64 (rv : Int), .int .i64 (re : Int)]) ∧ W = w')
    (htake : ∀ W B k e, k ≤ e → RdBB W (fun k => k < w.heap.size) B k (ls.take k) → Calls Try.prog 11 #[.slice B k e, .int .i64 (a : Int), .int .i64 (b : Int)] W (RetTk W (T k)))
    (hrtake : ∀ W B k e, k ≤ e → RdBB W (fun k => k < w.heap.size) B k (ls.take k) → Calls Try.prog 18 #[.slice B k e, .int .i64 (a : Int), .int .i64 (b : Int)] W (RetTk W (T k))) :
    Calls Try.prog 4 #[.int .i64 g, .int .i64 s, .agg #[.slice A n c, .slice B m e]] w fun e w' => e = .returned (.bool true) ∧ Below w.heap.size w w' := by
  have HAB := Lib.hid hab
  have HP := Lib.hid hP
  clear hab hP
  obtain ⟨wS, hwS⟩ : ∃ wS, w.alloc (.cells #[.slice A n c, .slice B m e] 36) = wS := ⟨_, rfl⟩
  obtain ⟨hbS, c0, c1, f1, _⟩ := boxed2 _ _ _ _ _ hwS
  have HWS := Lib.hid hwS
  have hsz := sizes_calls g s wS hg hs
  rw [hsg, hss] at hsz
  obtain ⟨k2, hk2⟩ : ∃ k2, k2 = min m 50 := ⟨_, rfl⟩
  have hmin2 : ∀ W : World, (Builtin.min_ #[3, 3] 3 #[.int .i64 (m : Int), .int .i64 50]).run Try.prog W = .ok (.int .i64 (k2 : Int)) W := min2_run m 50 k2 hk2
  have hk2m : k2 ≤ m := by omega
  obtain ⟨B1, hcut, hcr⟩ := cutToBB_run B m e k2 hk2m he
  clear hwS hsg hss hk2
  go_enter Try.func4, Try.ntmps4
  go_wp2_with fail
  rw [HWS.out]
  refine hsz.mono ?_
  rintro e' w' ⟨rfl, rfl⟩
  clear hsz
  go_wp2_with fail
  obtain ⟨wY, hwY⟩ : ∃ wY, wS.setCell ⟨w.heap.size, 1, none⟩ (.slice B1 k2 e) = wY := ⟨_, rfl⟩
  have hbY : Below w.heap.size w wY := by rw [← hwY]; exact hbS.setCell (p := ⟨w.heap.size, 1, none⟩) (Nat.le_refl _) _
  have cY : wY.cell? ⟨w.heap.size, 1, none⟩ = some (.slice B1 k2 e) := by rw [← hwY]; exact World.cell?_setCell_same' _ _ _ (by rw [c1]; rfl)
  have cX : wY.cell? ⟨w.heap.size, 0, none⟩ = some (.slice A n c) := by rw [← hwY]; exact (World.cell?_setCell_other _ _ _ _ (by intro h; injection h with _ h; cases h)).trans c0
  have rY := hr.below hbY
  have qY := hcr _ _ _ (hq.below hbY)
  rw [hwY]
  clear hwY c0 c1 f1 hcut hcr hmin2 hbS hr hq
  refine (hroom wY).mono ?_
  rintro e' w' ⟨rfl, rfl⟩
  clear hroom
  go_wp2_with fail
  refine (hrroom wY).mono ?_
  rintro e' w' ⟨rfl, rfl⟩
  clear hrroom
  have hE : OwnB (wY.alloc (.cells #[] 5)) wY.heap.size (.slice (some ⟨wY.heap.size, 0, none⟩) 0 0) [] := OwnB.lit wY wY.heap.size [] (Nat.le_refl _) (by simp)
  have hbE : Below wY.heap.size wY (wY.alloc (.cells #[] 5)) := (Below.refl _ _).alloc (Nat.le_refl _) _
  have hzE : wY.heap.size ≤ (wY.alloc (.cells #[] 5)).heap.size := by simp
  have rE := rY.alloc (.cells #[] 5)
  have cE := cellBelow hbE cX
  have hlE : ([] : List UInt8).length + n ≤ 140737488355328 := by simp; omega
  go_wp2_with (at_builtin; refine appB wY.heap.size wY.heap.size rfl _ _ rfl (.slice (some ⟨wY.heap.size, 0, none⟩) 0 0) [] xs A n c rfl rfl hE rE hbE hzE (Nat.le_refl _) hlE ?_; intro v1 w1 ho1 hb1 _ _; obtain ⟨A1, d1, rfl, hd1, r1⟩ := ho1.rdn n rY.len)
  have hb01 := stepBelow hbY hb1
  have c1 := cellBelow hb1 cY
  have c0 := cellBelow hb1 cX
  have rX := rY.below hb1
  have q1 := qY.below hb1
  clear hE hbE hzE rE cE hlE ho1 cY cX rY qY
  have hxl := rX.len
  have hll := Pad.lays_length xs a b
  have hrow := rowLen xs a b P HAB.out (by omega)
  have hlay := layG_calls A1 n d1 a b P ([] ++ xs) w1 _ r1 HAB.out HP.out h1 h2 h3 h4 h5 h6 hn1 hnP
  have hrlay := fun W h => rlay_calls A n c a b P xs W (fun k => k < w.heap.size) h HAB.out HP.out h1 h2 h3 h4 h5 h6 hn1 hnP
  rw [List.nil_append] at hlay
  obtain ⟨L, hL⟩ : ∃ L, Pad.lays xs a b = L := ⟨_, rfl⟩
  rw [hL] at hlay hll hrow
  simp only [hL] at hrlay
  clear hL hxl
  have r1 := r1.mono (ok' := fun k => k < w1.heap.size) fun k _ hl => hl
  refine hlay.mono ?_
  rintro e2 w2 ⟨v2, G, rfl, ho2, hf2, hG, hvG, hb⟩
  have hb2 := stepBelow hb01 hb
  have c1 := cellBelow hb c1
  have c0 := cellBelow hb c0
  have rX := rX.below hb
  have q1 := q1.below hb
  have r1 := r1.below hb
  have hz1 := hb01.size
  have hwl : w.heap.size < w1.heap.size := World.block_lt_of_cell? w1 _ (by assumption)
  obtain ⟨g2, d2, e2, hg2, hg2l, hd2, hg2o, hcells⟩ := ho2.cells a b hll h1 h3 hrow
  obtain ⟨A2', d2', e2', _, p2⟩ := ho2.own.rdn a hll
  rw [e2] at e2'
  cases e2'
  rw [hg2o] at hvG
  have hne : g2 ≠ G := fun e => hvG (by rw [e])
  have hGl : G < w2.heap.size := by
    obtain ⟨o, _, _, _, _, _, _, k⟩ := hcells 0 (by omega)
    exact World.block_lt_of_cell? w2 _ k
  subst e2
  have HLL := Lib.hid hll
  clear hlay hb hb01 ho2 hg2o hvG hrow hll
  go_wp2_with fail
  refine (hrlay w2 rX).mono ?_
  rintro e3 w3 ⟨v3, rfl, ho3, hb⟩
  have hb3 := stepBelow hb2 hb
  have c1 := cellBelow hb c1
  have c0 := cellBelow hb c0
  have rX := rX.below hb
  have q1 := q1.below hb
  have r1 := r1.below hb
  have p2 := p2.below hb
  have hI : RowsInv w3 g2 G a := ⟨fun o => (hb.frozen (p := ⟨G, o, none⟩) hGl).trans (hf2 o), fun j hj => by
    obtain ⟨o, nj, cj, y, k1, k2, k3, k4⟩ := hcells j hj
    exact ⟨o, nj, cj, y, k1, k2, cellBelow hb k3, cellBelow hb k4⟩⟩
  obtain ⟨A3, d3, rfl, hd3, p3⟩ := ho3.rdn a HLL.out
  have hz23 := hb.size
  have hw3 : w.heap.size < w3.heap.size := World.block_lt_of_cell? w3 _ c1
  have hwG : w.heap.size ≠ G := by omega
  clear hrlay hb hb2 ho3 hcells hf2
  go_wp2_with fail
  refine (bb_same_eq (some ⟨g2, 0, none⟩) A3 a d2 d3 L w3 _ _ p2 p3).mono ?_
  rintro e4 w4 ⟨rfl, md, rfl⟩
  clear p2 p3
  go_wp2_with fail
  go_loopw [87] (fun i wr => ∃ k : Nat, k ≤ a ∧ i = .int .i64 (k : Int) ∧ w3.grownBy wr (some G) ∧ RowsInv wr g2 G a) (fun i _ => a - (intOf i).toNat)
  case atStart => exact ⟨0, Nat.zero_le _, rfl, (grownOfBelow (belowDrewN (Below.refl _ _) md) _), hI⟩
  case round =>
    obtain ⟨k, hk, rfl, hgr, hI2⟩ := hrel
    by_cases hlt : k < a
    · obtain ⟨o, nj, cj, y, k1, k2, k3, k4⟩ := hI2.2 k hlt
      have fz := hI2.1 o
      have hnj : (0 : Int) < (nj : Int) := by omega
      have hx : bits .xor .u8 (y : Int) 255 = ((y ^^^ 255 : Nat) : Int) := u8_xor_nat y 255 k2 (by omega)
      have HX := Lib.hid hx
      have hy2 : y ^^^ 255 < 256 := Nat.xor_lt_two_pow (n := 8) k2 (by omega)
      have hI3 := hI2.set hne o (y ^^^ 255) hy2
      have hgr3 := hgr.trans (growSet wr G o (.int .u8 ((y ^^^ 255 : Nat) : Int)))
      clear hI2 hx
      go_wp2_with fail
      go_roundw
      case rel =>
        refine ⟨k + 1, by omega, by go_num, ?_⟩
        rw [HX.out]
        exact ⟨hgr3, hI3⟩
      case measure => simp [intOf]; omega
    · obtain rfl : k = a := by omega
      have hbr : Below w.heap.size w wr := hb3.grown hgr hb3.size (fun x e => by cases e; omega)
      have c1 : wr.cell? ⟨w.heap.size, 1, none⟩ = some (.slice B1 k2 e) := (World.cell?_of_block (hgr.block _ (show w.heap.size < w3.heap.size from hw3) (fun e => hwG (by injection e)))).trans c1
      have c0 : wr.cell? ⟨w.heap.size, 0, none⟩ = some (.slice A n c) := (World.cell?_of_block (hgr.block _ (show w.heap.size < w3.heap.size from hw3) (fun e => hwG (by injection e)))).trans c0
      have rX := rX.grown hgr (fun x hx e => by cases e; omega)
      have q1 := q1.grown hgr (fun x hx e => by cases e; omega)
      have r1 := r1.grown hgr (fun x hx e => by cases e; omega)
      go_wp2_with fail
      refine (htake wr B1 k2 e (by omega) q1).mono ?_
      obtain ⟨⟨ys, er⟩, hres⟩ : ∃ r, T k2 = r := ⟨_, rfl⟩
      rw [hres]
      have HRES := Lib.hid hres
      clear hres
      unfold RetTk
      rintro e3 w3 ⟨v3, rfl, ho3, hb⟩
      have hb3 := stepBelow hbr hb
      have c1 := cellBelow hb c1
      have c0 := cellBelow hb c0
      have rX := rX.below hb
      have q1 := q1.below hb
      have r1 := r1.below hb
      obtain ⟨A3, d3, rfl, hd3, r3⟩ := ho3.rdn ys.length rfl
      clear hb hbr ho3
      go_wp2_with fail
      refine (hrtake w3 B1 k2 e (by omega) q1).mono ?_
      rw [HRES.out]
      unfold RetTk
      rintro e4 w4 ⟨v4, rfl, ho4, hb⟩
      have hb4 := stepBelow hb3 hb
      have c1 := cellBelow hb c1
      have c0 := cellBelow hb c0
      have rX := rX.below hb
      have r1 := r1.below hb
      have r3 := r3.below hb
      obtain ⟨A4, d4, rfl, hd4, r4⟩ := ho4.rdn ys.length rfl
      clear hb hb3 ho4 q1
      go_wp2_with fail
      refine (awake_calls w4).mono ?_
      rintro e5 w5 ⟨rfl, hb⟩
      have hb5 := stepBelow hb4 hb
      have c1 := cellBelow hb c1
      have c0 := cellBelow hb c0
      have rX := rX.below hb
      have r1 := r1.below hb
      have r3 := r3.below hb
      have r4 := r4.below hb
      have heq := equal_calls A3 A4 ys.length d3 ys.length d4 ys ys w5 _ _ r3 r4
      rw [decide_eq_true (show ys = ys from rfl)] at heq
      have heq2 := equal_calls A1 A n d1 n c ([] ++ xs) xs w5 _ _ r1 rX
      rw [decide_eq_true (show [] ++ xs = xs from rfl)] at heq2
      clear hb hb4 r3 r4
      go_wp2_with fail
      refine heq.mono ?_
      rintro e6 w' ⟨rfl, rfl⟩
      clear heq
      go_wp2_with fail
      refine heq2.mono ?_
      rintro e6 w' ⟨rfl, rfl⟩
      go_wp2_with fail
      go_ret
      exact ⟨rfl, hb5⟩
theorem padLays_walk (w : World) (g s : Int) (A : Option Addr) (n c : Nat) (xs : List UInt8) (B : Option Addr) (m e : Nat) (ls : List (List UInt8)) (hg1 : -9223372036854775808 ≤ g) (hg2 : g ≤ 9223372036854775807) (hs1 : -9223372036854775808 ≤ s) (hs2 : s ≤ 9223372036854775807)
    (hr : RdB w (fun k => k < w.heap.size) A n xs) (hc : n ≤ c) (hq : RdBB w (fun k => k < w.heap.size) B m ls) (he : m ≤ e) (hn : n ≤ 1048576) (_hm : m ≤ 1048576) :
    Calls Try.prog 4 #[.int .i64 g, .int .i64 s, .agg #[.slice A n c, .slice B m e]] w fun e w' => e = .returned (.bool true) ∧ Below w.heap.size w w' := by
  by_cases h : okGS (sz1 g) (sz2 s)
  · obtain ⟨a, b, P, ha, hb, hab, hP, h1, h2, h3, h4, h5, h6⟩ := okGS_nat h
    have hroom := fun W => room_calls a b P W hP h1 h2 h3 h4 h5 h6
    have hrroom := fun W => rroom_calls a b P W hP h1 h2 h3 h4 h5 h6
    by_cases hn0 : n = 0
    · subst hn0
      exact padLays_err w g s ⟨hg1, hg2⟩ ⟨hs1, hs2⟩ A 0 c xs B m e ls hr hc hn hq he a b (P - 4) 0 4 (fun k => Pad.takes (ls.take k) a b) ha hb hroom hrroom
        (fun W A c => lay_short A c a b P W hP h1 h2 h3 h4 h5 h6) (fun W A c => rlay_short A c a b P W hP h1 h2 h3 h4 h5 h6)
        (fun W B k e hk q => ptake_calls B k e a b P (ls.take k) W _ q hk hab hP h1 h2 h3 h4 h5 h6) (fun W B k e _ q => rtake_calls B k e a b P (ls.take k) W _ q hab hP h1 h2 h3 h4 h5 h6)
    · by_cases hlong : P - 4 < n
      · exact padLays_err w g s ⟨hg1, hg2⟩ ⟨hs1, hs2⟩ A n c xs B m e ls hr hc hn hq he a b (P - 4) 0 3 (fun k => Pad.takes (ls.take k) a b) ha hb hroom hrroom
          (fun W A c => lay_long A n c a b P W hP h1 h2 h3 h4 h5 h6 hlong) (fun W A c => rlay_long A n c a b P W hP h1 h2 h3 h4 h5 h6 hlong)
          (fun W B k e hk q => ptake_calls B k e a b P (ls.take k) W _ q hk hab hP h1 h2 h3 h4 h5 h6) (fun W B k e _ q => rtake_calls B k e a b P (ls.take k) W _ q hab hP h1 h2 h3 h4 h5 h6)
      · exact padLays_good w g s ⟨hg1, hg2⟩ ⟨hs1, hs2⟩ A n c xs B m e ls hr hc hn hq he a b P hab hP h1 h2 h3 h4 h5 h6 (by omega) (by omega) (P - 4) 0 (fun k => Pad.takes (ls.take k) a b) ha hb hroom hrroom
          (fun W B k e hk q => ptake_calls B k e a b P (ls.take k) W _ q hk hab hP h1 h2 h3 h4 h5 h6) (fun W B k e _ q => rtake_calls B k e a b P (ls.take k) W _ q hab hP h1 h2 h3 h4 h5 h6)
  · obtain ⟨g', hg'⟩ : ∃ g', sz1 g = g' := ⟨_, rfl⟩
    obtain ⟨s', hs'⟩ : ∃ s', sz2 s = s' := ⟨_, rfl⟩
    rw [hg', hs'] at h
    exact padLays_err w g s ⟨hg1, hg2⟩ ⟨hs1, hs2⟩ A n c xs B m e ls hr hc hn hq he g' s' 0 1 1 (fun _ => ([], 1)) hg' hs' (fun W => room_bad g' s' W h) (fun W => rroom_bad g' s' W h)
      (fun W A c => lay_bad A n c g' s' W h) (fun W A c => rlay_bad A n c g' s' W h)
      (fun W B k e _ _ => (take_bad B k e g' s' W h).mono fun e' w' hp => ⟨_, hp.1, OwnB.nil _ _, hp.2⟩) (fun W B k e _ _ => (rtake_bad B k e g' s' W h).mono fun e' w' hp => ⟨_, hp.1, OwnB.nil _ _, hp.2⟩)
end Go.Proofs.Ytnadohbgnanpiaa
