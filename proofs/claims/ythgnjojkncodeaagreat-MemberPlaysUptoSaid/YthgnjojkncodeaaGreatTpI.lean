/-
  The order of edges; slices.IsSortedFunc.
-/
import Derived.Test.YthgnjojkncodeaaGreatTpH
namespace Go.Proofs.YthgnjojkncodeaaGreat
open Go.RowKit
set_option linter.unusedVariables false

def cmpI (a b : Int) : Int := if a < b then -1 else if a > b then 1 else 0
theorem nan_calls (a : Int) (w : World) : Calls Tryz.prog 89 #[.int .i64 a] w fun e w' => e = .returned (.bool false) ∧ w = w' := by
  go_enter Tryz.func89, Tryz.ntmps89
  go_wp2
  go_ret
  exact ⟨rfl, rfl⟩
theorem compare_calls (a b : Int) (w : World) : Calls Tryz.prog 76 #[.int .i64 a, .int .i64 b] w fun e w' => e = .returned (.int .i64 (cmpI a b)) ∧ w = w' := by
  have hna := nan_calls a
  have hnb := nan_calls b
  rcases Int.lt_trichotomy a b with h | h | h
  · have hr : cmpI a b = -1 := by unfold cmpI; rw [if_pos h]
    have hd : decide (a < b) = true := decide_eq_true h
    rw [hr]
    go_enter Tryz.func76, Tryz.ntmps76
    go_wp2_with (first | (go_at_call 89; (with_reducible refine (hna _).mono ?_); rintro e w2 ⟨rfl, rfl⟩) | (go_at_call 89; (with_reducible refine (hnb _).mono ?_); rintro e w2 ⟨rfl, rfl⟩))
    go_ret
    exact ⟨rfl, rfl⟩
  · subst h
    have hr : cmpI a a = 0 := by unfold cmpI; rw [if_neg (by omega), if_neg (by omega)]
    have hd : decide (a < a) = false := decide_eq_false (by omega)
    have hd2 : decide (a > a) = false := decide_eq_false (by omega)
    rw [hr]
    go_enter Tryz.func76, Tryz.ntmps76
    go_wp2_with (first | (go_at_call 89; (with_reducible refine (hna _).mono ?_); rintro e w2 ⟨rfl, rfl⟩))
    go_ret
    exact ⟨rfl, rfl⟩
  · have hr : cmpI a b = 1 := by unfold cmpI; rw [if_neg (by omega), if_pos h]
    have hd : decide (a < b) = false := decide_eq_false (by omega)
    have hd2 : decide (a > b) = true := decide_eq_true h
    rw [hr]
    go_enter Tryz.func76, Tryz.ntmps76
    go_wp2_with (first | (go_at_call 89; (with_reducible refine (hna _).mono ?_); rintro e w2 ⟨rfl, rfl⟩) | (go_at_call 89; (with_reducible refine (hnb _).mono ?_); rintro e w2 ⟨rfl, rfl⟩))
    go_ret
    exact ⟨rfl, rfl⟩
theorem or2_calls (x y : Int) (b : Nat) (w : World) (h0 : w.cell? ⟨b, 0, none⟩ = some (.int .i64 x)) (h1 : w.cell? ⟨b, 1, none⟩ = some (.int .i64 y)) :
    Calls Tryz.prog 75 #[.slice (some ⟨b, 0, none⟩) 2 2] w fun e w' => e = .returned (.int .i64 (if x = 0 then y else x)) ∧ w = w' := by
  obtain ⟨r, hr⟩ : ∃ r, (if x = 0 then y else x) = r := ⟨_, rfl⟩
  rw [hr]
  have HR := Lib.hid hr
  clear hr
  go_enter Tryz.func75, Tryz.ntmps75
  go_wp2
  go_loopg [8] 2 (fun gg s8 wr => ∃ k : Nat, k ≤ 2 ∧ 2 - k ≤ gg ∧ s8 = .int .i64 (k : Int) ∧ Hid (0 < k → x = 0) ∧ Hid (1 < k → y = 0) ∧ wr = w)
  case atStart => exact ⟨0, by omega, by omega, rfl, Lib.hid (fun h => by omega), Lib.hid (fun h => by omega), rfl⟩
  case round =>
    obtain ⟨k, hk, hgk, rfl, HX, HY, rfl⟩ := hrel
    have hcases : k = 0 ∨ k = 1 ∨ k = 2 := by omega
    rcases hcases with rfl | rfl | rfl
    · by_cases hx : x = 0
      · have hb : (x != 0) = false := by rw [hx]; rfl
        have HX0 := Lib.hid hx
        clear hx
        go_wp2
        go_roundg 1
        case measure => omega
        case rel => exact ⟨1, by omega, by omega, rfl, Lib.hid (fun _ => HX0.out), Lib.hid (fun h => by omega), rfl⟩
      · have hb : (x != 0) = true := by rw [bne_iff_ne]; exact hx
        have hrx : r = x := by rw [← HR.out, if_neg hx]
        subst hrx
        clear hx
        go_wp2
        go_ret
        exact ⟨rfl, rfl⟩
    · have hx0 := HX.out (by omega)
      by_cases hy : y = 0
      · have hb : (y != 0) = false := by rw [hy]; rfl
        have HY0 := Lib.hid hy
        have HX0 := Lib.hid hx0
        clear hy hx0
        go_wp2
        go_roundg 0
        case measure => omega
        case rel => exact ⟨2, by omega, by omega, rfl, Lib.hid (fun _ => HX0.out), Lib.hid (fun _ => HY0.out), rfl⟩
      · have hb : (y != 0) = true := by rw [bne_iff_ne]; exact hy
        have hry : r = y := by rw [← HR.out, if_pos hx0]
        subst hry
        clear hy hx0
        go_wp2
        go_ret
        exact ⟨rfl, rfl⟩
    · have hr0 : r = 0 := by rw [← HR.out, if_pos (HX.out (by omega)), HY.out (by omega)]
      subst hr0
      go_wp2
      go_ret
      exact ⟨rfl, rfl⟩
def ordI (a b : Ed) : Int := if cmpI a.1 b.1 = 0 then cmpI a.2 b.2 else cmpI a.1 b.1
set_option maxHeartbeats 2000000 in
theorem order2_calls (a1 a2 b1 b2 : Int) (w : World) :
    Calls Tryz.prog 58 #[.agg #[.int .i64 a1, .int .i64 a2], .agg #[.int .i64 b1, .int .i64 b2]] w fun e w' => e = .returned (.int .i64 (ordI (a1, a2) (b1, b2))) ∧ Below w.heap.size w w' := by
  obtain ⟨w2, hw2⟩ : ∃ w2, (w.alloc (.cells #[.int .i64 a1, .int .i64 a2] 77)).alloc (.cells #[.int .i64 b1, .int .i64 b2] 77) = w2 := ⟨_, rfl⟩
  have hb2 : Below w.heap.size w w2 := by rw [← hw2]; exact ((Below.refl _ _).alloc (Nat.le_refl _) _).alloc (by simp) _
  have hs2 : w2.heap.size = w.heap.size + 2 := by rw [← hw2]; simp
  have hcA : ∀ W, Below w2.heap.size w2 W → W.cell? ⟨w.heap.size, 0, none⟩ = some (.int .i64 a1) ∧ W.cell? ⟨w.heap.size, 1, none⟩ = some (.int .i64 a2) ∧ W.cell? ⟨w.heap.size + 1, 0, none⟩ = some (.int .i64 b1) ∧ W.cell? ⟨w.heap.size + 1, 1, none⟩ = some (.int .i64 b2) := by
    intro W hb
    have e1 : w2.heap[w.heap.size]? = some (.cells #[.int .i64 a1, .int .i64 a2] 77 (0, 0)) := by
      rw [← hw2, Below.heap_alloc _ _ _ (by simp)]
      exact heap_alloc_new w _
    have e2 : w2.heap[w.heap.size + 1]? = some (.cells #[.int .i64 b1, .int .i64 b2] 77 (0, 0)) := by
      rw [← hw2]
      have := heap_alloc_new (w.alloc (.cells #[.int .i64 a1, .int .i64 a2] 77)) (.cells #[.int .i64 b1, .int .i64 b2] 77)
      simpa using this
    have f1 := (hb.block _ (by omega)).trans e1
    have f2 := (hb.block _ (by omega)).trans e2
    exact ⟨by simp [World.cell?, f1], by simp [World.cell?, f1], by simp [World.cell?, f2], by simp [World.cell?, f2]⟩
  obtain ⟨x, hx⟩ : ∃ x, cmpI a1 b1 = x := ⟨_, rfl⟩
  obtain ⟨y, hy⟩ : ∃ y, cmpI a2 b2 = y := ⟨_, rfl⟩
  have hc1 := fun W : World => compare_calls a1 b1 W
  have hc2 := fun W : World => compare_calls a2 b2 W
  simp only [hx] at hc1
  simp only [hy] at hc2
  have hor : ∀ W : World, Calls Tryz.prog 75 #[.slice (some ⟨W.heap.size, 0, none⟩) 2 2] (W.alloc (.cells #[.int .i64 x, .int .i64 y] 3)) fun e w' => e = .returned (.int .i64 (if x = 0 then y else x)) ∧ W.alloc (.cells #[.int .i64 x, .int .i64 y] 3) = w' := fun W => or2_calls x y W.heap.size _ (by simp) (by simp)
  obtain ⟨r, hr⟩ : ∃ r, (if x = 0 then y else x) = r := ⟨_, rfl⟩
  have hres : ordI (a1, a2) (b1, b2) = r := by unfold ordI; simp only; rw [hx, hy]; exact hr
  rw [hres]
  simp only [hr] at hor
  have HW2 := Lib.hid hw2
  have HC := Lib.hid hcA
  have HB := Lib.hid hb2
  have HC1 := Lib.hid hc1
  have HC2 := Lib.hid hc2
  have HOR := Lib.hid hor
  obtain ⟨c0, c1, c2, c3⟩ := hcA w2 (Below.refl _ _)
  clear hw2 hcA hb2 hx hy hr hres hc1 hc2 hor hs2
  go_enter Tryz.func58, Tryz.ntmps58
  go_upto_region 1 with (fail)
  rw [HW2.out]
  go_region_held3 (fun w' => w'.cell? ⟨w.heap.size, 0, none⟩ = some (.int .i64 a1) ∧ w'.cell? ⟨w.heap.size, 1, none⟩ = some (.int .i64 a2) ∧ w'.cell? ⟨w.heap.size + 1, 0, none⟩ = some (.int .i64 b1) ∧ w'.cell? ⟨w.heap.size + 1, 1, none⟩ = some (.int .i64 b2))
    (first | exact ⟨c0, c1, c2, c3⟩ | exact HC.out _ (Below.refl _ _).drew | exact HC.out _ ((Below.refl _ _).alloc (Nat.le_refl _) _).drew)
    (first
    | (go_at_call 76; (with_reducible refine (HC1.out _).mono ?_); rintro e wq ⟨rfl, rfl⟩)
    | (go_at_call 76; (with_reducible refine (HC2.out _).mono ?_); rintro e wq ⟨rfl, rfl⟩)
    | (go_at_call 75; refine (HOR.out w2.drew).mono ?_; rintro e wq ⟨rfl, hwq⟩; subst hwq))
  go_wp2_with fail
  go_ret
  exact ⟨rfl, belowThen HB.out HB.out.size ((Below.refl _ _).alloc (Nat.le_refl _) _).drew⟩
def edAt (l : List Ed) (j : Nat) : Ed := l[j]?.getD (0, 0)
def sortedB (l : List Ed) : Bool := (List.range (l.length - 1)).all fun j => decide (0 ≤ ordI (edAt l (j + 1)) (edAt l j))
theorem sortedB_true {l : List Ed} (h : ∀ j, j + 1 < l.length → 0 ≤ ordI (edAt l (j + 1)) (edAt l j)) : sortedB l = true :=
  List.all_eq_true.2 fun j hj => decide_eq_true (h j (by have := List.mem_range.1 hj; omega))
theorem sortedB_false {l : List Ed} {j : Nat} (hj : j + 1 < l.length) (h : ordI (edAt l (j + 1)) (edAt l j) < 0) : sortedB l = false := by
  rw [Bool.eq_false_iff]
  intro hs
  have := List.all_eq_true.1 hs j (List.mem_range.2 (by omega))
  have := of_decide_eq_true this
  omega
theorem edAt_get {l : List Ed} {j : Nat} (h : j < l.length) : l[j]? = some (edAt l j) := by unfold edAt; rw [List.getElem?_eq_getElem h]; rfl
set_option maxHeartbeats 2000000 in
theorem sorted_calls (w : World) (A : Option Addr) (n c : Nat) (l : List Ed) (hr : Rd elEd w (fun k => k < w.heap.size) A n l) :
    Calls Tryz.prog 57 #[.slice A n c, .func (.func 58) #[] #[]] w fun e w' => e = .returned (.bool (sortedB l)) ∧ Below w.heap.size w w' := by
  have hl := hr.len
  have hm := hr.max
  obtain ⟨rb, hrb⟩ : ∃ rb, sortedB l = rb := ⟨_, rfl⟩
  rw [hrb]
  have HRB := Lib.hid hrb
  have HL := Lib.hid hl
  clear hrb hl
  rcases Nat.eq_zero_or_pos n with hn0 | hn0
  · subst hn0
    obtain rfl : rb = true := by rw [← HRB.out]; exact sortedB_true fun j hj => by have := HL.out; omega
    clear hr
    go_enter Tryz.func57, Tryz.ntmps57
    go_wp2
    go_loopg [5] 0 (fun gg s5 wr => s5 = .int .i64 (-1) ∧ wr = w)
    case atStart => exact ⟨rfl, rfl⟩
    case round =>
      obtain ⟨rfl, rfl⟩ := hrel
      go_wp2
      go_ret
      exact ⟨rfl, Below.refl _ _⟩
  · have hnw : IntKind.i64.wrap ((n : Int) - 1) = ((n - 1 : Nat) : Int) := by rw [IntWalk.i64_in _ ⟨by omega, by omega⟩]; omega
    have hnw2 : (n : Int) - 1 = ((n - 1 : Nat) : Int) := by omega
    obtain ⟨q, hq⟩ : ∃ q, n - 1 = q := ⟨_, rfl⟩
    rw [hq] at hnw hnw2
    have hqn : q + 1 ≤ n := by omega
    have HQ := Lib.hid hq
    clear hq
    go_enter Tryz.func57, Tryz.ntmps57
    go_wp2
    clear hnw hnw2
    go_loopg [5] q (fun gg s5 wr => ∃ i : Nat, i ≤ q ∧ i ≤ gg ∧ s5 = .int .i64 (i : Int) ∧ Hid (∀ j, i ≤ j → j + 1 < n → 0 ≤ ordI (edAt l (j + 1)) (edAt l j)) ∧ Hid (Below w.heap.size w wr))
    case atStart => exact ⟨q, by omega, by omega, rfl, Lib.hid (fun j hj hj2 => by have := HQ.out; omega), Lib.hid (Below.refl _ _)⟩
    case round =>
      obtain ⟨i, hi, hgi, rfl, HS, HB⟩ := hrel
      rcases Nat.eq_zero_or_pos i with hi0 | hi0
      · subst hi0
        obtain rfl : rb = true := by rw [← HRB.out]; exact sortedB_true fun j hj => HS.out j (by omega) (by have := HL.out; omega)
        clear hr
        go_wp2
        go_ret
        exact ⟨rfl, HB.out⟩
      · obtain ⟨j, hj⟩ : ∃ j, i = j + 1 := ⟨i - 1, by omega⟩
        have hij : (i : Int) - 1 = (j : Int) := by omega
        have hiw : IntKind.i64.wrap ((i : Int) - 1) = (j : Int) := by rw [hij]; exact IntWalk.i64_in _ ⟨by omega, by omega⟩
        have hjw : IntKind.i64.wrap (j : Int) = (j : Int) := IntWalk.i64_in _ ⟨by omega, by omega⟩
        have hig : (i : Int) > 0 := by omega
        have hi00 : (0 : Int) ≤ (i : Int) := by omega
        have hin : (i : Int) < (n : Int) := by omega
        have hj0 : (0 : Int) ≤ (j : Int) := by omega
        have hjn : (j : Int) < (n : Int) := by omega
        have hrr := hr.below HB.out
        obtain ⟨b, o, vs, rfl, hb1, hb2, hV, hcl⟩ := hrr.at_ i _ (edAt_get (by have := HL.out; omega))
        obtain ⟨rfl, _, _⟩ := ed_open hV
        obtain ⟨b', o', vs', e2, _, _, hV', hcl'⟩ := hrr.at_ j _ (edAt_get (by have := HL.out; omega))
        obtain ⟨rfl, _, _⟩ := ed_open hV'
        injection e2 with e2
        injection e2 with e3 e4
        subst e3 e4
        have hor := fun W : World => order2_calls (edAt l i).1 (edAt l i).2 (edAt l j).1 (edAt l j).2 W
        obtain ⟨rr, hrr2⟩ : ∃ rr, ordI ((edAt l i).1, (edAt l i).2) ((edAt l j).1, (edAt l j).2) = rr := ⟨_, rfl⟩
        simp only [hrr2] at hor
        have hrr3 : ordI (edAt l (j + 1)) (edAt l j) = rr := by rw [← hj]; exact hrr2
        obtain ⟨x1, hx1⟩ : ∃ x1, (edAt l i).1 = x1 := ⟨_, rfl⟩
        obtain ⟨x2, hx2⟩ : ∃ x2, (edAt l i).2 = x2 := ⟨_, rfl⟩
        obtain ⟨y1, hy1⟩ : ∃ y1, (edAt l j).1 = y1 := ⟨_, rfl⟩
        obtain ⟨y2, hy2⟩ : ∃ y2, (edAt l j).2 = y2 := ⟨_, rfl⟩
        have k0 : wr.cell? ⟨b, o + i * 2, none⟩ = some (.int .i64 x1) := by rw [← hx1]; exact hcl 0 _ rfl
        have k1 : wr.cell? ⟨b, o + i * 2 + 1, none⟩ = some (.int .i64 x2) := by rw [← hx2]; exact hcl 1 _ rfl
        have k2 : wr.cell? ⟨b, o + j * 2, none⟩ = some (.int .i64 y1) := by rw [← hy1]; exact hcl' 0 _ rfl
        have k3 : wr.cell? ⟨b, o + j * 2 + 1, none⟩ = some (.int .i64 y2) := by rw [← hy2]; exact hcl' 1 _ rfl
        simp only [hx1, hx2, hy1, hy2] at hor
        have HR3 := Lib.hid hrr3
        have HJ := Lib.hid hj
        have hjl : j + 1 < l.length := by have := HL.out; omega
        have HJL := Lib.hid hjl
        have HOR := Lib.hid hor
        clear hcl hcl' hV hV' hrr2 hrr3 hx1 hx2 hy1 hy2 hrr hj hor hjl
        by_cases hneg : rr < 0
        · have hd : decide (rr < 0) = true := decide_eq_true hneg
          obtain rfl : rb = false := by rw [← HRB.out]; exact sortedB_false HJL.out (by rw [HR3.out]; exact hneg)
          clear hneg
          go_wp2_with fail
          go_region_held3 (fun w' => w'.cell? ⟨b, o + i * 2, none⟩ = some (.int .i64 x1) ∧ w'.cell? ⟨b, o + i * 2 + 1, none⟩ = some (.int .i64 x2) ∧ w'.cell? ⟨b, o + j * 2, none⟩ = some (.int .i64 y1) ∧ w'.cell? ⟨b, o + j * 2 + 1, none⟩ = some (.int .i64 y2))
            (first | exact ⟨k0, k1, k2, k3⟩ | exact ⟨cellBelow B5.out k0, cellBelow B5.out k1, cellBelow B5.out k2, cellBelow B5.out k3⟩)
            ((go_at_call 58; (with_reducible refine (HOR.out _).mono ?_); rintro e w5 ⟨rfl, b5⟩; have B5 := Lib.hid (stepB1 b5); clear b5))
          go_wp2_with fail
          go_ret
          exact ⟨rfl, belowThen HB.out HB.out.size B5.out⟩
        · have hd : decide (rr < 0) = false := decide_eq_false hneg
          have HS2 : Hid (∀ q, j ≤ q → q + 1 < n → 0 ≤ ordI (edAt l (q + 1)) (edAt l q)) := Lib.hid (fun q hq hq2 => by
            rcases Nat.lt_or_ge q i with h' | h'
            · obtain rfl : q = j := by have := HJ.out; omega
              rw [HR3.out]; omega
            · exact HS.out q h' hq2)
          clear hneg
          go_wp2_with fail
          go_region_held3 (fun w' => w'.cell? ⟨b, o + i * 2, none⟩ = some (.int .i64 x1) ∧ w'.cell? ⟨b, o + i * 2 + 1, none⟩ = some (.int .i64 x2) ∧ w'.cell? ⟨b, o + j * 2, none⟩ = some (.int .i64 y1) ∧ w'.cell? ⟨b, o + j * 2 + 1, none⟩ = some (.int .i64 y2))
            (first | exact ⟨k0, k1, k2, k3⟩ | exact ⟨cellBelow B5.out k0, cellBelow B5.out k1, cellBelow B5.out k2, cellBelow B5.out k3⟩)
            ((go_at_call 58; (with_reducible refine (HOR.out _).mono ?_); rintro e w5 ⟨rfl, b5⟩; have B5 := Lib.hid (stepB1 b5); clear b5))
          go_wp2_with fail
          go_roundg j
          case measure => have := HJ.out; omega
          case rel => exact ⟨j, by have := HJ.out; omega, by omega, rfl, HS2, Lib.hid (belowThen HB.out HB.out.size B5.out)⟩
end Go.Proofs.YthgnjojkncodeaaGreat
