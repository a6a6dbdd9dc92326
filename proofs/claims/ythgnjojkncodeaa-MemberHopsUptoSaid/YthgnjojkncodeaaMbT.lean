/-
  slices.Equal of bools, of edges; slices.EqualFunc of rows of edges; topo.Same.
-/
import Derived.Test.YthgnjojkncodeaaMbS
import Derived.Deep.CutBlock
namespace Go.Proofs.Ythgnjojkncodeaa
open Go.RowKit
set_option linter.unusedVariables false
set_option linter.unusedSimpArgs false

theorem take_eqS {α : Type} {xs ys : List α} {k : Nat} {x : α} (h : xs.take k = ys.take k) (hx : xs[k]? = some x) (hy : ys[k]? = some x) : xs.take (k + 1) = ys.take (k + 1) := by
  rw [List.take_add_one, List.take_add_one, h, hx, hy]
theorem take_neS {α : Type} {xs ys : List α} {k : Nat} {x y : α} (hx : xs[k]? = some x) (hy : ys[k]? = some y) (hne : x ≠ y) : xs ≠ ys := by
  rintro rfl
  rw [hx] at hy
  exact hne (Option.some.inj hy)
theorem take_allS {α : Type} {xs ys : List α} {k : Nat} (h : xs.take k = ys.take k) (hx : xs.length = k) (hy : ys.length = k) : xs = ys := by
  rw [List.take_of_length_le (by omega), List.take_of_length_le (by omega)] at h
  exact h
theorem len_neS {α : Type} {xs ys : List α} {n m : Nat} (hx : xs.length = n) (hy : ys.length = m) (h : n ≠ m) : xs ≠ ys := by
  rintro rfl
  omega
set_option maxHeartbeats 2000000 in
theorem eqB_calls (w : World) (ok1 ok2 : Nat → Prop) (A B : Option Addr) (n c m d : Nat) (xs ys : List Bool) (hx : Rd El.bool w ok1 A n xs) (hy : Rd El.bool w ok2 B m ys) (r : Bool) (hr : decide (xs = ys) = r) :
    Calls Try.prog 61 #[.slice A n c, .slice B m d] w fun e w' => e = .returned (.bool r) ∧ Below w.heap.size w w' := by
  have HLx := Lib.hid hx.len
  have HLy := Lib.hid hy.len
  have hmx := hx.max
  have hmy := hy.max
  have HR := Lib.hid hr
  clear hr
  by_cases hnm : n = m
  · subst hnm
    go_enter Try.func61, Try.ntmps61
    go_wp2_with fail
    go_loopg [13] n (fun gg s13 wr => ∃ k qq : Nat, k ≤ n ∧ n - k ≤ gg ∧ s13 = .int .i64 k ∧ Hid (xs.take k = ys.take k) ∧ wr = w.drewN qq)
    case atStart => exact ⟨0, 0, Nat.zero_le _, by omega, rfl, Lib.hid (by simp), rfl⟩
    case round =>
      obtain ⟨k, qq, hk, hgk, rfl, HN, rfl⟩ := hrel
      by_cases hlt : k < n
      · have hlti : (k : Int) < (n : Int) := by omega
        have hk0 : (0 : Int) ≤ (k : Int) := by omega
        obtain ⟨x, hxk⟩ : ∃ x, xs[k]? = some x := ⟨_, List.getElem?_eq_getElem (by rw [HLx.out]; exact hlt)⟩
        obtain ⟨y, hyk⟩ : ∃ y, ys[k]? = some y := ⟨_, List.getElem?_eq_getElem (by rw [HLy.out]; exact hlt)⟩
        obtain ⟨b1, o1, vs1, rfl, _, _, rfl, hc1⟩ := hx.at_ k x hxk
        obtain ⟨b2, o2, vs2, rfl, _, _, rfl, hc2⟩ := hy.at_ k y hyk
        have k1 : w.cell? ⟨b1, o1 + k, none⟩ = some (.bool x) := by have := hc1 0 _ rfl; simpa [El.bool] using this
        have k2 : w.cell? ⟨b2, o2 + k, none⟩ = some (.bool y) := by have := hc2 0 _ rfl; simpa [El.bool] using this
        have HXK := Lib.hid hxk
        have HYK := Lib.hid hyk
        clear hc1 hc2 hxk hyk hx hy
        by_cases he : x = y
        · subst he
          have HT := Lib.hid (take_eqS HN.out HXK.out HYK.out)
          cases x
          all_goals
            go_wp2
            go_quiet (fail)
            go_wp2
            go_roundg (n - (k + 1))
            case measure => omega
            case rel => exact ⟨k + 1, _, by omega, by omega, by go_num, HT, rfl⟩
        · obtain rfl : r = false := by rw [← HR.out]; exact decide_eq_false (take_neS HXK.out HYK.out he)
          cases x <;> cases y
          all_goals try exact absurd rfl he
          all_goals
            clear he
            go_wp2
            go_quiet (fail)
            go_wp2
            go_ret
            exact ⟨rfl, belowDrewN (belowDrewN (Below.refl _ _) _) _⟩
      · have hlti : ¬ (k : Int) < (n : Int) := by omega
        obtain rfl : k = n := by omega
        obtain rfl : r = true := by rw [← HR.out]; exact decide_eq_true (take_allS HN.out HLx.out HLy.out)
        go_wp2
        go_ret
        exact ⟨rfl, belowDrewN (Below.refl _ _) _⟩
  · have hnmi : ((n : Int) == (m : Int)) = false := beq_eq_false_iff_ne.2 (by omega)
    obtain rfl : r = false := by rw [← HR.out]; exact decide_eq_false (len_neS HLx.out HLy.out hnm)
    go_enter Try.func61, Try.ntmps61
    go_wp2_with fail
    go_ret
    exact ⟨rfl, Below.refl _ _⟩
set_option maxHeartbeats 2000000 in
theorem eqE_calls (w : World) (ok1 ok2 : Nat → Prop) (A B : Option Addr) (n c m d : Nat) (xs ys : List Ed) (hx : Rd elEd w ok1 A n xs) (hy : Rd elEd w ok2 B m ys) (r : Bool) (hr : decide (xs = ys) = r) :
    Calls Try.prog 63 #[.slice A n c, .slice B m d] w fun e w' => e = .returned (.bool r) ∧ Below w.heap.size w w' := by
  have HLx := Lib.hid hx.len
  have HLy := Lib.hid hy.len
  have hmx := hx.max
  have hmy := hy.max
  have HR := Lib.hid hr
  clear hr
  by_cases hnm : n = m
  · subst hnm
    go_enter Try.func63, Try.ntmps63
    go_wp2_with fail
    go_loopg [13] n (fun gg s13 wr => ∃ k qq : Nat, k ≤ n ∧ n - k ≤ gg ∧ s13 = .int .i64 k ∧ Hid (xs.take k = ys.take k) ∧ wr = w.drewN qq)
    case atStart => exact ⟨0, 0, Nat.zero_le _, by omega, rfl, Lib.hid (by simp), rfl⟩
    case round =>
      obtain ⟨k, qq, hk, hgk, rfl, HN, rfl⟩ := hrel
      by_cases hlt : k < n
      · have hlti : (k : Int) < (n : Int) := by omega
        have hk0 : (0 : Int) ≤ (k : Int) := by omega
        obtain ⟨x, hxk⟩ : ∃ x, xs[k]? = some x := ⟨_, List.getElem?_eq_getElem (by rw [HLx.out]; exact hlt)⟩
        obtain ⟨y, hyk⟩ : ∃ y, ys[k]? = some y := ⟨_, List.getElem?_eq_getElem (by rw [HLy.out]; exact hlt)⟩
        obtain ⟨b1, o1, vs1, rfl, _, _, hV1, hc1⟩ := hx.at_ k x hxk
        obtain ⟨b2, o2, vs2, rfl, _, _, hV2, hc2⟩ := hy.at_ k y hyk
        obtain ⟨rfl, hi1, hi2⟩ := ed_open hV1
        obtain ⟨rfl, hj1, hj2⟩ := ed_open hV2
        have k0 : w.cell? ⟨b1, o1 + k * 2, none⟩ = some (.int .i64 x.1) := hc1 0 _ rfl
        have k1 : w.cell? ⟨b1, o1 + k * 2 + 1, none⟩ = some (.int .i64 x.2) := hc1 1 _ rfl
        have l0 : w.cell? ⟨b2, o2 + k * 2, none⟩ = some (.int .i64 y.1) := hc2 0 _ rfl
        have l1 : w.cell? ⟨b2, o2 + k * 2 + 1, none⟩ = some (.int .i64 y.2) := hc2 1 _ rfl
        obtain ⟨x1, x2⟩ := x
        obtain ⟨y1, y2⟩ := y
        simp only at k0 k1 l0 l1
        have HXK := Lib.hid hxk
        have HYK := Lib.hid hyk
        clear hc1 hc2 hxk hyk hx hy hV1 hV2
        by_cases h1 : x1 = y1
        · by_cases h2 : x2 = y2
          · subst h1 h2
            have e1 : (x1 == x1) = true := beq_self_eq_true _
            have e2 : (x2 == x2) = true := beq_self_eq_true _
            have HT := Lib.hid (take_eqS HN.out HXK.out HYK.out)
            go_wp2
            go_quiet (fail)
            go_wp2
            go_roundg (n - (k + 1))
            case measure => omega
            case rel => exact ⟨k + 1, _, by omega, by omega, by go_num, HT, rfl⟩
          · have e1 : (x1 == y1) = true := by rw [beq_iff_eq]; exact h1
            have e2 : (x2 == y2) = false := by rw [beq_eq_false_iff_ne]; exact h2
            obtain rfl : r = false := by rw [← HR.out]; exact decide_eq_false (take_neS HXK.out HYK.out fun e => h2 (by injection e))
            clear h1 h2
            go_wp2
            go_quiet (fail)
            go_wp2
            go_ret
            exact ⟨rfl, belowDrewN (belowDrewN (Below.refl _ _) _) _⟩
        · have e1 : (x1 == y1) = false := by rw [beq_eq_false_iff_ne]; exact h1
          obtain rfl : r = false := by rw [← HR.out]; exact decide_eq_false (take_neS HXK.out HYK.out fun e => h1 (by injection e))
          clear h1
          go_wp2
          go_quiet (fail)
          go_wp2
          go_ret
          exact ⟨rfl, belowDrewN (belowDrewN (Below.refl _ _) _) _⟩
      · have hlti : ¬ (k : Int) < (n : Int) := by omega
        obtain rfl : k = n := by omega
        obtain rfl : r = true := by rw [← HR.out]; exact decide_eq_true (take_allS HN.out HLx.out HLy.out)
        go_wp2
        go_ret
        exact ⟨rfl, belowDrewN (Below.refl _ _) _⟩
  · have hnmi : ((n : Int) == (m : Int)) = false := beq_eq_false_iff_ne.2 (by omega)
    obtain rfl : r = false := by rw [← HR.out]; exact decide_eq_false (len_neS HLx.out HLy.out hnm)
    go_enter Try.func63, Try.ntmps63
    go_wp2_with fail
    go_ret
    exact ⟨rfl, Below.refl _ _⟩
set_option maxHeartbeats 2000000 in
theorem eqF_calls (w : World) (ok1 ok2 : Nat → Prop) (A B : Option Addr) (n c m d : Nat) (xs ys : List (List Ed)) (hx : Rd elEs w ok1 A n xs) (hy : Rd elEs w ok2 B m ys) (r : Bool) (hr : decide (xs = ys) = r) :
    Calls Try.prog 62 #[.slice A n c, .slice B m d, .func (.func 63) #[] #[]] w fun e w' => e = .returned (.bool r) ∧ Below w.heap.size w w' := by
  have HLx := Lib.hid hx.len
  have HLy := Lib.hid hy.len
  have hmx := hx.max
  have hmy := hy.max
  have HR := Lib.hid hr
  have HX := Lib.hid hx
  have HY := Lib.hid hy
  clear hr hx hy
  by_cases hnm : n = m
  · subst hnm
    go_enter Try.func62, Try.ntmps62
    go_wp2_with fail
    go_loopg [17] n (fun gg s17 wr => ∃ k : Nat, k ≤ n ∧ n - k ≤ gg ∧ s17 = .int .i64 k ∧ Hid (xs.take k = ys.take k) ∧ Hid (Below w.heap.size w wr))
    case atStart => exact ⟨0, Nat.zero_le _, by omega, rfl, Lib.hid (by simp), Lib.hid (Below.refl _ _)⟩
    case round =>
      obtain ⟨k, hk, hgk, rfl, HN, HB⟩ := hrel
      by_cases hlt : k < n
      · have hlti : (k : Int) < (n : Int) := by omega
        have hk0 : (0 : Int) ≤ (k : Int) := by omega
        obtain ⟨x, hxk⟩ : ∃ x, xs[k]? = some x := ⟨_, List.getElem?_eq_getElem (by rw [HLx.out]; exact hlt)⟩
        obtain ⟨y, hyk⟩ : ∃ y, ys[k]? = some y := ⟨_, List.getElem?_eq_getElem (by rw [HLy.out]; exact hlt)⟩
        obtain ⟨b1, o1, vs1, rfl, _, _, hV1, hc1⟩ := (HX.out.below HB.out).at_ k x hxk
        obtain ⟨b2, o2, vs2, rfl, _, _, hV2, hc2⟩ := (HY.out.below HB.out).at_ k y hyk
        obtain ⟨C1, p1, q1, rfl, _, hR1⟩ := hV1
        obtain ⟨C2, p2, q2, rfl, _, hR2⟩ := hV2
        have k0 : wr.cell? ⟨b1, o1 + k, none⟩ = some (.slice C1 p1 q1) := by have := hc1 0 _ rfl; simpa [El.slice] using this
        have l0 : wr.cell? ⟨b2, o2 + k, none⟩ = some (.slice C2 p2 q2) := by have := hc2 0 _ rfl; simpa [El.slice] using this
        have hq := eqE_calls wr _ _ C1 C2 p1 q1 p2 q2 x y hR1 hR2
        have HXK := Lib.hid hxk
        have HYK := Lib.hid hyk
        clear hc1 hc2 hxk hyk hR1 hR2
        by_cases he : x = y
        · subst he
          have HT := Lib.hid (take_eqS HN.out HXK.out HYK.out)
          have hqc := hq true (decide_eq_true rfl)
          clear hq
          go_wp2_with fail
          refine hqc.mono ?_
          rintro e w2 ⟨rfl, hb2⟩
          clear hqc
          go_wp2_with fail
          have HB2 := Lib.hid (belowThen HB.out HB.out.size hb2)
          go_roundg (n - (k + 1))
          case measure => omega
          case rel => exact ⟨k + 1, by omega, by omega, by go_num, HT, HB2⟩
        · obtain rfl : r = false := by rw [← HR.out]; exact decide_eq_false (take_neS HXK.out HYK.out he)
          have hqc := hq false (decide_eq_false he)
          clear he hq
          go_wp2_with fail
          refine hqc.mono ?_
          rintro e w2 ⟨rfl, hb2⟩
          clear hqc
          go_wp2_with fail
          go_ret
          exact ⟨rfl, belowThen HB.out HB.out.size hb2⟩
      · have hlti : ¬ (k : Int) < (n : Int) := by omega
        obtain rfl : k = n := by omega
        obtain rfl : r = true := by rw [← HR.out]; exact decide_eq_true (take_allS HN.out HLx.out HLy.out)
        go_wp2_with fail
        go_ret
        exact ⟨rfl, HB.out⟩
  · have hnmi : ((n : Int) == (m : Int)) = false := beq_eq_false_iff_ne.2 (by omega)
    obtain rfl : r = false := by rw [← HR.out]; exact decide_eq_false (len_neS HLx.out HLy.out hnm)
    go_enter Try.func62, Try.ntmps62
    go_wp2_with fail
    go_ret
    exact ⟨rfl, Below.refl _ _⟩
def sameT (e1 : Int) (up1 : List Bool) (hops1 : List (List Ed)) (e2 : Int) (up2 : List Bool) (hops2 : List (List Ed)) : Bool := decide (e1 = e2) && decide (up1 = up2) && decide (hops1 = hops2)
set_option maxHeartbeats 2000000 in
theorem tsame_calls (w : World) (ok1 ok2 : Nat → Prop) (va vb : Value) (e1 : Int) (up1 : List Bool) (hops1 : List (List Ed)) (e2 : Int) (up2 : List Bool) (hops2 : List (List Ed)) (h1 : TopoV w ok1 va e1 up1 hops1) (h2 : TopoV w ok2 vb e2 up2 hops2) :
    Calls Try.prog 27 #[va, vb] w fun e w' => e = .returned (.bool (sameT e1 up1 hops1 e2 up2 hops2)) ∧ Below w.heap.size w w' := by
  obtain ⟨A1, n1, c1, B1, m1, d1, rfl, _, _, rU1, rH1⟩ := h1
  obtain ⟨A2, n2, c2, B2, m2, d2, rfl, _, _, rU2, rH2⟩ := h2
  obtain ⟨rr, hrr⟩ : ∃ rr, sameT e1 up1 hops1 e2 up2 hops2 = rr := ⟨_, rfl⟩
  rw [hrr]
  have HRR := Lib.hid hrr
  clear hrr
  obtain ⟨wa, hwa⟩ : ∃ wa, w.alloc (.cells #[.int .u64 e1, .slice A1 n1 c1, .slice B1 m1 d1] 29) = wa := ⟨_, rfl⟩
  obtain ⟨wb, hwb⟩ : ∃ wb, wa.alloc (.cells #[.int .u64 e2, .slice A2 n2 c2, .slice B2 m2 d2] 29) = wb := ⟨_, rfl⟩
  have ba : Below w.heap.size w wa := by rw [← hwa]; exact (Below.refl _ _).alloc (Nat.le_refl _) _
  have bb : Below wa.heap.size wa wb := by rw [← hwb]; exact (Below.refl _ _).alloc (Nat.le_refl _) _
  have sa : wa.heap.size = w.heap.size + 1 := by rw [← hwa]; simp
  have ea : wb.heap[w.heap.size]? = some (.cells #[.int .u64 e1, .slice A1 n1 c1, .slice B1 m1 d1] 29 (0, 0)) := by rw [bb.block _ (by omega), ← hwa]; exact heap_alloc_new w _
  have eb : wb.heap[w.heap.size + 1]? = some (.cells #[.int .u64 e2, .slice A2 n2 c2, .slice B2 m2 d2] 29 (0, 0)) := by rw [← hwb, ← sa]; exact heap_alloc_new wa _
  have hB := belowThen ba ba.size bb
  obtain ⟨P, hP⟩ : ∃ P, w.heap.size = P := ⟨_, rfl⟩
  rw [hP] at ea eb
  have p0 : wb.cell? ⟨P, 0, none⟩ = some (.int .u64 e1) := by simp [World.cell?, ea]
  have p1 : wb.cell? ⟨P, 1, none⟩ = some (.slice A1 n1 c1) := by simp [World.cell?, ea]
  have p2 : wb.cell? ⟨P, 2, none⟩ = some (.slice B1 m1 d1) := by simp [World.cell?, ea]
  have q0 : wb.cell? ⟨P + 1, 0, none⟩ = some (.int .u64 e2) := by simp [World.cell?, eb]
  have q1 : wb.cell? ⟨P + 1, 1, none⟩ = some (.slice A2 n2 c2) := by simp [World.cell?, eb]
  have q2 : wb.cell? ⟨P + 1, 2, none⟩ = some (.slice B2 m2 d2) := by simp [World.cell?, eb]
  have hQ' : wa.heap.size = P + 1 := by omega
  have HBB := Lib.hid hB
  have RU1 := Lib.hid (rU1.below hB)
  have RU2 := Lib.hid (rU2.below hB)
  have RH1 := Lib.hid (rH1.below hB)
  have RH2 := Lib.hid (rH2.below hB)
  have HWA := Lib.hid hwa
  have HWB := Lib.hid hwb
  have HP := Lib.hid hP
  have HQ := Lib.hid hQ'
  clear hwa hwb ba bb sa ea eb hB rU1 rU2 rH1 rH2 hP hQ'
  have hu := eqB_calls wb _ _ A1 A2 n1 c1 n2 c2 up1 up2 RU1.out RU2.out
  go_enter Try.func27, Try.ntmps27
  go_upto_region 1 with (fail)
  try rw [HWA.out]
  try rw [HWB.out]
  try rw [HQ.out]
  try rw [HP.out]
  by_cases he : e1 = e2
  · have hei : (e1 == e2) = true := beq_iff_eq.2 he
    have HE := Lib.hid he
    clear he
    by_cases hup : up1 = up2
    · have hu1 := hu true (decide_eq_true hup)
      clear hu
      have HU := Lib.hid hup
      clear hup
      have hrf : sameT e1 up1 hops1 e2 up2 hops2 = decide (hops1 = hops2) := by unfold sameT; rw [decide_eq_true HE.out, decide_eq_true HU.out]; rfl
      have HRF := Lib.hid (hrf.symm.trans HRR.out)
      clear hrf
      go_wp2_with fail
      refine hu1.mono ?_
      rintro e w2 ⟨rfl, b2⟩
      have P2 := cellBelow b2 p2
      have Q2 := cellBelow b2 q2
      have hf := eqF_calls w2 _ _ B1 B2 m1 d1 m2 d2 hops1 hops2 (RH1.out.below b2) (RH2.out.below b2) _ HRF.out
      have HB2 := Lib.hid (belowThen HBB.out HBB.out.size b2)
      clear b2 hu1
      go_wp2_with fail
      refine hf.mono ?_
      rintro e w3 ⟨rfl, b3⟩
      go_wp2_with fail
      go_ret
      exact ⟨rfl, belowThen HB2.out HB2.out.size b3⟩
    · have hu1 := hu false (decide_eq_false hup)
      clear hu
      obtain rfl : rr = false := by rw [← HRR.out]; unfold sameT; rw [decide_eq_false hup]; simp
      clear hup
      go_wp2_with fail
      refine hu1.mono ?_
      rintro e w2 ⟨rfl, b2⟩
      clear hu1
      go_wp2_with fail
      go_ret
      exact ⟨rfl, belowThen HBB.out HBB.out.size b2⟩
  · have hei : (e1 == e2) = false := beq_eq_false_iff_ne.2 he
    obtain rfl : rr = false := by rw [← HRR.out]; unfold sameT; rw [decide_eq_false he]; rfl
    clear he
    go_wp2_with fail
    go_ret
    exact ⟨rfl, HBB.out⟩
end Go.Proofs.Ythgnjojkncodeaa
