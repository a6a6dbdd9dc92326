/-
  The document's member: SameTopo, New, Take, Of. Printed by gen_rfh.py.
-/
import Derived.Test.YthgnjojkncodeaaGreatRfG
import Derived.Deep.CutBlock
import Derived.Deep.QuietTactic
import Derived.BigQuiet
namespace Go.Proofs.YthgnjojkncodeaaGreat
open Go.RowKit
set_option linter.unusedVariables false
set_option linter.unusedSimpArgs false

theorem take_eqS {α : Type} {xs ys : List α} {k : Nat} {x : α} (h : xs.take k = ys.take k) (hx : xs[k]? = some x) (hy : ys[k]? = some x) : xs.take (k + 1) = ys.take (k + 1) := by
  rw [List.take_add_one, List.take_add_one, h, hx, hy]
theorem take_neS {α : Type} {xs ys : List α} {k : Nat} {x y : α} (hx : xs[k]? = some x) (hy : ys[k]? = some y) (hne : x ≠ y) : xs ≠ ys := by
  rintro rfl
  rw [hx] at hy
  exact hne (Option.some.inj hy)
theorem take_allS {α : Type} {xs ys : List α} {k : Nat} (h : xs.take k = ys.take k) (hx : xs.length = k) (hy : ys.length = k) : xs = ys := by
  rw [List.take_of_length_le (by omega), List.take_of_length_le (by omega)] at h
  exact h
theorem len_neS {α : Type} {xs ys : List α} {n m : Nat} (hx : xs.length = n) (hy : ys.length = m) (h : n ≠ m) : xs ≠ ys := by
  rintro rfl
  omega
def sameT (e1 : Int) (up1 : List Bool) (hops1 : List (List Ed)) (e2 : Int) (up2 : List Bool) (hops2 : List (List Ed)) : Bool := decide (e1 = e2) && decide (up1 = up2) && decide (hops1 = hops2)
theorem sameT_up {e1 e2 : Int} {up1 up2 : List Bool} {hops1 hops2 : List (List Ed)} (h : up1 ≠ up2) : sameT e1 up1 hops1 e2 up2 hops2 = false := by unfold sameT; rw [decide_eq_false h]; simp
theorem sameT_hops {e1 e2 : Int} {up1 up2 : List Bool} {hops1 hops2 : List (List Ed)} (h : hops1 ≠ hops2) : sameT e1 up1 hops1 e2 up2 hops2 = false := by unfold sameT; rw [decide_eq_false h]; simp
theorem sameT_ep {e1 e2 : Int} {up1 up2 : List Bool} {hops1 hops2 : List (List Ed)} (h : e1 ≠ e2) : sameT e1 up1 hops1 e2 up2 hops2 = false := by unfold sameT; rw [decide_eq_false h]; rfl
set_option maxRecDepth 20000 in
set_option maxHeartbeats 4000000 in
theorem rsame_calls (w : World) (ok1 ok2 : Nat → Prop) (va vb : Value) (e1 : Int) (up1 : List Bool) (hops1 : List (List Ed)) (e2 : Int) (up2 : List Bool) (hops2 : List (List Ed)) (h1 : TopoV w ok1 va e1 up1 hops1) (h2 : TopoV w ok2 vb e2 up2 hops2) :
    Calls Tryz.prog 21 #[va, vb] w fun e w' => e = .returned (.bool (sameT e1 up1 hops1 e2 up2 hops2)) ∧ Below w.heap.size w w' := by
  obtain ⟨A1, n1, c1, B1, m1, d1, rfl, _, _, rU1, rH1⟩ := h1
  obtain ⟨A2, n2, c2, B2, m2, d2, rfl, _, _, rU2, rH2⟩ := h2
  obtain ⟨r, hr⟩ : ∃ r, sameT e1 up1 hops1 e2 up2 hops2 = r := ⟨_, rfl⟩
  rw [hr]
  have HR := Lib.hid hr
  clear hr
  obtain ⟨wa, hwa⟩ : ∃ wa, w.alloc (.cells #[.int .u64 e1, .slice A1 n1 c1, .slice B1 m1 d1] 38) = wa := ⟨_, rfl⟩
  obtain ⟨wb, hwb⟩ : ∃ wb, wa.alloc (.cells #[.int .u64 e2, .slice A2 n2 c2, .slice B2 m2 d2] 38) = wb := ⟨_, rfl⟩
  have ba : Below w.heap.size w wa := by rw [← hwa]; exact (Below.refl _ _).alloc (Nat.le_refl _) _
  have bb : Below wa.heap.size wa wb := by rw [← hwb]; exact (Below.refl _ _).alloc (Nat.le_refl _) _
  have sa : wa.heap.size = w.heap.size + 1 := by rw [← hwa]; simp
  have ea : wb.heap[w.heap.size]? = some (.cells #[.int .u64 e1, .slice A1 n1 c1, .slice B1 m1 d1] 38 (0, 0)) := by rw [bb.block _ (by omega), ← hwa]; exact heap_alloc_new w _
  have eb : wb.heap[w.heap.size + 1]? = some (.cells #[.int .u64 e2, .slice A2 n2 c2, .slice B2 m2 d2] 38 (0, 0)) := by rw [← hwb, ← sa]; exact heap_alloc_new wa _
  have hB := belowThen ba ba.size bb
  obtain ⟨P, hP⟩ : ∃ P, w.heap.size = P := ⟨_, rfl⟩
  rw [hP] at ea eb
  have p0 : wb.cell? ⟨P, 0, none⟩ = some (.int .u64 e1) := by simp [World.cell?, ea]
  have p1 : wb.cell? ⟨P, 1, none⟩ = some (.slice A1 n1 c1) := by simp [World.cell?, ea]
  have p2 : wb.cell? ⟨P, 2, none⟩ = some (.slice B1 m1 d1) := by simp [World.cell?, ea]
  have q0 : wb.cell? ⟨P + 1, 0, none⟩ = some (.int .u64 e2) := by simp [World.cell?, eb]
  have q1 : wb.cell? ⟨P + 1, 1, none⟩ = some (.slice A2 n2 c2) := by simp [World.cell?, eb]
  have q2 : wb.cell? ⟨P + 1, 2, none⟩ = some (.slice B2 m2 d2) := by simp [World.cell?, eb]
  have hQ' : wa.heap.size = P + 1 := by omega
  have HBB := Lib.hid hB
  have LU1 := Lib.hid rU1.len
  have LU2 := Lib.hid rU2.len
  have LH1 := Lib.hid rH1.len
  have LH2 := Lib.hid rH2.len
  have hxu := rU1.max
  have hxu2 := rU2.max
  have hxh := rH1.max
  have hxh2 := rH2.max
  have RU1 := Lib.hid (rU1.below hB)
  have RU2 := Lib.hid (rU2.below hB)
  have RH1 := Lib.hid (rH1.below hB)
  have RH2 := Lib.hid (rH2.below hB)
  have HWA := Lib.hid hwa
  have HWB := Lib.hid hwb
  have HP := Lib.hid hP
  have HQ := Lib.hid hQ'
  clear hwa hwb ba bb sa ea eb hB rU1 rU2 rH1 rH2 hP hQ'
  go_enter Tryz.func21, Tryz.ntmps21
  go_upto_region 1 with (fail)
  try rw [HWA.out]
  try rw [HWB.out]
  try rw [HQ.out]
  try rw [HP.out]
  by_cases he : e1 = e2
  · have hei : (e1 == e2) = true := beq_iff_eq.2 he
    have hei2 : (e1 != e2) = false := by simp [he]
    have HE := Lib.hid he
    clear he
    by_cases hnu : n1 = n2
    · subst hnu
      by_cases hnh : m1 = m2
      · subst hnh
        go_upto_region 4 with (fail)
        go_loopg [5] n1 (fun gg s5 wr => ∃ i qq : Nat, i ≤ n1 ∧ n1 - i ≤ gg ∧ s5 = .int .i64 (i : Int) ∧ Hid (up1.take i = up2.take i) ∧ wr = wb.drewN qq)
        case atStart => exact ⟨0, 0, by omega, by omega, rfl, Lib.hid (by simp), rfl⟩
        case round =>
          obtain ⟨i, qq, hi, hgi, rfl, HN, rfl⟩ := hrel
          by_cases hil : i < n1
          · have hili : (i : Int) < (n1 : Int) := by omega
            have hi0 : (0 : Int) ≤ (i : Int) := by omega
            obtain ⟨x, hxk⟩ : ∃ x, up1[i]? = some x := ⟨_, List.getElem?_eq_getElem (by rw [LU1.out]; exact hil)⟩
            obtain ⟨y, hyk⟩ : ∃ y, up2[i]? = some y := ⟨_, List.getElem?_eq_getElem (by rw [LU2.out]; exact hil)⟩
            obtain ⟨b1, o1, vs1, rfl, _, _, rfl, hc1⟩ := RU1.out.at_ i x hxk
            obtain ⟨b2, o2, vs2, rfl, _, _, rfl, hc2⟩ := RU2.out.at_ i y hyk
            have k1 : wb.cell? ⟨b1, o1 + i, none⟩ = some (.bool x) := by have := hc1 0 _ rfl; simpa [El.bool] using this
            have k2 : wb.cell? ⟨b2, o2 + i, none⟩ = some (.bool y) := by have := hc2 0 _ rfl; simpa [El.bool] using this
            have HXK := Lib.hid hxk
            have HYK := Lib.hid hyk
            clear hc1 hc2 hxk hyk
            by_cases hxy : x = y
            · subst hxy
              have HT := Lib.hid (take_eqS HN.out HXK.out HYK.out)
              cases x
              all_goals
                go_wp2_with fail
                go_quiet (fail)
                go_wp2_with fail
                go_roundg (n1 - (i + 1))
                case measure => omega
                case rel => exact ⟨i + 1, _, by omega, by omega, by go_num, HT, rfl⟩
            · obtain rfl : r = false := by rw [← HR.out]; exact sameT_up (take_neS HXK.out HYK.out hxy)
              cases x <;> cases y
              all_goals try exact absurd rfl hxy
              all_goals
                clear hxy
                go_wp2_with fail
                go_quiet (fail)
                go_wp2_with fail
                go_ret
                exact ⟨rfl, by first | exact belowDrewN HBB.out _ | exact belowDrewN (belowDrewN HBB.out _) _⟩
          · have hili : ¬ ((i : Int) < (n1 : Int)) := by omega
            obtain rfl : i = n1 := by omega
            have HUP := Lib.hid (take_allS HN.out LU1.out LU2.out)
            go_upto_region 9 with (fail)
            go_loopg [6] m1 (fun gg s6 wr => ∃ i qq : Nat, i ≤ m1 ∧ m1 - i ≤ gg ∧ s6 = .int .i64 (i : Int) ∧ Hid (hops1.take i = hops2.take i) ∧ wr = wb.drewN qq)
            case atStart => exact ⟨0, _, by omega, by omega, rfl, Lib.hid (by simp), by first | rfl | exact World.drewN_drewN ..⟩
            case round =>
              obtain ⟨j, qj, hj, hgj, rfl, HN, rfl⟩ := hrel
              by_cases hjl : j < m1
              · have hjli : (j : Int) < (m1 : Int) := by omega
                have hj0 : (0 : Int) ≤ (j : Int) := by omega
                obtain ⟨x, hxk⟩ : ∃ x, hops1[j]? = some x := ⟨_, List.getElem?_eq_getElem (by rw [LH1.out]; exact hjl)⟩
                obtain ⟨y, hyk⟩ : ∃ y, hops2[j]? = some y := ⟨_, List.getElem?_eq_getElem (by rw [LH2.out]; exact hjl)⟩
                obtain ⟨b1, o1, vs1, rfl, _, _, hV1, hc1⟩ := RH1.out.at_ j x hxk
                obtain ⟨b2, o2, vs2, rfl, _, _, hV2, hc2⟩ := RH2.out.at_ j y hyk
                obtain ⟨C1, g1, h1, rfl, _, hR1⟩ := hV1
                obtain ⟨C2, g2, h2, rfl, _, hR2⟩ := hV2
                have k1 : wb.cell? ⟨b1, o1 + j, none⟩ = some (.slice C1 g1 h1) := by have := hc1 0 _ rfl; simpa [El.slice] using this
                have k2 : wb.cell? ⟨b2, o2 + j, none⟩ = some (.slice C2 g2 h2) := by have := hc2 0 _ rfl; simpa [El.slice] using this
                have HXK := Lib.hid hxk
                have HYK := Lib.hid hyk
                have HR1 := Lib.hid hR1
                have HR2 := Lib.hid hR2
                have LX := Lib.hid hR1.len
                have LY := Lib.hid hR2.len
                have hgm := hR1.max
                clear hc1 hc2 hxk hyk hR1 hR2
                by_cases hgg : g1 = g2
                · subst hgg
                  have hgq : ((g1 : Int) == (g1 : Int)) = true := beq_self_eq_true _
                  go_upto_region 11 with (fail)
                  go_quiet (fail)
                  go_upto_region 14 with (fail)
                  go_loopg [7] g1 (fun gg s7 wr => ∃ i qq : Nat, i ≤ g1 ∧ g1 - i ≤ gg ∧ s7 = .int .i64 (i : Int) ∧ Hid (x.take i = y.take i) ∧ wr = wb.drewN qq)
                  case atStart => exact ⟨0, _, by omega, by omega, rfl, Lib.hid (by simp), by first | rfl | exact World.drewN_drewN ..⟩
                  case round =>
                    obtain ⟨k, qk, hk, hgk, rfl, HK, rfl⟩ := hrel
                    by_cases hkl : k < g1
                    · have hkli : (k : Int) < (g1 : Int) := by omega
                      have hk0 : (0 : Int) ≤ (k : Int) := by omega
                      obtain ⟨u, huk⟩ : ∃ u, x[k]? = some u := ⟨_, List.getElem?_eq_getElem (by rw [LX.out]; exact hkl)⟩
                      obtain ⟨v, hvk⟩ : ∃ v, y[k]? = some v := ⟨_, List.getElem?_eq_getElem (by rw [LY.out]; exact hkl)⟩
                      obtain ⟨b3, o3, vs3, rfl, _, _, hV3, hc3⟩ := HR1.out.at_ k u huk
                      obtain ⟨b4, o4, vs4, rfl, _, _, hV4, hc4⟩ := HR2.out.at_ k v hvk
                      obtain ⟨rfl, _, _⟩ := ed_open hV3
                      obtain ⟨rfl, _, _⟩ := ed_open hV4
                      have t0 : wb.cell? ⟨b3, o3 + k * 2, none⟩ = some (.int .i64 u.1) := hc3 0 _ rfl
                      have t1 : wb.cell? ⟨b3, o3 + k * 2 + 1, none⟩ = some (.int .i64 u.2) := hc3 1 _ rfl
                      have l0 : wb.cell? ⟨b4, o4 + k * 2, none⟩ = some (.int .i64 v.1) := hc4 0 _ rfl
                      have l1 : wb.cell? ⟨b4, o4 + k * 2 + 1, none⟩ = some (.int .i64 v.2) := hc4 1 _ rfl
                      obtain ⟨u1, u2⟩ := u
                      obtain ⟨v1, v2⟩ := v
                      simp only at t0 t1 l0 l1
                      have HUK := Lib.hid huk
                      have HVK := Lib.hid hvk
                      clear hc3 hc4 huk hvk hV3 hV4
                      by_cases f1 : u1 = v1
                      · by_cases f2 : u2 = v2
                        · subst f1 f2
                          have f3 : (u1 == u1) = true := beq_self_eq_true _
                          have f4 : (u2 == u2) = true := beq_self_eq_true _
                          have HT := Lib.hid (take_eqS HK.out HUK.out HVK.out)
                          go_wp2_with fail
                          go_quiet (fail)
                          go_wp2_with fail
                          go_roundg (g1 - (k + 1))
                          case measure => omega
                          case rel => exact ⟨k + 1, _, by omega, by omega, by go_num, HT, rfl⟩
                        · have f3 : (u1 == v1) = true := beq_iff_eq.2 f1
                          have f4 : (u2 == v2) = false := beq_eq_false_iff_ne.2 f2
                          obtain rfl : r = false := by rw [← HR.out]; exact sameT_hops (take_neS HXK.out HYK.out (take_neS HUK.out HVK.out fun e => f2 (by injection e)))
                          clear f1 f2
                          go_wp2_with fail
                          go_quiet (fail)
                          go_wp2_with fail
                          go_ret
                          exact ⟨rfl, by first | exact belowDrewN HBB.out _ | exact belowDrewN (belowDrewN HBB.out _) _⟩
                      · have f3 : (u1 == v1) = false := beq_eq_false_iff_ne.2 f1
                        obtain rfl : r = false := by rw [← HR.out]; exact sameT_hops (take_neS HXK.out HYK.out (take_neS HUK.out HVK.out fun e => f1 (by injection e)))
                        clear f1
                        go_wp2_with fail
                        go_quiet (fail)
                        go_wp2_with fail
                        go_ret
                        exact ⟨rfl, by first | exact belowDrewN HBB.out _ | exact belowDrewN (belowDrewN HBB.out _) _⟩
                    · have hkli : ¬ ((k : Int) < (g1 : Int)) := by omega
                      obtain rfl : k = g1 := by omega
                      have HXY := take_allS HK.out LX.out LY.out
                      have HT := Lib.hid (take_eqS HN.out HXK.out (by rw [HXY]; exact HYK.out))
                      clear HXY
                      go_wp2_with fail
                      go_roundg (m1 - (j + 1))
                      case measure => omega
                      case rel => exact ⟨j + 1, _, by omega, by omega, by go_num, HT, rfl⟩
                · have hgq : ((g1 : Int) == (g2 : Int)) = false := beq_eq_false_iff_ne.2 (by omega)
                  obtain rfl : r = false := by rw [← HR.out]; exact sameT_hops (take_neS HXK.out HYK.out (len_neS LX.out LY.out hgg))
                  clear hgg
                  go_upto_region 11 with (fail)
                  go_quiet (fail)
                  go_wp2_with fail
                  go_ret
                  exact ⟨rfl, by first | exact belowDrewN HBB.out _ | exact belowDrewN (belowDrewN HBB.out _) _⟩
              · have hjli : ¬ ((j : Int) < (m1 : Int)) := by omega
                obtain rfl : j = m1 := by omega
                obtain rfl : r = true := by rw [← HR.out]; unfold sameT; rw [decide_eq_true HE.out, decide_eq_true HUP.out, decide_eq_true (take_allS HN.out LH1.out LH2.out)]; rfl
                go_wp2_with fail
                go_ret
                exact ⟨rfl, by first | exact belowDrewN HBB.out _ | exact belowDrewN (belowDrewN HBB.out _) _⟩
      · have hnq : ((m1 : Int) == (m2 : Int)) = false := beq_eq_false_iff_ne.2 (by omega)
        obtain rfl : r = false := by rw [← HR.out]; exact sameT_hops (len_neS LH1.out LH2.out hnh)
        clear hnh
        go_wp2_with fail
        go_ret
        exact ⟨rfl, HBB.out⟩
    · have hnq : ((n1 : Int) == (n2 : Int)) = false := beq_eq_false_iff_ne.2 (by omega)
      obtain rfl : r = false := by rw [← HR.out]; exact sameT_up (len_neS LU1.out LU2.out hnu)
      clear hnu
      go_wp2_with fail
      go_ret
      exact ⟨rfl, HBB.out⟩
  · have hei : (e1 == e2) = false := beq_eq_false_iff_ne.2 he
    have hei2 : (e1 != e2) = true := by simp [he]
    obtain rfl : r = false := by rw [← HR.out]; exact sameT_ep he
    clear he
    go_wp2_with fail
    go_ret
    exact ⟨rfl, HBB.out⟩
end Go.Proofs.YthgnjojkncodeaaGreat
