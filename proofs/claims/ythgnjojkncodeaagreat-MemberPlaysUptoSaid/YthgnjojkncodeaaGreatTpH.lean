/-
  topo.Config's walk.
-/
import Derived.Test.YthgnjojkncodeaaGreatTpF
namespace Go.Proofs.YthgnjojkncodeaaGreat
open Go.RowKit
set_option linter.unusedVariables false

theorem flowBad_sink {nodes : Int} {f : Flw} {i : Nat} (hi : i < f.2.2.2.length) (h : sinkBad nodes f.2.2.1 f.2.2.2 i = true) : flowBad nodes f = true := by
  have : (List.range f.2.2.2.length).any (sinkBad nodes f.2.2.1 f.2.2.2) = true := List.any_eq_true.2 ⟨i, List.mem_range.2 hi, h⟩
  unfold flowBad
  rw [this]
  simp
theorem flowBad_rest {nodes : Int} {f : Flw} (h : ∀ j, j < f.2.2.2.length → sinkBad nodes f.2.2.1 f.2.2.2 j = false) :
    flowBad nodes f = (!withinB f.1 1 255 || !withinB f.2.1 1 65535 || decide (f.1 * f.2.1 ≤ 4) || !nodeB nodes f.2.2.1 || !withinB (f.2.2.2.length : Int) 1 8) := by
  have : (List.range f.2.2.2.length).any (sinkBad nodes f.2.2.1 f.2.2.2) = false := by
    rw [List.any_eq_false]
    intro j hj
    rw [h j (List.mem_range.1 hj)]
    simp
  unfold flowBad
  rw [this, Bool.false_or]
set_option maxRecDepth 100000 in
set_option maxHeartbeats 4000000 in
theorem flow_gives (nodes : Int) (B : Nat) (w : World) (ok : Nat → Prop) (h1 : 1 ≤ nodes) (h2 : nodes ≤ 64) (hB : B < w.heap.size) (hc : w.cell? ⟨B, 0, none⟩ = some (.int .i64 nodes)) :
    GivesF 50 #[.pointer (some ⟨B, 0, none⟩)] (flowBad nodes) w ok := fun W x vs hb hV => by
  obtain ⟨A, n, c, rfl, hi1, hi2, hi3, hnc, hr⟩ := fl_open hV
  obtain ⟨x1, x2, x3, xs⟩ := x
  simp only at hi1 hi2 hi3 hr
  have hc' : W.cell? ⟨B, 0, none⟩ = some (.int .i64 nodes) := (hb.cell (p := ⟨B, 0, none⟩) hB).trans hc
  have hl := hr.len
  have hm : n ≤ 9223372036854775807 := hr.2.1
  obtain ⟨W1, hW1⟩ : ∃ W1, W.alloc (.cells #[.int .i64 x1, .int .i64 x2, .int .i64 x3, .slice A n c] 70) = W1 := ⟨_, rfl⟩
  have hb1 : Below W.heap.size W W1 := by rw [← hW1]; exact (Below.refl _ _).alloc (Nat.le_refl _) _
  have f0 : W1.cell? ⟨W.heap.size, 0, none⟩ = some (.int .i64 x1) := by rw [← hW1]; simp
  have f1 : W1.cell? ⟨W.heap.size, 1, none⟩ = some (.int .i64 x2) := by rw [← hW1]; simp
  have f2 : W1.cell? ⟨W.heap.size, 2, none⟩ = some (.int .i64 x3) := by rw [← hW1]; simp
  have f3 : W1.cell? ⟨W.heap.size, 3, none⟩ = some (.slice A n c) := by rw [← hW1]; simp
  have hr1 := hr.below hb1
  have hnode := fun m => node_calls nodes m B W1 h1 h2 (cellBelow hb1 hc')
  obtain ⟨rb, hrb⟩ : ∃ rb, flowBad nodes (x1, x2, x3, xs) = rb := ⟨_, rfl⟩
  have HL := Lib.hid hl
  have HRB := Lib.hid hrb
  have HW1 := Lib.hid hW1
  have HB1 := Lib.hid hb1
  have HND := Lib.hid hnode
  show Calls Tryz.prog 50 #[.agg #[.int .i64 x1, .int .i64 x2, .int .i64 x3, .slice A n c], .pointer (some ⟨B, 0, none⟩)] W _
  rw [hrb]
  clear hb hV hr hc hc' hl hrb hW1 hb1 hnode hB
  go_enter Tryz.func50, Tryz.ntmps50
  go_upto_region 1 with (fail)
  rw [HW1.out]
  go_wp2_with fail
  go_loopg [11] n (fun gg s11 wr => ∃ i : Nat, i ≤ n ∧ n - i ≤ gg ∧ s11 = .int .i64 (i : Int) ∧ Hid (∀ j, j < i → sinkBad nodes x3 xs j = false) ∧ wr = W1)
  case atStart => exact ⟨0, by omega, by omega, rfl, Lib.hid (fun j hj => by omega), rfl⟩
  case round =>
    obtain ⟨i, hi, hgi, rfl, HS, rfl⟩ := hrel
    by_cases hil : i < n
    · have hili : (i : Int) < (n : Int) := by omega
      have hi0 : (0 : Int) ≤ (i : Int) := by omega
      obtain ⟨b, o, rfl, hbl, hcy⟩ := hr1.at_ i hil
      obtain ⟨y, hy⟩ : ∃ y, xs[i]?.getD 0 = y := ⟨_, rfl⟩
      rw [hy] at hcy
      have hn := HND.out y
      obtain ⟨b1, hb1⟩ : ∃ b1, nodeB nodes y = b1 := ⟨_, rfl⟩
      rw [hb1] at hn
      have HY := Lib.hid hy
      have HN1 := Lib.hid hb1
      clear hy hb1
      cases b1 with
      | false =>
        have hbad : rb = true := by rw [← HRB.out]; exact flowBad_sink (i := i) (by show i < xs.length; rw [HL.out]; exact hil) (by unfold sinkBad; rw [HY.out, HN1.out]; rfl)
        subst hbad
        go_wp2_with (go_at_call 51; refine hn.mono ?_; rintro e w2 ⟨rfl, rfl⟩)
        go_ret
        exact ⟨rfl, HB1.out⟩
      | true =>
        cases hq : (y == x3) with
        | true =>
          have hbad : rb = true := by rw [← HRB.out]; exact flowBad_sink (i := i) (by show i < xs.length; rw [HL.out]; exact hil) (by unfold sinkBad; rw [HY.out, HN1.out]; show (!true || (y == x3) || _) = true; rw [hq]; rfl)
          subst hbad
          go_wp2_with (go_at_call 51; refine hn.mono ?_; rintro e w2 ⟨rfl, rfl⟩)
          go_ret
          exact ⟨rfl, HB1.out⟩
        | false =>
          have HQ := Lib.hid hq
          rcases Nat.eq_zero_or_pos i with hiz | hip
          · have hig : decide ((i : Int) > 0) = false := decide_eq_false (by omega)
            have hig2 : decide (0 < i) = false := decide_eq_false (by omega)
            have hig3 : ¬ (0 < i) := by omega
            have HS2 : Hid (∀ j, j < i + 1 → sinkBad nodes x3 xs j = false) := Lib.hid (fun j hj => by
              obtain rfl : j = i := by omega
              unfold sinkBad
              rw [HY.out, HN1.out, hiz]
              show (!true || (y == x3) || (decide (0 < 0) && _)) = false
              rw [HQ.out]; rfl)
            clear hiz
            go_wp2_with (go_at_call 51; refine hn.mono ?_; rintro e w2 ⟨rfl, rfl⟩)
            go_roundg (n - (i + 1))
            case measure => omega
            case rel => exact ⟨i + 1, by omega, by omega, by go_num, HS2, rfl⟩
          · obtain ⟨j, hj⟩ : ∃ j, i = j + 1 := ⟨i - 1, by omega⟩
            have hij : (i : Int) - 1 = (j : Int) := by omega
            have hiw : IntKind.i64.wrap ((i : Int) - 1) = (j : Int) := by rw [hij]; exact IntWalk.i64_in _ ⟨by omega, by omega⟩
            have hig : decide ((i : Int) > 0) = true := decide_eq_true (by omega)
            have hj0 : (0 : Int) ≤ (j : Int) := by omega
            have hjl : (j : Int) < (n : Int) := by omega
            obtain ⟨b2, o2, e2, _, hcp⟩ := hr1.at_ j (by omega)
            injection e2 with e2
            injection e2 with e3 e4
            subst e3 e4
            obtain ⟨p, hp⟩ : ∃ p, xs[j]?.getD 0 = p := ⟨_, rfl⟩
            rw [hp] at hcp
            have hsb : sinkBad nodes x3 xs i = decide (p ≥ y) := by
              unfold sinkBad
              rw [HY.out, HN1.out, HQ.out, hj, Nat.add_sub_cancel, hp]
              simp
            have HSB := Lib.hid hsb
            have HJ := Lib.hid hj
            clear hp hj hsb
            by_cases hpy : p ≥ y
            · have hge : decide (p ≥ y) = true := decide_eq_true hpy
              have hbad : rb = true := by rw [← HRB.out]; exact flowBad_sink (i := i) (by show i < xs.length; rw [HL.out]; exact hil) (HSB.out.trans hge)
              subst hbad
              clear hpy
              go_wp2_with (go_at_call 51; refine hn.mono ?_; rintro e w2 ⟨rfl, rfl⟩)
              go_ret
              exact ⟨rfl, HB1.out⟩
            · have hge : decide (p ≥ y) = false := decide_eq_false hpy
              have HS2 : Hid (∀ q, q < i + 1 → sinkBad nodes x3 xs q = false) := Lib.hid (fun q hq => by
                rcases Nat.lt_or_ge q i with h' | h'
                · exact HS.out q h'
                · obtain rfl : q = i := by omega
                  exact HSB.out.trans hge)
              clear hpy
              go_wp2_with (go_at_call 51; refine hn.mono ?_; rintro e w2 ⟨rfl, rfl⟩)
              go_roundg (n - (i + 1))
              case measure => omega
              case rel => exact ⟨i + 1, by omega, by omega, by go_num, HS2, rfl⟩
    · have hili : ¬ ((i : Int) < (n : Int)) := by omega
      have hfb := flowBad_rest (nodes := nodes) (f := (x1, x2, x3, xs)) (fun j hj => HS.out j (by have : xs.length = n := HL.out; have hj' : j < xs.length := hj; omega))
      rw [HRB.out] at hfb
      simp only at hfb
      rw [HL.out] at hfb
      have HFB := Lib.hid hfb
      have hn := HND.out x3
      obtain ⟨b1, hb1⟩ : ∃ b1, withinB x1 1 255 = b1 := ⟨_, rfl⟩
      obtain ⟨b2, hb2⟩ : ∃ b2, withinB x2 1 65535 = b2 := ⟨_, rfl⟩
      obtain ⟨b4, hb4⟩ : ∃ b4, nodeB nodes x3 = b4 := ⟨_, rfl⟩
      obtain ⟨b5, hb5⟩ : ∃ b5, withinB (n : Int) 1 8 = b5 := ⟨_, rfl⟩
      obtain ⟨mm, hmm⟩ : ∃ mm, x1 * x2 = mm := ⟨_, rfl⟩
      have hA1 := within_any x1 1 255 wr
      have hA2 := within_any x2 1 65535 wr
      have hA3 := within_any (n : Int) 1 8 wr
      rw [hb4] at hn
      rw [hb1] at hA1
      rw [hb2] at hA2
      rw [hb5] at hA3
      rw [hb1, hb2, hb4, hb5, hmm] at hfb
      have HFB := Lib.hid hfb
      have HMM := Lib.hid hmm
      have H1 := Lib.hid hb1
      have H2 := Lib.hid hb2
      clear hfb hb1 hb2 hb4 hb5 hmm HND
      cases b1 with
      | false =>
        obtain rfl : rb = true := by rw [HFB.out]; rfl
        go_wp2_with (first | (go_at_call 52; (with_reducible refine hA1.mono ?_); rintro e w2 ⟨rfl, rfl⟩) | (go_at_call 52; (with_reducible refine hA2.mono ?_); rintro e w2 ⟨rfl, rfl⟩) | (go_at_call 52; (with_reducible refine hA3.mono ?_); rintro e w2 ⟨rfl, rfl⟩) | (go_at_call 51; (with_reducible refine hn.mono ?_); rintro e w2 ⟨rfl, rfl⟩))
        go_ret
        exact ⟨rfl, HB1.out⟩
      | true =>
        cases b2 with
        | false =>
          obtain rfl : rb = true := by rw [HFB.out]; rfl
          go_wp2_with (first | (go_at_call 52; (with_reducible refine hA1.mono ?_); rintro e w2 ⟨rfl, rfl⟩) | (go_at_call 52; (with_reducible refine hA2.mono ?_); rintro e w2 ⟨rfl, rfl⟩) | (go_at_call 52; (with_reducible refine hA3.mono ?_); rintro e w2 ⟨rfl, rfl⟩) | (go_at_call 51; (with_reducible refine hn.mono ?_); rintro e w2 ⟨rfl, rfl⟩))
          go_ret
          exact ⟨rfl, HB1.out⟩
        | true =>
          have hG := withinB_iff.1 H1.out
          have hS := withinB_iff.1 H2.out
          have hp1 : 0 ≤ x1 * x2 := Int.mul_nonneg (by omega) (by omega)
          have hp2 : x1 * x2 ≤ 255 * 65535 := Int.mul_le_mul hG.2 hS.2 (by omega) (by omega)
          rw [HMM.out] at hp1 hp2
          have hmw : IntKind.i64.wrap (x1 * x2) = mm := by rw [HMM.out]; exact IntWalk.i64_in _ ⟨by omega, by omega⟩
          have hm2 := HMM.out
          by_cases hle : mm ≤ 4
          · have hd : decide (mm ≤ 4) = true := decide_eq_true hle
            obtain rfl : rb = true := by rw [HFB.out, hd]; rfl
            clear hG hS
            go_wp2_with (first | (go_at_call 52; (with_reducible refine hA1.mono ?_); rintro e w2 ⟨rfl, rfl⟩) | (go_at_call 52; (with_reducible refine hA2.mono ?_); rintro e w2 ⟨rfl, rfl⟩) | (go_at_call 52; (with_reducible refine hA3.mono ?_); rintro e w2 ⟨rfl, rfl⟩) | (go_at_call 51; (with_reducible refine hn.mono ?_); rintro e w2 ⟨rfl, rfl⟩))
            go_ret
            exact ⟨rfl, HB1.out⟩
          · have hd : decide (mm ≤ 4) = false := decide_eq_false hle
            clear hG hS hle
            cases b4 with
            | false =>
              obtain rfl : rb = true := by rw [HFB.out, hd]; rfl
              go_wp2_with (first | (go_at_call 52; (with_reducible refine hA1.mono ?_); rintro e w2 ⟨rfl, rfl⟩) | (go_at_call 52; (with_reducible refine hA2.mono ?_); rintro e w2 ⟨rfl, rfl⟩) | (go_at_call 52; (with_reducible refine hA3.mono ?_); rintro e w2 ⟨rfl, rfl⟩) | (go_at_call 51; (with_reducible refine hn.mono ?_); rintro e w2 ⟨rfl, rfl⟩))
              go_ret
              exact ⟨rfl, HB1.out⟩
            | true =>
              cases b5 with
              | false =>
                obtain rfl : rb = true := by rw [HFB.out, hd]; rfl
                go_wp2_with (first | (go_at_call 52; (with_reducible refine hA1.mono ?_); rintro e w2 ⟨rfl, rfl⟩) | (go_at_call 52; (with_reducible refine hA2.mono ?_); rintro e w2 ⟨rfl, rfl⟩) | (go_at_call 52; (with_reducible refine hA3.mono ?_); rintro e w2 ⟨rfl, rfl⟩) | (go_at_call 51; (with_reducible refine hn.mono ?_); rintro e w2 ⟨rfl, rfl⟩))
                go_ret
                exact ⟨rfl, HB1.out⟩
              | true =>
                obtain rfl : rb = false := by rw [HFB.out, hd]; rfl
                go_wp2_with (first | (go_at_call 52; (with_reducible refine hA1.mono ?_); rintro e w2 ⟨rfl, rfl⟩) | (go_at_call 52; (with_reducible refine hA2.mono ?_); rintro e w2 ⟨rfl, rfl⟩) | (go_at_call 52; (with_reducible refine hA3.mono ?_); rintro e w2 ⟨rfl, rfl⟩) | (go_at_call 51; (with_reducible refine hn.mono ?_); rintro e w2 ⟨rfl, rfl⟩))
                go_ret
                exact ⟨rfl, HB1.out⟩
set_option maxRecDepth 100000 in
set_option maxHeartbeats 4000000 in
theorem config_calls (w : World) (v : Value) (nodes : Int) (flows : List Flw) (win que : Int) (h : ConfV w (fun k => k < w.heap.size) v nodes flows win que) :
    Calls Tryz.prog 29 #[v] w fun e w' => e = .returned (.bool (configOk nodes flows win que)) ∧ Below w.heap.size w w' := by
  obtain ⟨A, n, c, rfl, hnc, hi1, hi2, hi3, hr⟩ := h
  have hl := hr.len
  have hm := hr.max
  obtain ⟨w1, hw1⟩ : ∃ w1, w.alloc (.cells #[.int .i64 nodes, .slice A n c, .int .i64 win, .int .i64 que] 24) = w1 := ⟨_, rfl⟩
  have b1 : Below w.heap.size w w1 := by rw [← hw1]; exact (Below.refl _ _).alloc (Nat.le_refl _) _
  have c0 : w1.cell? ⟨w.heap.size, 0, none⟩ = some (.int .i64 nodes) := by rw [← hw1]; simp
  have c1 : w1.cell? ⟨w.heap.size, 1, none⟩ = some (.slice A n c) := by rw [← hw1]; simp
  have c2 : w1.cell? ⟨w.heap.size, 2, none⟩ = some (.int .i64 win) := by rw [← hw1]; simp
  have c3 : w1.cell? ⟨w.heap.size, 3, none⟩ = some (.int .i64 que) := by rw [← hw1]; simp
  have hlt : w.heap.size < w1.heap.size := by rw [← hw1]; simp
  obtain ⟨rb, hrb⟩ : ∃ rb, configOk nodes flows win que = rb := ⟨_, rfl⟩
  have eg : ∀ args w, (callFunc 50 args).run Tryz.prog w = .ok (.enter 50 args) w := enters_of Tryz.func50 (by kernel_rfl) rfl
  have hcf : 1 ≤ nodes → nodes ≤ 64 → Calls Tryz.prog 53 #[.slice A n c, .func (.func 50) #[] #[.pointer (some ⟨w.heap.size, 0, none⟩)]] w1 fun e w' => e = .returned (.bool (flows.any (flowBad nodes))) ∧ Below w1.heap.size w1 w' := fun h1 h2 =>
    cfuncF_calls w1 _ A n c flows (hr.below b1) 50 _ (flowBad nodes) eg (flow_gives nodes w.heap.size w1 _ h1 h2 hlt c0)
  obtain ⟨b1', hb1⟩ : ∃ b, withinB nodes 1 64 = b := ⟨_, rfl⟩
  obtain ⟨b2', hb2⟩ : ∃ b, withinB (n : Int) 1 4 = b := ⟨_, rfl⟩
  obtain ⟨b3', hb3⟩ : ∃ b, withinB win 1 16 = b := ⟨_, rfl⟩
  obtain ⟨b4', hb4⟩ : ∃ b, withinB que 1 64 = b := ⟨_, rfl⟩
  obtain ⟨b5', hb5⟩ : ∃ b, flows.any (flowBad nodes) = b := ⟨_, rfl⟩
  have hA1 := within_any nodes 1 64 w1
  have hA2 := within_any (n : Int) 1 4 w1
  have hA3 := within_any win 1 16 w1
  have hA4 := within_any que 1 64 w1
  have hrb2 := hrb
  unfold configOk at hrb2
  rw [hl, hb1, hb2, hb3, hb4, hb5] at hrb2
  rw [hb1] at hA1
  rw [hb2] at hA2
  rw [hb3] at hA3
  rw [hb4] at hA4
  rw [hb5] at hcf
  rw [hrb]
  have HRB := Lib.hid hrb2
  have HW1 := Lib.hid hw1
  have HB1 := Lib.hid b1
  have HCF := Lib.hid hcf
  have H1 := Lib.hid hb1
  clear hrb hrb2 hw1 b1 hcf hb1 hb2 hb3 hb4 hb5 hr hl eg hlt
  cases b1' with
  | false =>
    obtain rfl : rb = false := by rw [← HRB.out]; rfl
    go_enter Tryz.func29, Tryz.ntmps29
    go_upto_region 1 with (fail)
    rw [HW1.out]
    go_wp2_with (first | (go_at_call 52; (with_reducible refine hA1.mono ?_); rintro e w2 ⟨rfl, rfl⟩) | (go_at_call 52; (with_reducible refine hA2.mono ?_); rintro e w2 ⟨rfl, rfl⟩) | (go_at_call 52; (with_reducible refine hA3.mono ?_); rintro e w2 ⟨rfl, rfl⟩) | (go_at_call 52; (with_reducible refine hA4.mono ?_); rintro e w2 ⟨rfl, rfl⟩))
    go_ret
    exact ⟨rfl, HB1.out⟩
  | true =>
    have hnn := withinB_iff.1 H1.out
    have hcf := HCF.out hnn.1 hnn.2
    clear hnn
    cases b2' with
    | false =>
      obtain rfl : rb = false := by rw [← HRB.out]; rfl
      go_enter Tryz.func29, Tryz.ntmps29
      go_upto_region 1 with (fail)
      rw [HW1.out]
      go_wp2_with (first | (go_at_call 52; (with_reducible refine hA1.mono ?_); rintro e w2 ⟨rfl, rfl⟩) | (go_at_call 52; (with_reducible refine hA2.mono ?_); rintro e w2 ⟨rfl, rfl⟩) | (go_at_call 52; (with_reducible refine hA3.mono ?_); rintro e w2 ⟨rfl, rfl⟩) | (go_at_call 52; (with_reducible refine hA4.mono ?_); rintro e w2 ⟨rfl, rfl⟩))
      go_ret
      exact ⟨rfl, HB1.out⟩
    | true =>
      cases b3' with
      | false =>
        obtain rfl : rb = false := by rw [← HRB.out]; rfl
        go_enter Tryz.func29, Tryz.ntmps29
        go_upto_region 1 with (fail)
        rw [HW1.out]
        go_wp2_with (first | (go_at_call 52; (with_reducible refine hA1.mono ?_); rintro e w2 ⟨rfl, rfl⟩) | (go_at_call 52; (with_reducible refine hA2.mono ?_); rintro e w2 ⟨rfl, rfl⟩) | (go_at_call 52; (with_reducible refine hA3.mono ?_); rintro e w2 ⟨rfl, rfl⟩) | (go_at_call 52; (with_reducible refine hA4.mono ?_); rintro e w2 ⟨rfl, rfl⟩))
        go_ret
        exact ⟨rfl, HB1.out⟩
      | true =>
        cases b4' with
        | false =>
          obtain rfl : rb = false := by rw [← HRB.out]; rfl
          go_enter Tryz.func29, Tryz.ntmps29
          go_upto_region 1 with (fail)
          rw [HW1.out]
          go_wp2_with (first | (go_at_call 52; (with_reducible refine hA1.mono ?_); rintro e w2 ⟨rfl, rfl⟩) | (go_at_call 52; (with_reducible refine hA2.mono ?_); rintro e w2 ⟨rfl, rfl⟩) | (go_at_call 52; (with_reducible refine hA3.mono ?_); rintro e w2 ⟨rfl, rfl⟩) | (go_at_call 52; (with_reducible refine hA4.mono ?_); rintro e w2 ⟨rfl, rfl⟩))
          go_ret
          exact ⟨rfl, HB1.out⟩
        | true =>
          obtain rfl : rb = !b5' := by rw [← HRB.out]; rfl
          go_enter Tryz.func29, Tryz.ntmps29
          go_upto_region 1 with (fail)
          rw [HW1.out]
          go_wp2_with (first | (go_at_call 53; (with_reducible refine hcf.mono ?_); rintro e w3 ⟨rfl, hb3⟩) | (first | (go_at_call 52; (with_reducible refine hA1.mono ?_); rintro e w2 ⟨rfl, rfl⟩) | (go_at_call 52; (with_reducible refine hA2.mono ?_); rintro e w2 ⟨rfl, rfl⟩) | (go_at_call 52; (with_reducible refine hA3.mono ?_); rintro e w2 ⟨rfl, rfl⟩) | (go_at_call 52; (with_reducible refine hA4.mono ?_); rintro e w2 ⟨rfl, rfl⟩)))
          go_ret
          exact ⟨rfl, belowThen HB1.out HB1.out.size hb3⟩
end Go.Proofs.YthgnjojkncodeaaGreat
