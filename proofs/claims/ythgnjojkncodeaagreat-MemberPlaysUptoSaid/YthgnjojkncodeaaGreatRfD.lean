/-
  The document's configurations: Config. Printed by gen_rconf.py.
-/
import Derived.Test.YthgnjojkncodeaaGreatRfC
import Derived.Test.YthgnjojkncodeaaGreatTpF
import Derived.Deep.CutBlock
import Derived.Deep.QuietTactic
import Derived.BigQuiet
namespace Go.Proofs.YthgnjojkncodeaaGreat
open Go.RowKit
set_option linter.unusedVariables false
set_option linter.unusedSimpArgs false

theorem conf_bad {nodes : Int} {flows : List Flw} {win que : Int} (h : ¬ (1 ≤ nodes ∧ nodes ≤ 64 ∧ 1 ≤ (flows.length : Int) ∧ (flows.length : Int) ≤ 4 ∧ 1 ≤ win ∧ win ≤ 16 ∧ 1 ≤ que ∧ que ≤ 64)) : configOk nodes flows win que = false := by
  rw [Bool.eq_false_iff]
  intro hh
  unfold configOk at hh
  simp only [Bool.and_eq_true, withinB_iff] at hh
  exact h ⟨hh.1.1.1.1.1, hh.1.1.1.1.2, hh.1.1.1.2.1, hh.1.1.1.2.2, hh.1.1.2.1, hh.1.1.2.2, hh.1.2.1, hh.1.2.2⟩
theorem conf_badF {nodes : Int} {flows : List Flw} {win que : Int} {i : Nat} {f : Flw} (hf : flows[i]? = some f) (h : flowBad nodes f = true) : configOk nodes flows win que = false := by
  rw [Bool.eq_false_iff]
  intro hh
  unfold configOk at hh
  simp only [Bool.and_eq_true, Bool.not_eq_true'] at hh
  have := List.any_eq_false.1 hh.2 f (List.mem_of_getElem? hf)
  exact this h
theorem conf_good {nodes : Int} {flows : List Flw} {win que : Int} (h : 1 ≤ nodes ∧ nodes ≤ 64 ∧ 1 ≤ (flows.length : Int) ∧ (flows.length : Int) ≤ 4 ∧ 1 ≤ win ∧ win ≤ 16 ∧ 1 ≤ que ∧ que ≤ 64) (hf : ∀ (i : Nat) (f : Flw), flows[i]? = some f → flowBad nodes f = false) : configOk nodes flows win que = true := by
  obtain ⟨h1, h2, h3, h4, h5, h6, h7, h8⟩ := h
  unfold configOk
  rw [withinB_iff.2 ⟨h1, h2⟩, withinB_iff.2 ⟨h3, h4⟩, withinB_iff.2 ⟨h5, h6⟩, withinB_iff.2 ⟨h7, h8⟩]
  have : flows.any (flowBad nodes) = false := List.any_eq_false.2 fun f hm => by
    obtain ⟨i, hi⟩ := List.mem_iff_getElem?.1 hm
    rw [hf i f hi]
    simp
  rw [this]
  rfl
theorem flow_bad {nodes g s src : Int} {sinks : List Int} (h : ¬ (1 ≤ g ∧ g ≤ 255 ∧ 1 ≤ s ∧ s ≤ 65535 ∧ 5 ≤ g * s ∧ 0 ≤ src ∧ src < nodes ∧ 1 ≤ (sinks.length : Int) ∧ (sinks.length : Int) ≤ 8)) : flowBad nodes (g, s, src, sinks) = true := by
  rw [← Bool.not_eq_false]
  intro hh
  unfold flowBad nodeB at hh
  simp only [Bool.or_eq_false_iff, Bool.not_eq_false', withinB_iff, decide_eq_false_iff_not] at hh
  obtain ⟨⟨⟨⟨⟨_, h1⟩, h2⟩, h3⟩, h4⟩, h5⟩ := hh
  exact h ⟨h1.1, h1.2, h2.1, h2.2, by omega, h4.1, by omega, h5.1, h5.2⟩
theorem flow_badS {nodes g s src : Int} {sinks : List Int} {k : Nat} (hk : k < sinks.length) (h : sinkBad nodes src sinks k = true) : flowBad nodes (g, s, src, sinks) = true := by
  unfold flowBad
  have : (List.range sinks.length).any (sinkBad nodes src sinks) = true := List.any_eq_true.2 ⟨k, List.mem_range.2 hk, h⟩
  simp only [this, Bool.true_or]
theorem flow_good {nodes g s src : Int} {sinks : List Int} (h : 1 ≤ g ∧ g ≤ 255 ∧ 1 ≤ s ∧ s ≤ 65535 ∧ 5 ≤ g * s ∧ 0 ≤ src ∧ src < nodes ∧ 1 ≤ (sinks.length : Int) ∧ (sinks.length : Int) ≤ 8) (hs : ∀ k, k < sinks.length → sinkBad nodes src sinks k = false) : flowBad nodes (g, s, src, sinks) = false := by
  obtain ⟨h1, h2, h3, h4, h5, h6, h7, h8, h9⟩ := h
  unfold flowBad nodeB
  have h0 : (List.range sinks.length).any (sinkBad nodes src sinks) = false := List.any_eq_false.2 fun k hk => by rw [hs k (List.mem_range.1 hk)]; simp
  simp only [h0, Bool.or_eq_false_iff, Bool.not_eq_false', withinB_iff, decide_eq_false_iff_not]
  exact ⟨⟨⟨⟨⟨trivial, h1, h2⟩, h3, h4⟩, by omega⟩, h6, by omega⟩, h8, h9⟩
/-- The sinks before the k-th are good; the last of them. -/
def SkI (nodes src : Int) (sinks : List Int) (k : Nat) (last : Int) : Prop := (∀ j, j < k → sinkBad nodes src sinks j = false) ∧ -1 ≤ last ∧ (k = 0 → last = -1) ∧ (0 < k → sinks[k - 1]? = some last)
theorem SkI.bad {nodes src : Int} {sinks : List Int} {k : Nat} {last s : Int} (h : SkI nodes src sinks k last) (hs : sinks[k]? = some s) (hb : s ≤ last ∨ s ≥ nodes ∨ s = src) : sinkBad nodes src sinks k = true := by
  unfold sinkBad nodeB
  rw [hs]
  simp only [Option.getD_some, Bool.or_eq_true, Bool.not_eq_true', Bool.and_eq_true, decide_eq_true_eq, beq_iff_eq]
  rcases hb with hb | hb | hb
  · rcases Nat.eq_zero_or_pos k with h0 | h0
    · have := h.2.2.1 h0
      refine .inl (.inl ?_)
      unfold withinB
      rw [decide_eq_false (by omega : ¬ 0 ≤ s)]
      rfl
    · have := h.2.2.2 h0
      refine .inr ⟨h0, ?_⟩
      rw [this]
      exact hb
  · refine .inl (.inl ?_)
    unfold withinB
    rw [decide_eq_false (by omega : ¬ s ≤ nodes - 1)]
    simp
  · exact .inl (.inr hb)
theorem SkI.step {nodes src : Int} {sinks : List Int} {k : Nat} {last s : Int} (h : SkI nodes src sinks k last) (hs : sinks[k]? = some s) (h1 : ¬ s ≤ last) (h2 : ¬ s ≥ nodes) (h3 : ¬ s = src) : SkI nodes src sinks (k + 1) s := by
  obtain ⟨g1, g2, g3, g4⟩ := h
  refine ⟨fun j hj => ?_, by omega, fun e => by omega, fun _ => by rw [Nat.add_sub_cancel]; exact hs⟩
  by_cases hjk : j = k
  · subst hjk
    unfold sinkBad nodeB
    rw [hs]
    simp only [Option.getD_some, Bool.or_eq_false_iff, Bool.not_eq_false', withinB_iff, beq_eq_false_iff_ne]
    refine ⟨⟨⟨by omega, by omega⟩, h3⟩, ?_⟩
    rcases Nat.eq_zero_or_pos j with h0 | h0
    · rw [decide_eq_false (by omega : ¬ 0 < j)]; rfl
    · rw [g4 h0, Option.getD_some, decide_eq_false (by omega : ¬ last ≥ s), Bool.and_false]
  · exact g1 j (by omega)
set_option maxRecDepth 20000 in
set_option maxHeartbeats 4000000 in
theorem rconfig_calls (w : World) (ok : Nat → Prop) (vc : Value) (nodes : Int) (flows : List Flw) (win que : Int) (h : ConfV w ok vc nodes flows win que) :
    Calls Tryz.prog 32 #[vc] w fun e w' => e = .returned (.bool (configOk nodes flows win que)) ∧ Below w.heap.size w w' := by
  obtain ⟨A, n, c, rfl, hnc, hi1, hi2, hi3, hrd⟩ := h
  obtain ⟨r, hr⟩ : ∃ r, configOk nodes flows win que = r := ⟨_, rfl⟩
  rw [hr]
  have HR := Lib.hid hr
  have HL := Lib.hid hrd.len
  obtain ⟨w1, hw1⟩ : ∃ w1, w.alloc (.cells #[.int .i64 nodes, .slice A n c, .int .i64 win, .int .i64 que] 24) = w1 := ⟨_, rfl⟩
  have b1 : Below w.heap.size w w1 := by rw [← hw1]; exact (Below.refl _ _).alloc (Nat.le_refl _) _
  have e1 : w1.heap[w.heap.size]? = some (.cells #[.int .i64 nodes, .slice A n c, .int .i64 win, .int .i64 que] 24 (0, 0)) := by rw [← hw1]; exact heap_alloc_new w _
  obtain ⟨P, hP⟩ : ∃ P, w.heap.size = P := ⟨_, rfl⟩
  have HB1 := Lib.hid b1
  have HW1 := Lib.hid hw1
  have HRD : Hid (∀ W, Below w.heap.size w W → Rd elFl W ok A n flows) := Lib.hid fun W hb => hrd.below hb
  rw [hP] at e1
  have c0 : w1.cell? ⟨P, 0, none⟩ = some (.int .i64 nodes) := by simp [World.cell?, e1]
  have c1 : w1.cell? ⟨P, 1, none⟩ = some (.slice A n c) := by simp [World.cell?, e1]
  have c2 : w1.cell? ⟨P, 2, none⟩ = some (.int .i64 win) := by simp [World.cell?, e1]
  have c3 : w1.cell? ⟨P, 3, none⟩ = some (.int .i64 que) := by simp [World.cell?, e1]
  have HP := Lib.hid hP
  have hE1 := Lib.hid e1
  clear hr hw1 b1 e1 hrd hP
  go_enter Tryz.func32, Tryz.ntmps32
  go_upto_region 1 with (fail)
  rw [HW1.out]
  try rw [HP.out]
  by_cases n1 : nodes < 1
  · have dn1 : decide (nodes < 1) = true := decide_eq_true (by omega)
    obtain rfl : r = false := by rw [← HR.out]; exact conf_bad (by rw [HL.out]; omega)
    go_wp2_with fail
    go_ret
    exact ⟨rfl, HB1.out⟩
  · have dn1 : decide (nodes < 1) = false := decide_eq_false (by omega)
    by_cases n2 : nodes > 64
    · have dn2 : decide (nodes > 64) = true := decide_eq_true (by omega)
      obtain rfl : r = false := by rw [← HR.out]; exact conf_bad (by rw [HL.out]; omega)
      go_wp2_with fail
      go_ret
      exact ⟨rfl, HB1.out⟩
    · have dn2 : decide (nodes > 64) = false := decide_eq_false (by omega)
      by_cases n3 : (n : Int) < 1
      · have dn3 : decide ((n : Int) < 1) = true := decide_eq_true (by omega)
        obtain rfl : r = false := by rw [← HR.out]; exact conf_bad (by rw [HL.out]; omega)
        go_wp2_with fail
        go_ret
        exact ⟨rfl, HB1.out⟩
      · have dn3 : decide ((n : Int) < 1) = false := decide_eq_false (by omega)
        by_cases n4 : (n : Int) > 4
        · have dn4 : decide ((n : Int) > 4) = true := decide_eq_true (by omega)
          obtain rfl : r = false := by rw [← HR.out]; exact conf_bad (by rw [HL.out]; omega)
          go_wp2_with fail
          go_ret
          exact ⟨rfl, HB1.out⟩
        · have dn4 : decide ((n : Int) > 4) = false := decide_eq_false (by omega)
          by_cases n5 : win < 1
          · have dn5 : decide (win < 1) = true := decide_eq_true (by omega)
            obtain rfl : r = false := by rw [← HR.out]; exact conf_bad (by rw [HL.out]; omega)
            go_wp2_with fail
            go_ret
            exact ⟨rfl, HB1.out⟩
          · have dn5 : decide (win < 1) = false := decide_eq_false (by omega)
            by_cases n6 : win > 16
            · have dn6 : decide (win > 16) = true := decide_eq_true (by omega)
              obtain rfl : r = false := by rw [← HR.out]; exact conf_bad (by rw [HL.out]; omega)
              go_wp2_with fail
              go_ret
              exact ⟨rfl, HB1.out⟩
            · have dn6 : decide (win > 16) = false := decide_eq_false (by omega)
              by_cases n7 : que < 1
              · have dn7 : decide (que < 1) = true := decide_eq_true (by omega)
                obtain rfl : r = false := by rw [← HR.out]; exact conf_bad (by rw [HL.out]; omega)
                go_wp2_with fail
                go_ret
                exact ⟨rfl, HB1.out⟩
              · have dn7 : decide (que < 1) = false := decide_eq_false (by omega)
                by_cases n8 : que > 64
                · have dn8 : decide (que > 64) = true := decide_eq_true (by omega)
                  obtain rfl : r = false := by rw [← HR.out]; exact conf_bad (by rw [HL.out]; omega)
                  go_wp2_with fail
                  go_ret
                  exact ⟨rfl, HB1.out⟩
                · have dn8 : decide (que > 64) = false := decide_eq_false (by omega)
                  have HG1 : Hid (1 ≤ nodes ∧ nodes ≤ 64 ∧ 1 ≤ (n : Int) ∧ (n : Int) ≤ 4 ∧ 1 ≤ win ∧ win ≤ 16 ∧ 1 ≤ que ∧ que ≤ 64) := Lib.hid (by omega)
                  have hn4 : n ≤ 4 := by omega
                  go_upto_region 4 with (fail)
                  clear dn1 dn2 dn3 dn4 dn5 dn6 dn7 dn8 n1 n2 n3 n4 n5 n6 n7 n8 c0 c1 c2 c3
                  go_loopg [3] n (fun gg s3 wr => ∃ i : Nat, i ≤ n ∧ n - i ≤ gg ∧ s3 = .int .i64 (i : Int) ∧ Hid (∀ (j : Nat) (f : Flw), j < i → flows[j]? = some f → flowBad nodes f = false) ∧ Hid (Below w1.heap.size w1 wr))
                  case atStart => exact ⟨0, by omega, by omega, rfl, Lib.hid fun j f hj => absurd hj (by omega), Lib.hid (Below.refl _ _)⟩
                  case round =>
                    obtain ⟨i, hi, hgi, rfl, HI, HB0⟩ := hrel
                    have HB := Lib.hid (belowThen HB1.out HB1.out.size HB0.out)
                    have HBx : Hid (wr.heap[P]? = some (.cells #[.int .i64 nodes, .slice A n c, .int .i64 win, .int .i64 que] 24 (0, 0))) := Lib.hid ((HB0.out.block P (Array.getElem?_eq_some_iff.1 hE1.out).1).trans hE1.out)
                    have hbx := HBx.out
                    have c0 : wr.cell? ⟨P, 0, none⟩ = some (.int .i64 nodes) := by simp [World.cell?, hbx]
                    have c1 : wr.cell? ⟨P, 1, none⟩ = some (.slice A n c) := by simp [World.cell?, hbx]
                    clear hbx
                    by_cases hil : i < n
                    · have hili : (i : Int) < (n : Int) := by omega
                      have hi0 : (0 : Int) ≤ (i : Int) := by omega
                      obtain ⟨f, hf⟩ : ∃ f, flows[i]? = some f := ⟨_, List.getElem?_eq_getElem (by rw [HL.out]; exact hil)⟩
                      obtain ⟨b4, o4, vs, rfl, hb41, hb42, hV, hcl⟩ := (HRD.out wr HB.out).at_ i f hf
                      obtain ⟨AS, ns, cs, rfl, i1, i2, i3, hcs, hrS⟩ := fl_open hV
                      have e0 : wr.cell? ⟨b4, o4 + i * 4, none⟩ = some (.int .i64 f.1) := hcl 0 _ rfl
                      have e1 : wr.cell? ⟨b4, o4 + i * 4 + 1, none⟩ = some (.int .i64 f.2.1) := hcl 1 _ rfl
                      have e2 : wr.cell? ⟨b4, o4 + i * 4 + 2, none⟩ = some (.int .i64 f.2.2.1) := hcl 2 _ rfl
                      have e3 : wr.cell? ⟨b4, o4 + i * 4 + 3, none⟩ = some (.slice AS ns cs) := hcl 3 _ rfl
                      obtain ⟨g, s, src, sinks⟩ := f
                      simp only at e0 e1 e2 e3 i1 i2 i3 hrS
                      have HFI := Lib.hid hf
                      have HSL := Lib.hid hrS.len
                      obtain ⟨w4, hw4⟩ : ∃ w4, wr.alloc (.cells #[.int .i64 g, .int .i64 s, .int .i64 src, .slice AS ns cs] 70) = w4 := ⟨_, rfl⟩
                      have b4' : Below wr.heap.size wr w4 := by rw [← hw4]; exact (Below.refl _ _).alloc (Nat.le_refl _) _
                      have ew : w4.heap[wr.heap.size]? = some (.cells #[.int .i64 g, .int .i64 s, .int .i64 src, .slice AS ns cs] 70 (0, 0)) := by rw [← hw4]; exact heap_alloc_new wr _
                      have HW4 := Lib.hid hw4
                      have HB4 := Lib.hid (belowThen HB.out HB.out.size b4')
                      have HB04 := Lib.hid (belowThen HB0.out HB0.out.size b4')
                      have HRS := Lib.hid (hrS.below b4')
                      have p0 := cellBelow b4' c0
                      have p1 := cellBelow b4' c1
                      have HPC := Lib.hid (And.intro p0 p1)
                      clear hcl hV hf hb41 hb42 hrS
                      go_upto_region 7 with (fail)
                      try rw [HW4.out]
                      obtain ⟨Q, hQ⟩ : ∃ Q, wr.heap.size = Q := ⟨_, rfl⟩
                      try rw [hQ]
                      rw [hQ] at ew
                      have f0 : w4.cell? ⟨Q, 0, none⟩ = some (.int .i64 g) := by simp [World.cell?, ew]
                      have f1 : w4.cell? ⟨Q, 1, none⟩ = some (.int .i64 s) := by simp [World.cell?, ew]
                      have f2 : w4.cell? ⟨Q, 2, none⟩ = some (.int .i64 src) := by simp [World.cell?, ew]
                      have f3 : w4.cell? ⟨Q, 3, none⟩ = some (.slice AS ns cs) := by simp [World.cell?, ew]
                      have HFC := Lib.hid (And.intro f0 (And.intro f2 f3))
                      clear hw4 b4' ew hQ e0 e1 e2 e3 c0 c1
                      by_cases m1 : g < 1
                      · have dm1 : decide (g < 1) = true := decide_eq_true (by omega)
                        obtain rfl : r = false := by rw [← HR.out]; exact conf_badF HFI.out (flow_bad (by rw [HSL.out]; omega))
                        go_wp2_with fail
                        go_ret
                        exact ⟨rfl, HB4.out⟩
                      · have dm1 : decide (g < 1) = false := decide_eq_false (by omega)
                        by_cases m2 : g > 255
                        · have dm2 : decide (g > 255) = true := decide_eq_true (by omega)
                          obtain rfl : r = false := by rw [← HR.out]; exact conf_badF HFI.out (flow_bad (by rw [HSL.out]; omega))
                          go_wp2_with fail
                          go_ret
                          exact ⟨rfl, HB4.out⟩
                        · have dm2 : decide (g > 255) = false := decide_eq_false (by omega)
                          by_cases m3 : s < 1
                          · have dm3 : decide (s < 1) = true := decide_eq_true (by omega)
                            obtain rfl : r = false := by rw [← HR.out]; exact conf_badF HFI.out (flow_bad (by rw [HSL.out]; omega))
                            go_wp2_with fail
                            go_ret
                            exact ⟨rfl, HB4.out⟩
                          · have dm3 : decide (s < 1) = false := decide_eq_false (by omega)
                            by_cases m4 : s > 65535
                            · have dm4 : decide (s > 65535) = true := decide_eq_true (by omega)
                              obtain rfl : r = false := by rw [← HR.out]; exact conf_badF HFI.out (flow_bad (by rw [HSL.out]; omega))
                              go_wp2_with fail
                              go_ret
                              exact ⟨rfl, HB4.out⟩
                            · have dm4 : decide (s > 65535) = false := decide_eq_false (by omega)
                              have hmul : IntKind.i64.wrap (g * s) = g * s := IntWalk.i64_in _ ⟨by
                                  have := Int.mul_nonneg (show (0 : Int) ≤ g by omega) (show (0 : Int) ≤ s by omega); omega, by
                                  have := Int.mul_le_mul (show g ≤ 255 by omega) (show s ≤ 65535 by omega) (show (0 : Int) ≤ s by omega) (show (0 : Int) ≤ 255 by omega); omega⟩
                              by_cases m5 : g * s < 5
                              · have dm5 : decide (g * s < 5) = true := decide_eq_true (by omega)
                                obtain rfl : r = false := by rw [← HR.out]; exact conf_badF HFI.out (flow_bad (by rw [HSL.out]; omega))
                                go_wp2_with fail
                                go_ret
                                exact ⟨rfl, HB4.out⟩
                              · have dm5 : decide (g * s < 5) = false := decide_eq_false (by omega)
                                by_cases m6 : src < 0
                                · have dm6 : decide (src < 0) = true := decide_eq_true (by omega)
                                  obtain rfl : r = false := by rw [← HR.out]; exact conf_badF HFI.out (flow_bad (by rw [HSL.out]; omega))
                                  go_wp2_with fail
                                  go_ret
                                  exact ⟨rfl, HB4.out⟩
                                · have dm6 : decide (src < 0) = false := decide_eq_false (by omega)
                                  by_cases m7 : src ≥ nodes
                                  · have dm7 : decide (src ≥ nodes) = true := decide_eq_true (by omega)
                                    obtain rfl : r = false := by rw [← HR.out]; exact conf_badF HFI.out (flow_bad (by rw [HSL.out]; omega))
                                    go_wp2_with fail
                                    go_ret
                                    exact ⟨rfl, HB4.out⟩
                                  · have dm7 : decide (src ≥ nodes) = false := decide_eq_false (by omega)
                                    by_cases m8 : (ns : Int) < 1
                                    · have dm8 : decide ((ns : Int) < 1) = true := decide_eq_true (by omega)
                                      obtain rfl : r = false := by rw [← HR.out]; exact conf_badF HFI.out (flow_bad (by rw [HSL.out]; omega))
                                      go_wp2_with fail
                                      go_ret
                                      exact ⟨rfl, HB4.out⟩
                                    · have dm8 : decide ((ns : Int) < 1) = false := decide_eq_false (by omega)
                                      by_cases m9 : (ns : Int) > 8
                                      · have dm9 : decide ((ns : Int) > 8) = true := decide_eq_true (by omega)
                                        obtain rfl : r = false := by rw [← HR.out]; exact conf_badF HFI.out (flow_bad (by rw [HSL.out]; omega))
                                        go_wp2_with fail
                                        go_ret
                                        exact ⟨rfl, HB4.out⟩
                                      · have dm9 : decide ((ns : Int) > 8) = false := decide_eq_false (by omega)
                                        have HG2 : Hid (1 ≤ g ∧ g ≤ 255 ∧ 1 ≤ s ∧ s ≤ 65535 ∧ 5 ≤ g * s ∧ 0 ≤ src ∧ src < nodes ∧ 1 ≤ (ns : Int) ∧ (ns : Int) ≤ 8) := Lib.hid (by omega)
                                        have hns8 : ns ≤ 8 := by omega
                                        go_upto_region 11 with (fail)
                                        clear dm1 dm2 dm3 dm4 dm5 dm6 dm7 dm8 dm9 m1 m2 m3 m4 m5 m6 m7 m8 m9 f0 f1 f2 f3 hmul
                                        go_loopg [5, 6] ns (fun g2 s5 s6 wx => ∃ (k : Nat) (last : Int), k ≤ ns ∧ ns - k ≤ g2 ∧ s5 = .int .i64 last ∧ s6 = .int .i64 (k : Int) ∧ Hid (SkI nodes src sinks k last) ∧ Hid (Below w4.heap.size w4 wx))
                                        case atStart => exact ⟨0, -1, by omega, by omega, rfl, rfl, Lib.hid ⟨fun j hj => absurd hj (by omega), by omega, fun _ => rfl, fun h => absurd h (by omega)⟩, Lib.hid (Below.refl _ _)⟩
                                        case round =>
                                          obtain ⟨k, last, hk, hgk, rfl, rfl, HK, HBk⟩ := hrel
                                          have f0 := cellBelow HBk.out HFC.out.1
                                          have f2 := cellBelow HBk.out HFC.out.2.1
                                          have f3 := cellBelow HBk.out HFC.out.2.2
                                          have p0 := cellBelow HBk.out HPC.out.1
                                          have p1 := cellBelow HBk.out HPC.out.2
                                          by_cases hkl : k < ns
                                          · have hkli : (k : Int) < (ns : Int) := by omega
                                            have hk0 : (0 : Int) ≤ (k : Int) := by omega
                                            obtain ⟨b6, o6, rfl, hb6, hc6⟩ := (HRS.out.below HBk.out).at_ k hkl
                                            obtain ⟨t, ht⟩ : ∃ t, sinks[k]?.getD 0 = t := ⟨_, rfl⟩
                                            rw [ht] at hc6
                                            have HT := Lib.hid (getI HSL.out hkl ht)
                                            clear ht hb6
                                            by_cases q1 : t ≤ last
                                            · have dq1 : decide (t ≤ last) = true := decide_eq_true q1
                                              obtain rfl : r = false := by rw [← HR.out]; exact conf_badF HFI.out (flow_badS (by rw [HSL.out]; exact hkl) (HK.out.bad HT.out (.inl q1)))
                                              clear q1
                                              go_wp2_with fail
                                              go_quiet (fail)
                                              go_wp2_with fail
                                              go_ret
                                              exact ⟨rfl, belowDrewN (belowThen HB4.out HB4.out.size HBk.out) _⟩
                                            · have dq1 : decide (t ≤ last) = false := decide_eq_false q1
                                              by_cases q2 : t ≥ nodes
                                              · have dq2 : decide (t ≥ nodes) = true := decide_eq_true q2
                                                have dq2' : decide (nodes ≤ t) = true := decide_eq_true q2
                                                obtain rfl : r = false := by rw [← HR.out]; exact conf_badF HFI.out (flow_badS (by rw [HSL.out]; exact hkl) (HK.out.bad HT.out (.inr (.inl q2))))
                                                clear q1 q2
                                                go_wp2_with fail
                                                go_quiet (fail)
                                                go_wp2_with fail
                                                go_ret
                                                exact ⟨rfl, belowDrewN (belowThen HB4.out HB4.out.size HBk.out) _⟩
                                              · have dq2 : decide (t ≥ nodes) = false := decide_eq_false q2
                                                have dq2' : decide (nodes ≤ t) = false := decide_eq_false q2
                                                by_cases q3 : t = src
                                                · have dq3 : (t == src) = true := beq_iff_eq.2 q3
                                                  obtain rfl : r = false := by rw [← HR.out]; exact conf_badF HFI.out (flow_badS (by rw [HSL.out]; exact hkl) (HK.out.bad HT.out (.inr (.inr q3))))
                                                  clear q1 q2 q3
                                                  go_wp2_with fail
                                                  go_quiet (fail)
                                                  go_wp2_with fail
                                                  go_ret
                                                  exact ⟨rfl, belowDrewN (belowThen HB4.out HB4.out.size HBk.out) _⟩
                                                · have dq3 : (t == src) = false := beq_eq_false_iff_ne.2 q3
                                                  have HK2 := Lib.hid (HK.out.step HT.out q1 q2 q3)
                                                  clear q1 q2 q3
                                                  go_wp2_with fail
                                                  go_quiet (fail)
                                                  go_wp2_with fail
                                                  go_roundg (ns - (k + 1))
                                                  case measure => omega
                                                  case rel => exact ⟨k + 1, t, by omega, by omega, rfl, by go_num, HK2, Lib.hid (belowDrewN HBk.out _)⟩
                                          · have hkli : ¬ ((k : Int) < (ns : Int)) := by omega
                                            obtain rfl : k = ns := by omega
                                            have HFG : Hid (flowBad nodes (g, s, src, sinks) = false) := Lib.hid (flow_good (by rw [HSL.out]; exact HG2.out) fun j hj => HK.out.1 j (by rw [HSL.out] at hj; exact hj))
                                            have HIN : Hid (∀ (j : Nat) (f : Flw), j < i + 1 → flows[j]? = some f → flowBad nodes f = false) := Lib.hid fun j f hj hjf => by
                                              by_cases hji : j = i
                                              · subst hji; rw [HFI.out] at hjf; cases hjf; exact HFG.out
                                              · exact HI.out j f (by omega) hjf
                                            go_wp2_with fail
                                            go_roundg (n - (i + 1))
                                            case measure => omega
                                            case rel => exact ⟨i + 1, by omega, by omega, by go_num, HIN, Lib.hid (belowThen HB04.out HB04.out.size HBk.out)⟩
                    · have hili : ¬ ((i : Int) < (n : Int)) := by omega
                      obtain rfl : i = n := by omega
                      obtain rfl : r = true := by rw [← HR.out]; exact conf_good (by rw [HL.out]; exact HG1.out) fun j f hjf => HI.out j f (by have := (List.getElem?_eq_some_iff.1 hjf).1; rw [HL.out] at this; exact this) hjf
                      go_wp2_with fail
                      go_ret
                      exact ⟨rfl, HB.out⟩
end Go.Proofs.YthgnjojkncodeaaGreat
