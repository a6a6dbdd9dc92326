/-
  The document's May. Printed by gen_rmay.py.
-/
import Derived.Test.YthgnjojkncodeaaGreatRfE
import Derived.Deep.CutBlock
import Derived.Deep.QuietTactic
import Derived.BigQuiet
namespace Go.Proofs.YthgnjojkncodeaaGreat
open Go.RowKit
set_option linter.unusedVariables false
set_option linter.unusedSimpArgs false

set_option maxRecDepth 20000 in
set_option maxHeartbeats 8000000 in
theorem rmay_calls (w : World) (ok : Nat → Prop) (vc vt : Value) (nodes : Int) (flows : List Flw) (win que ep : Int) (up : List Bool) (hops : List (List Ed)) (hC : ConfV w ok vc nodes flows win que) (hT : TopoV w ok vt ep up hops) (hep : 0 ≤ ep) (hfew : Few hops) :
    Calls Tryz.prog 36 #[vc, vt] w fun e w' => e = .returned (.bool (mayOk nodes flows win que ep up hops)) ∧ Below w.heap.size w w' := by
  obtain ⟨AF, nF, cF, rfl, hnc, hi1, hi2, hi3, hrF⟩ := hC
  obtain ⟨AU, nU, cU, AH, nH, cH, rfl, h1, h2, hrU, hrH⟩ := hT
  obtain ⟨r, hr⟩ : ∃ r, mayOk nodes flows win que ep up hops = r := ⟨_, rfl⟩
  rw [hr]
  have HR := Lib.hid hr
  have HLF := Lib.hid hrF.len
  have HLU := Lib.hid hrU.len
  have HLH := Lib.hid hrH.len
  have hmF := hrF.max
  have hmH := hrH.max
  obtain ⟨wa, hwa⟩ : ∃ wa, w.alloc (.cells #[.int .i64 nodes, .slice AF nF cF, .int .i64 win, .int .i64 que] 24) = wa := ⟨_, rfl⟩
  obtain ⟨wb, hwb⟩ : ∃ wb, wa.alloc (.cells #[.int .u64 ep, .slice AU nU cU, .slice AH nH cH] 38) = wb := ⟨_, rfl⟩
  have ba : Below w.heap.size w wa := by rw [← hwa]; exact (Below.refl _ _).alloc (Nat.le_refl _) _
  have bb : Below wa.heap.size wa wb := by rw [← hwb]; exact (Below.refl _ _).alloc (Nat.le_refl _) _
  have sa : wa.heap.size = w.heap.size + 1 := by rw [← hwa]; simp
  have ea : wb.heap[w.heap.size]? = some (.cells #[.int .i64 nodes, .slice AF nF cF, .int .i64 win, .int .i64 que] 24 (0, 0)) := by rw [bb.block _ (by omega), ← hwa]; exact heap_alloc_new w _
  have eb : wb.heap[w.heap.size + 1]? = some (.cells #[.int .u64 ep, .slice AU nU cU, .slice AH nH cH] 38 (0, 0)) := by rw [← hwb, ← sa]; exact heap_alloc_new wa _
  have hB := belowThen ba ba.size bb
  obtain ⟨P, hP⟩ : ∃ P, w.heap.size = P := ⟨_, rfl⟩
  rw [hP] at ea eb
  have hQ' : wa.heap.size = P + 1 := by omega
  have HBB := Lib.hid hB
  have HRF := Lib.hid (hrF.below hB)
  have HRU := Lib.hid (hrU.below hB)
  have HRH := Lib.hid (hrH.below hB)
  have HEA := Lib.hid ea
  have HEB := Lib.hid eb
  have c0 : wb.cell? ⟨P, 0, none⟩ = some (.int .i64 nodes) := by simp [World.cell?, ea]
  have c1 : wb.cell? ⟨P, 1, none⟩ = some (.slice AF nF cF) := by simp [World.cell?, ea]
  have c2 : wb.cell? ⟨P, 2, none⟩ = some (.int .i64 win) := by simp [World.cell?, ea]
  have c3 : wb.cell? ⟨P, 3, none⟩ = some (.int .i64 que) := by simp [World.cell?, ea]
  have t0 : wb.cell? ⟨P + 1, 0, none⟩ = some (.int .u64 ep) := by simp [World.cell?, eb]
  have t1 : wb.cell? ⟨P + 1, 1, none⟩ = some (.slice AU nU cU) := by simp [World.cell?, eb]
  have t2 : wb.cell? ⟨P + 1, 2, none⟩ = some (.slice AH nH cH) := by simp [World.cell?, eb]
  have hcf := rconfig_calls wb ok (.agg #[.int .i64 nodes, .slice AF nF cF, .int .i64 win, .int .i64 que]) nodes flows win que ⟨_, _, _, rfl, hnc, hi1, hi2, hi3, HRF.out⟩
  have HWA := Lib.hid hwa
  have HWB := Lib.hid hwb
  have HP := Lib.hid hP
  have HQ := Lib.hid hQ'
  have HFW := Lib.hid hfew
  have HTV : Hid (TopoV wb ok (.agg #[.int .u64 ep, .slice AU nU cU, .slice AH nH cH]) ep up hops) := Lib.hid ⟨_, _, _, _, _, _, rfl, h1, h2, HRU.out, HRH.out⟩
  clear hr hwa hwb ba bb sa ea eb hB hrF hrU hrH hP hQ' hfew
  go_enter Tryz.func36, Tryz.ntmps36
  go_upto_region 1 with (fail)
  try rw [HWA.out]
  try rw [HWB.out]
  try rw [HQ.out]
  try rw [HP.out]
  cases hco : configOk nodes flows win que with
  | false =>
    rw [hco] at hcf
    obtain rfl : r = false := by rw [← HR.out]; exact may_badC hco
    clear hco
    go_wp2_with fail
    refine hcf.mono ?_
    rintro e w3 ⟨rfl, b3⟩
    clear hcf
    go_wp2_with fail
    go_ret
    exact ⟨rfl, belowThen HBB.out HBB.out.size b3⟩
  | true =>
    rw [hco] at hcf
    have HCO := Lib.hid hco
    clear hco
    obtain ⟨hn1, hn2⟩ := config_nodes HCO.out
    go_wp2_with fail
    refine hcf.mono ?_
    rintro e w3 ⟨rfl, b3⟩
    have HB3 := Lib.hid (belowThen HBB.out HBB.out.size b3)
    have k0 := cellBelow b3 t0
    have k1 := cellBelow b3 t1
    have k2 := cellBelow b3 t2
    have k3 := cellBelow b3 c0
    have k4 := cellBelow b3 c1
    have HEA3 := Lib.hid ((b3.block P (Array.getElem?_eq_some_iff.1 HEA.out).1).trans HEA.out)
    have HEB3 := Lib.hid ((b3.block (P + 1) (Array.getElem?_eq_some_iff.1 HEB.out).1).trans HEB.out)
    have HRF3 := Lib.hid (HRF.out.below b3)
    have HRU := Lib.hid (HRU.out.below b3)
    have HRH := Lib.hid (HRH.out.below b3)
    have HTV := Lib.hid (HTV.out.below b3)
    clear hcf b3 c0 c1 c2 c3 t0 t1 t2 HBB HRF HEA HEB
    by_cases n1 : ep = 0
    · have dn10 : (ep == 0) = true := by exact beq_iff_eq.2 n1
      obtain rfl : r = false := by rw [← HR.out]; exact may_badN (by rw [HLU.out, HLH.out, HLF.out]; omega)
      go_wp2_with fail
      go_ret
      exact ⟨rfl, HB3.out⟩
    · have dn10 : (ep == 0) = false := by exact beq_eq_false_iff_ne.2 n1
      by_cases n2 : ep > 1125899906842624
      · have dn20 : decide (ep > 1125899906842624) = true := by exact decide_eq_true (by omega)
        obtain rfl : r = false := by rw [← HR.out]; exact may_badN (by rw [HLU.out, HLH.out, HLF.out]; omega)
        go_wp2_with fail
        go_ret
        exact ⟨rfl, HB3.out⟩
      · have dn20 : decide (ep > 1125899906842624) = false := by exact decide_eq_false (by omega)
        by_cases n3 : (nU : Int) ≠ nodes
        · have dn30 : (!((nU : Int) == nodes)) = true := by rw [beq_eq_false_iff_ne.2 n3]; rfl
          obtain rfl : r = false := by rw [← HR.out]; exact may_badN (by rw [HLU.out, HLH.out, HLF.out]; omega)
          go_wp2_with fail
          go_ret
          exact ⟨rfl, HB3.out⟩
        · have dn30 : (!((nU : Int) == nodes)) = false := by rw [beq_iff_eq.2 (by omega)]; rfl
          have e3 : (nU : Int) = nodes := by omega
          have E3 := Lib.hid e3
          clear e3
          by_cases n4 : (nH : Int) ≠ (nF : Int)
          · have dn40 : (!((nH : Int) == (nF : Int))) = true := by rw [beq_eq_false_iff_ne.2 n4]; rfl
            obtain rfl : r = false := by rw [← HR.out]; exact may_badN (by rw [HLU.out, HLH.out, HLF.out]; omega)
            go_wp2_with fail
            go_ret
            exact ⟨rfl, HB3.out⟩
          · have dn40 : (!((nH : Int) == (nF : Int))) = false := by rw [beq_iff_eq.2 (by omega)]; rfl
            have HG1 : Hid (1 ≤ ep ∧ ep ≤ 1125899906842624 ∧ (up.length : Int) = nodes ∧ (hops.length : Int) = (flows.length : Int)) := Lib.hid (by rw [HLU.out, HLH.out, HLF.out]; have := E3.out; omega)
            have hHF : nH = nF := by omega
            subst hHF
            go_upto_region 4 with (fail)
            clear dn10 dn20 dn30 dn40 n1 n2 n3 n4 k0 k1 k2 k3 k4
            go_loopg [5] nH (fun gg s5 wr => ∃ fl : Nat, fl ≤ nH ∧ nH - fl ≤ gg ∧ s5 = .int .i64 (fl : Int) ∧ Hid (∀ (j : Nat) (l : List Ed), j < fl → hops[j]? = some l → HopOk nodes up (srcOf flows j) l) ∧ Hid (Below w3.heap.size w3 wr))
            case atStart => exact ⟨0, by omega, by omega, rfl, Lib.hid fun j f hj => absurd hj (by omega), Lib.hid (Below.refl _ _)⟩
            case round =>
              obtain ⟨fl, hfl, hgf, rfl, HI0, HB⟩ := hrel
              have HBw := Lib.hid (belowThen HB3.out HB3.out.size HB.out)
              have HXA := Lib.hid ((HB.out.block P (Array.getElem?_eq_some_iff.1 HEA3.out).1).trans HEA3.out)
              have HXB := Lib.hid ((HB.out.block (P + 1) (Array.getElem?_eq_some_iff.1 HEB3.out).1).trans HEB3.out)
              have hxa := HXA.out
              have hxb := HXB.out
              have t1 : wr.cell? ⟨P + 1, 1, none⟩ = some (.slice AU nU cU) := by simp [World.cell?, hxb]
              have t2 : wr.cell? ⟨P + 1, 2, none⟩ = some (.slice AH nH cH) := by simp [World.cell?, hxb]
              clear hxa hxb
              by_cases hll : fl < nH
              · have hlli : (fl : Int) < (nH : Int) := by omega
                have hl0 : (0 : Int) ≤ (fl : Int) := by omega
                obtain ⟨wl, rfl⟩ : ∃ y, y = wr := ⟨_, rfl⟩
                obtain ⟨l, hl⟩ : ∃ l, hops[fl]? = some l := ⟨_, List.getElem?_eq_getElem (by rw [HLH.out]; exact hll)⟩
                obtain ⟨bH, oH, vs, rfl, _, _, hV, hcl⟩ := (HRH.out.below HB.out).at_ fl l hl
                obtain ⟨C, p, pq, rfl, hpq, hrd⟩ := hV
                have k0 : wl.cell? ⟨bH, oH + fl, none⟩ = some (.slice C p pq) := by have := hcl 0 _ rfl; simpa [El.slice] using this
                have HLI := Lib.hid hl
                have HRL := Lib.hid hrd
                have HPL := Lib.hid hrd.len
                clear hcl hl hrd
                by_cases h128 : (p : Int) > 128
                · have d128 : decide ((p : Int) > 128) = true := decide_eq_true h128
                  obtain rfl : r = false := by rw [← HR.out]; exact may_badH HLI.out (fun k => by have := k.len; have := HPL.out; omega)
                  go_wp2_with fail
                  go_ret
                  exact ⟨rfl, HBw.out⟩
                · have d128 : decide ((p : Int) > 128) = false := decide_eq_false h128
                  have hp128 : p ≤ 128 := by omega
                  obtain ⟨src, hsrc⟩ : ∃ src, srcOf flows fl = src := ⟨_, rfl⟩
                  have HSRC := Lib.hid hsrc
                  obtain ⟨fw, hfw⟩ : ∃ fw, flows[fl]? = some fw := ⟨_, List.getElem?_eq_getElem (by rw [HLF.out]; exact hll)⟩
                  obtain ⟨bF, oF, vs, rfl, _, _, hV, hcl⟩ := (HRF3.out.below HB.out).at_ fl fw hfw
                  obtain ⟨AS, ns, cs, rfl, _, _, _, _, _⟩ := fl_open hV
                  have kF : wl.cell? ⟨bF, oF + fl * 4 + 2, none⟩ = some (.int .i64 src) := by
                    have h1 : wl.cell? ⟨bF, oF + fl * 4 + 2, none⟩ = some (.int .i64 fw.2.2.1) := hcl 2 _ rfl
                    rw [h1, ← hsrc]
                    unfold srcOf
                    rw [hfw]
                    rfl
                  have KF := Lib.hid kF
                  clear hcl hV hfw hsrc kF h128
                  go_upto_region 10 with (fail)
                  clear d128 k0 t1 t2
                  go_loopg [7] p (fun g2 s7 wx => ∃ i : Nat, i ≤ p ∧ p - i ≤ g2 ∧ s7 = .int .i64 (i : Int) ∧ Hid (∀ (j : Nat) (e : Ed), j < i → l[j]? = some e → EdOk nodes up src e) ∧ Hid (∀ (j : Nat) (e f : Ed), j + 1 < i → l[j]? = some e → l[j + 1]? = some f → ltR e f) ∧ Hid (Below wl.heap.size wl wx))
                  case atStart => exact ⟨0, by omega, by omega, rfl, Lib.hid fun j f hj => absurd hj (by omega), Lib.hid fun j e f hj => absurd hj (by omega), Lib.hid (Below.refl _ _)⟩
                  case round =>
                    obtain ⟨i, hi, hgi, rfl, HI, HLT, HBi⟩ := hrel
                    by_cases hil : i < p
                    · as_aux_lemma =>
                      have hili : (i : Int) < (p : Int) := by omega
                      have hi0 : (0 : Int) ≤ (i : Int) := by omega
                      obtain ⟨x, hx⟩ : ∃ x, l[i]? = some x := ⟨_, List.getElem?_eq_getElem (by rw [HPL.out]; exact hil)⟩
                      obtain ⟨b6, o6, vs, rfl, _, _, hV, hcl⟩ := (HRL.out.below HBi.out).at_ i x hx
                      obtain ⟨rfl, _, _⟩ := ed_open hV
                      have e0 : wr.cell? ⟨b6, o6 + i * 2, none⟩ = some (.int .i64 x.1) := hcl 0 _ rfl
                      have e1 : wr.cell? ⟨b6, o6 + i * 2 + 1, none⟩ = some (.int .i64 x.2) := hcl 1 _ rfl
                      obtain ⟨x1, x2⟩ := x
                      simp only at e0 e1
                      have HXI := Lib.hid hx
                      clear hcl hV hx
                      obtain ⟨wq, hwq⟩ : ∃ wq, wr.alloc (.cells #[.int .i64 x1, .int .i64 x2] 77) = wq := ⟨_, rfl⟩
                      have bq : Below wr.heap.size wr wq := by rw [← hwq]; exact (Below.refl _ _).alloc (Nat.le_refl _) _
                      have eq : wq.heap[wr.heap.size]? = some (.cells #[.int .i64 x1, .int .i64 x2] 77 (0, 0)) := by rw [← hwq]; exact heap_alloc_new wr _
                      have HWQ := Lib.hid hwq
                      have HBil := Lib.hid (belowThen HBi.out HBi.out.size bq)
                      have HBq := Lib.hid (belowThen HB.out HB.out.size HBil.out)
                      have HBQ := Lib.hid (belowThen HBw.out HBw.out.size HBil.out)
                      go_upto_region 13 with (fail)
                      try rw [HWQ.out]
                      obtain ⟨Q, hQ⟩ : ∃ Q, wr.heap.size = Q := ⟨_, rfl⟩
                      try rw [hQ]
                      rw [hQ] at eq
                      have q0 : wq.cell? ⟨Q, 0, none⟩ = some (.int .i64 x1) := by simp [World.cell?, eq]
                      have q1' : wq.cell? ⟨Q, 1, none⟩ = some (.int .i64 x2) := by simp [World.cell?, eq]
                      have hQl : Q < wq.heap.size := (Array.getElem?_eq_some_iff.1 eq).1
                      have HYA := Lib.hid ((HBq.out.block P (Array.getElem?_eq_some_iff.1 HEA3.out).1).trans HEA3.out)
                      have HYB := Lib.hid ((HBq.out.block (P + 1) (Array.getElem?_eq_some_iff.1 HEB3.out).1).trans HEB3.out)
                      have hya := HYA.out
                      have hyb := HYB.out
                      have z0 : wq.cell? ⟨P, 0, none⟩ = some (.int .i64 nodes) := by simp [World.cell?, hya]
                      have z1 : wq.cell? ⟨P, 1, none⟩ = some (.slice (some ⟨bF, oF, none⟩) nH cF) := by simp [World.cell?, hya]
                      have z2 : wq.cell? ⟨P + 1, 1, none⟩ = some (.slice AU nU cU) := by simp [World.cell?, hyb]
                      have kF := cellBelow HBil.out KF.out
                      clear hwq bq eq hQ e0 e1 hya hyb
                      by_cases q1 : x1 < 0
                      · have dq10 : decide (x1 < 0) = true := by exact decide_eq_true (by omega)
                        have HNO : Hid (¬ EdOk nodes up src (x1, x2)) := Lib.hid (fun k => by have := k.f0; have := k.f1; have := k.t0; have := k.t1; have := k.ne; have := k.so; simp only at *; omega)
                        obtain rfl : r = false := by rw [← HR.out]; exact may_badH HLI.out (fun k => HNO.out (by rw [← HSRC.out]; exact k.ed i _ HXI.out))
                        go_quiet (fail)
                        go_wp2_with fail
                        go_ret
                        exact ⟨rfl, belowDrewN HBQ.out _⟩
                      · have dq10 : decide (x1 < 0) = false := by exact decide_eq_false (by omega)
                        by_cases q2 : x1 ≥ nodes
                        · have dq20 : decide (x1 ≥ nodes) = true := by exact decide_eq_true (by omega)
                          have dq21 : decide (nodes ≤ x1) = true := by exact decide_eq_true (by omega)
                          have HNO : Hid (¬ EdOk nodes up src (x1, x2)) := Lib.hid (fun k => by have := k.f0; have := k.f1; have := k.t0; have := k.t1; have := k.ne; have := k.so; simp only at *; omega)
                          obtain rfl : r = false := by rw [← HR.out]; exact may_badH HLI.out (fun k => HNO.out (by rw [← HSRC.out]; exact k.ed i _ HXI.out))
                          go_quiet (fail)
                          go_wp2_with fail
                          go_ret
                          exact ⟨rfl, belowDrewN HBQ.out _⟩
                        · have dq20 : decide (x1 ≥ nodes) = false := by exact decide_eq_false (by omega)
                          have dq21 : decide (nodes ≤ x1) = false := by exact decide_eq_false (by omega)
                          by_cases q3 : x2 < 0
                          · have dq30 : decide (x2 < 0) = true := by exact decide_eq_true (by omega)
                            have HNO : Hid (¬ EdOk nodes up src (x1, x2)) := Lib.hid (fun k => by have := k.f0; have := k.f1; have := k.t0; have := k.t1; have := k.ne; have := k.so; simp only at *; omega)
                            obtain rfl : r = false := by rw [← HR.out]; exact may_badH HLI.out (fun k => HNO.out (by rw [← HSRC.out]; exact k.ed i _ HXI.out))
                            go_quiet (fail)
                            go_wp2_with fail
                            go_ret
                            exact ⟨rfl, belowDrewN HBQ.out _⟩
                          · have dq30 : decide (x2 < 0) = false := by exact decide_eq_false (by omega)
                            by_cases q4 : x2 ≥ nodes
                            · have dq40 : decide (x2 ≥ nodes) = true := by exact decide_eq_true (by omega)
                              have dq41 : decide (nodes ≤ x2) = true := by exact decide_eq_true (by omega)
                              have HNO : Hid (¬ EdOk nodes up src (x1, x2)) := Lib.hid (fun k => by have := k.f0; have := k.f1; have := k.t0; have := k.t1; have := k.ne; have := k.so; simp only at *; omega)
                              obtain rfl : r = false := by rw [← HR.out]; exact may_badH HLI.out (fun k => HNO.out (by rw [← HSRC.out]; exact k.ed i _ HXI.out))
                              go_quiet (fail)
                              go_wp2_with fail
                              go_ret
                              exact ⟨rfl, belowDrewN HBQ.out _⟩
                            · have dq40 : decide (x2 ≥ nodes) = false := by exact decide_eq_false (by omega)
                              have dq41 : decide (nodes ≤ x2) = false := by exact decide_eq_false (by omega)
                              by_cases q5 : x1 = x2
                              · have dq50 : (x1 == x2) = true := by exact beq_iff_eq.2 q5
                                have HNO : Hid (¬ EdOk nodes up src (x1, x2)) := Lib.hid (fun k => by have := k.f0; have := k.f1; have := k.t0; have := k.t1; have := k.ne; have := k.so; simp only at *; omega)
                                obtain rfl : r = false := by rw [← HR.out]; exact may_badH HLI.out (fun k => HNO.out (by rw [← HSRC.out]; exact k.ed i _ HXI.out))
                                clear q5
                                go_quiet (fail)
                                go_wp2_with fail
                                go_ret
                                exact ⟨rfl, belowDrewN HBQ.out _⟩
                              · have dq50 : (x1 == x2) = false := by exact beq_eq_false_iff_ne.2 q5
                                by_cases q6 : x2 = src
                                · have dq60 : (x2 == src) = true := by exact beq_iff_eq.2 q6
                                  have HNO : Hid (¬ EdOk nodes up src (x1, x2)) := Lib.hid (fun k => by have := k.f0; have := k.f1; have := k.t0; have := k.t1; have := k.ne; have := k.so; simp only at *; omega)
                                  obtain rfl : r = false := by rw [← HR.out]; exact may_badH HLI.out (fun k => HNO.out (by rw [← HSRC.out]; exact k.ed i _ HXI.out))
                                  clear q6
                                  go_quiet (fail)
                                  go_wp2_with fail
                                  go_ret
                                  exact ⟨rfl, belowDrewN HBQ.out _⟩
                                · have dq60 : (x2 == src) = false := by exact beq_eq_false_iff_ne.2 q6
                                  obtain ⟨y1, hy1⟩ : ∃ y1 : Nat, x1 = (y1 : Int) := ⟨x1.toNat, by omega⟩
                                  obtain ⟨y2, hy2⟩ : ∃ y2 : Nat, x2 = (y2 : Int) := ⟨x2.toNat, by omega⟩
                                  subst hy1 hy2
                                  have hE3 := E3.out
                                  have hyl1 : (y1 : Int) < (nU : Int) := by omega
                                  have hyl2 : (y2 : Int) < (nU : Int) := by omega
                                  have hy01 : (0 : Int) ≤ (y1 : Int) := by omega
                                  have hy02 : (0 : Int) ≤ (y2 : Int) := by omega
                                  obtain ⟨u1, hu1⟩ : ∃ u, up[y1]? = some u := ⟨_, List.getElem?_eq_getElem (by rw [HLU.out]; omega)⟩
                                  obtain ⟨u2, hu2⟩ : ∃ u, up[y2]? = some u := ⟨_, List.getElem?_eq_getElem (by rw [HLU.out]; omega)⟩
                                  obtain ⟨bU, oU, vs1, eU, _, _, rfl, hcu1⟩ := (HRU.out.below HBq.out).at_ y1 u1 hu1
                                  obtain ⟨bU2, oU2, vs2, eU2, _, _, rfl, hcu2⟩ := (HRU.out.below HBq.out).at_ y2 u2 hu2
                                  rw [eU] at eU2
                                  cases eU2
                                  subst eU
                                  have kU1 : wq.cell? ⟨bU, oU + y1, none⟩ = some (.bool u1) := by have := hcu1 0 _ rfl; simpa [El.bool] using this
                                  have kU2 : wq.cell? ⟨bU, oU + y2, none⟩ = some (.bool u2) := by have := hcu2 0 _ rfl; simpa [El.bool] using this
                                  have HU1 := Lib.hid hu1
                                  have HU2 := Lib.hid hu2
                                  clear hcu1 hcu2 hu1 hu2 hE3
                                  by_cases q7 : u1 = false
                                  · skip
                                    have HNO : Hid (¬ EdOk nodes up src ((y1 : Int), (y2 : Int))) := Lib.hid (fun k => by
                                      have h1 : up[y1]? = some true := k.uf
                                      have h2 : up[y2]? = some true := k.ut
                                      rw [HU1.out] at h1
                                      rw [HU2.out] at h2
                                      have h1 := Option.some.inj h1
                                      have h2 := Option.some.inj h2
                                      first | (rw [h1] at q7; cases q7) | (rw [h2] at q8; cases q8))
                                    obtain rfl : r = false := by rw [← HR.out]; exact may_badH HLI.out (fun k => HNO.out (by rw [← HSRC.out]; exact k.ed i _ HXI.out))
                                    subst q7
                                    go_quiet (fail)
                                    go_wp2_with fail
                                    go_ret
                                    exact ⟨rfl, belowDrewN HBQ.out _⟩
                                  · obtain rfl : u1 = true := by cases u1 with
                                      | true => rfl
                                      | false => exact absurd rfl q7
                                    by_cases q8 : u2 = false
                                    · skip
                                      have HNO : Hid (¬ EdOk nodes up src ((y1 : Int), (y2 : Int))) := Lib.hid (fun k => by
                                        have h1 : up[y1]? = some true := k.uf
                                        have h2 : up[y2]? = some true := k.ut
                                        rw [HU1.out] at h1
                                        rw [HU2.out] at h2
                                        have h1 := Option.some.inj h1
                                        have h2 := Option.some.inj h2
                                        first | (rw [h1] at q7; cases q7) | (rw [h2] at q8; cases q8))
                                      obtain rfl : r = false := by rw [← HR.out]; exact may_badH HLI.out (fun k => HNO.out (by rw [← HSRC.out]; exact k.ed i _ HXI.out))
                                      subst q8
                                      go_quiet (fail)
                                      go_wp2_with fail
                                      go_ret
                                      exact ⟨rfl, belowDrewN HBQ.out _⟩
                                    · obtain rfl : u2 = true := by cases u2 with
                                        | true => rfl
                                        | false => exact absurd rfl q8
                                      have HED : Hid (EdOk nodes up src ((y1 : Int), (y2 : Int))) := Lib.hid ⟨by simp only; omega, by simp only; omega, by simp only; omega, by simp only; omega, q5, q6, by rw [show ((y1 : Int), (y2 : Int)).1.toNat = y1 from Int.toNat_natCast y1]; exact HU1.out, by rw [show ((y1 : Int), (y2 : Int)).2.toNat = y2 from Int.toNat_natCast y2]; exact HU2.out⟩
                                      have HI1 : Hid (∀ (j : Nat) (e : Ed), j < i + 1 → l[j]? = some e → EdOk nodes up src e) := Lib.hid fun j e hj hje => by
                                        by_cases hji : j = i
                                        · subst hji; rw [HXI.out] at hje; cases hje; exact HED.out
                                        · exact HI.out j e (by omega) hje
                                      clear q7 q8 HED
                                      go_cut [5, 6, 7, 8, 122] (fun s5 s6 s7 s8 s122 wx => s122 = .bool false ∧ s5 = .int .i64 (fl : Int) ∧ s6 = .slice (some ⟨b6, o6, none⟩) p pq ∧ s7 = .int .i64 (i : Int) ∧ s8 = .pointer (some ⟨Q, 0, none⟩) ∧ ∃ qq, wx = wq.drewN qq)
                                      case first =>
                                        go_quiet (fail)
                                        go_wp2_with fail
                                        go_meet
                                        exact ⟨rfl, rfl, rfl, rfl, rfl, _, rfl⟩
                                      case rest => as_aux_lemma =>
                                        obtain ⟨rfl, rfl, rfl, rfl, rfl, qq, rfl⟩ := hcut
                                        clear q1 q2 q3 q4 q5 q6 kU1 kU2 hyl1 hyl2 hy01 hy02 dq10 dq20 dq21 dq30 dq40 dq41 dq50 dq60 z0 z1 z2 kF
                                        have HI1' := HI1
                                        by_cases hi00 : i = 0
                                        · have di0 : decide (0 < i) = false := decide_eq_false (by omega)
                                          have di1 : decide ((i : Int) > 0) = false := decide_eq_false (by omega)
                                          have HL1 : Hid (∀ (j : Nat) (e f : Ed), j + 1 < i + 1 → l[j]? = some e → l[j + 1]? = some f → ltR e f) := Lib.hid fun j e f hj => absurd hj (by omega)
                                          clear hi00
                                          go_wp2_with fail
                                          go_quiet (fail)
                                          go_wp2_with fail
                                          go_roundg (p - (i + 1))
                                          case measure => omega
                                          case rel => exact ⟨i + 1, by omega, by omega, by go_num, HI1, HL1, Lib.hid (belowDrewN HBil.out _)⟩
                                        · obtain ⟨j, hij⟩ : ∃ j, i = j + 1 := ⟨i - 1, by omega⟩
                                          have di0 : decide (0 < i) = true := decide_eq_true (by omega)
                                          have di1 : decide ((i : Int) > 0) = true := decide_eq_true (by omega)
                                          have hw1 : (i : Int) - 1 = (j : Int) := by omega
                                          have hw2 : IntKind.i64.wrap ((i : Int) - 1) = (j : Int) := by rw [hw1]; exact IntWalk.i64_in _ ⟨by omega, by omega⟩
                                          have hw3 : IntKind.i64.wrap (j : Int) = (j : Int) := IntWalk.i64_in _ ⟨by omega, by omega⟩
                                          have hjl : (j : Int) < (p : Int) := by omega
                                          have hj0 : (0 : Int) ≤ (j : Int) := by omega
                                          obtain ⟨xp, hxp⟩ : ∃ x, l[j]? = some x := ⟨_, List.getElem?_eq_getElem (by rw [HPL.out]; omega)⟩
                                          obtain ⟨b7, o7, vs, e7, _, _, hV, hcl⟩ := (HRL.out.below HBil.out).at_ j xp hxp
                                          cases e7
                                          obtain ⟨rfl, _, _⟩ := ed_open hV
                                          have g0 : wq.cell? ⟨b6, o6 + j * 2, none⟩ = some (.int .i64 xp.1) := hcl 0 _ rfl
                                          have g1 : wq.cell? ⟨b6, o6 + j * 2 + 1, none⟩ = some (.int .i64 xp.2) := hcl 1 _ rfl
                                          obtain ⟨p1, p2⟩ := xp
                                          simp only at g0 g1
                                          have HXJ := Lib.hid hxp
                                          have HXI2 : Hid (l[j + 1]? = some ((y1 : Int), (y2 : Int))) := Lib.hid (by rw [← hij]; exact HXI.out)
                                          have HIJ := Lib.hid hij
                                          clear hcl hV hxp hij hi00
                                          by_cases a1 : p1 > (y1 : Int)
                                          · have da1 : decide (p1 > (y1 : Int)) = true := decide_eq_true a1
                                            obtain rfl : r = false := by rw [← HR.out]; exact may_badH HLI.out (fun k => by have := k.lt j _ _ HXJ.out HXI2.out; unfold ltR at this; simp only at this; omega)
                                            clear a1
                                            go_wp2_with fail
                                            go_quiet (fail)
                                            go_wp2_with fail
                                            go_ret
                                            exact ⟨rfl, belowDrewN (belowDrewN HBQ.out _) _⟩
                                          · have da1 : decide (p1 > (y1 : Int)) = false := decide_eq_false a1
                                            by_cases a2 : p1 = (y1 : Int)
                                            · have da2 : (p1 == (y1 : Int)) = true := beq_iff_eq.2 a2
                                              have A2 := Lib.hid a2
                                              clear a2
                                              by_cases a3 : p2 ≥ (y2 : Int)
                                              · have da3 : decide (p2 ≥ (y2 : Int)) = true := decide_eq_true a3
                                                have da4 : decide ((y2 : Int) ≤ p2) = true := decide_eq_true a3
                                                obtain rfl : r = false := by rw [← HR.out]; exact may_badH HLI.out (fun k => by have := k.lt j _ _ HXJ.out HXI2.out; have := A2.out; unfold ltR at *; simp only at *; omega)
                                                clear a1 a3
                                                go_wp2_with fail
                                                go_quiet (fail)
                                                go_wp2_with fail
                                                go_ret
                                                exact ⟨rfl, belowDrewN (belowDrewN HBQ.out _) _⟩
                                              · have da3 : decide (p2 ≥ (y2 : Int)) = false := decide_eq_false a3
                                                have da4 : decide ((y2 : Int) ≤ p2) = false := decide_eq_false a3
                                                have HL1 : Hid (∀ (j : Nat) (e f : Ed), j + 1 < i + 1 → l[j]? = some e → l[j + 1]? = some f → ltR e f) := Lib.hid fun q e f hq he hf => by
                                                  by_cases hqj : q = j
                                                  · subst hqj
                                                    rw [HXJ.out] at he
                                                    rw [HXI2.out] at hf
                                                    cases he
                                                    cases hf
                                                    exact .inr ⟨A2.out, by simp only; omega⟩
                                                  · exact HLT.out q e f (by have := HIJ.out; omega) he hf
                                                clear a1 a3
                                                go_wp2_with fail
                                                go_quiet (fail)
                                                go_wp2_with fail
                                                go_roundg (p - (i + 1))
                                                case measure => omega
                                                case rel => exact ⟨i + 1, by omega, by omega, by go_num, HI1, HL1, Lib.hid (belowDrewN HBil.out _)⟩
                                            · have da2 : (p1 == (y1 : Int)) = false := beq_eq_false_iff_ne.2 a2
                                              have HL1 : Hid (∀ (j : Nat) (e f : Ed), j + 1 < i + 1 → l[j]? = some e → l[j + 1]? = some f → ltR e f) := Lib.hid fun q e f hq he hf => by
                                                by_cases hqj : q = j
                                                · subst hqj
                                                  rw [HXJ.out] at he
                                                  rw [HXI2.out] at hf
                                                  cases he
                                                  cases hf
                                                  exact .inl (by simp only; omega)
                                                · exact HLT.out q e f (by have := HIJ.out; omega) he hf
                                              clear a1 a2
                                              go_wp2_with fail
                                              go_quiet (fail)
                                              go_wp2_with fail
                                              go_roundg (p - (i + 1))
                                              case measure => omega
                                              case rel => exact ⟨i + 1, by omega, by omega, by go_num, HI1, HL1, Lib.hid (belowDrewN HBil.out _)⟩
                    · as_aux_lemma =>
                      have hili : ¬ ((i : Int) < (p : Int)) := by omega
                      obtain rfl : i = p := by omega
                      have hifl : inI (fl : Int) := ⟨by omega, by omega⟩
                      have HNX : Hid (∀ x, nextOf hops (fl : Int) x = endsOf (fun e : Ed => (e.2, e.1 == x)) l) := Lib.hid fun x => by
                        have he : edgesOf hops (fl : Int) = l := by unfold edgesOf; rw [if_pos (by omega)]; simp [HLI.out]
                        unfold nextOf
                        rw [he]
                      have HEO : Hid (edgesOf hops (fl : Int) = l) := Lib.hid (by unfold edgesOf; rw [if_pos (by omega)]; simp [HLI.out])
                      have HB0 := Lib.hid (belowThen HB.out HB.out.size HBi.out)
                      go_upto_region 18 with (fail)
                      go_loopg [9] 64 (fun g3 s9 wx => ∃ nn : Nat, (nn : Int) ≤ nodes ∧ 64 - nn ≤ g3 ∧ s9 = .int .i64 (nn : Int) ∧ Hid (∀ m : Nat, m < nn → (endsOf (fun e : Ed => (e.2, e.1 == (m : Int))) l).length ≤ 8 ∧ ¬ Reaches l (m : Int) (m : Int)) ∧ Hid (Below w3.heap.size w3 wx))
                      case atStart => exact ⟨0, by omega, by omega, rfl, Lib.hid fun m hm => absurd hm (by omega), HB0⟩
                      case round =>
                        obtain ⟨nn, hnn, hgn, rfl, HNN, HBn⟩ := hrel
                        have HXA := Lib.hid ((HBn.out.block P (Array.getElem?_eq_some_iff.1 HEA3.out).1).trans HEA3.out)
                        have HXB := Lib.hid ((HBn.out.block (P + 1) (Array.getElem?_eq_some_iff.1 HEB3.out).1).trans HEB3.out)
                        have hxa := HXA.out
                        have hxb := HXB.out
                        have z0 : wr.cell? ⟨P, 0, none⟩ = some (.int .i64 nodes) := by simp [World.cell?, hxa]
                        have t0 : wr.cell? ⟨P + 1, 0, none⟩ = some (.int .u64 ep) := by simp [World.cell?, hxb]
                        have t1 : wr.cell? ⟨P + 1, 1, none⟩ = some (.slice AU nU cU) := by simp [World.cell?, hxb]
                        have t2 : wr.cell? ⟨P + 1, 2, none⟩ = some (.slice (some ⟨bH, oH, none⟩) nH cH) := by simp [World.cell?, hxb]
                        clear hxa hxb
                        by_cases hnl : (nn : Int) < nodes
                        · have hn0 : (0 : Int) ≤ (nn : Int) := by omega
                          have HTn := Lib.hid (HTV.out.below HBn.out)
                          have hnx := rnext_calls wr _ ep up hops ok HTn.out HFW.out (fl : Int) (nn : Int) hifl
                          rw [HNX.out] at hnx
                          go_wp2_with fail
                          refine hnx.mono ?_
                          rintro e w5 ⟨A5, n5, c5, rfl, hR5, b5⟩
                          have HN5 := Lib.hid hR5.len
                          have HB5 := Lib.hid (belowThen HBn.out HBn.out.size b5)
                          have t0' := cellBelow b5 t0
                          have t1' := cellBelow b5 t1
                          have t2' := cellBelow b5 t2
                          have HT5 := Lib.hid (HTn.out.below b5)
                          clear hnx hR5 b5 t0 t1 t2
                          by_cases h8 : (n5 : Int) > 8
                          · have d8 : decide ((n5 : Int) > 8) = true := decide_eq_true h8
                            obtain rfl : r = false := by rw [← HR.out]; exact may_badH HLI.out (fun k => by have := k.few (nn : Int) hn0 hnl; have := HN5.out; omega)
                            go_wp2_with fail
                            go_ret
                            exact ⟨rfl, belowThen HB3.out HB3.out.size HB5.out⟩
                          · have d8 : decide ((n5 : Int) > 8) = false := decide_eq_false h8
                            have hre := rreach_calls w5 _ ep up hops ok HT5.out HFW.out (fl : Int) (nn : Int) hifl
                            rw [HEO.out] at hre
                            go_wp2_with fail
                            refine hre.mono ?_
                            rintro e w6 ⟨zs, hp6, hm6, A6, n6, c6, rfl, hR6, b6'⟩
                            have HB6 := Lib.hid (belowThen HB5.out HB5.out.size b6')
                            have hha := rhas_calls w6 _ A6 n6 c6 zs (nn : Int) hR6
                            clear hre b6' t0' t1' t2'
                            by_cases hz : (nn : Int) ∈ zs
                            · rw [decide_eq_true hz] at hha
                              obtain rfl : r = false := by rw [← HR.out]; exact may_badH HLI.out (fun k => k.cir (nn : Int) hn0 hnl ((hm6 _).1 hz))
                              clear hz hm6 hp6 hR6
                              go_wp2_with fail
                              refine hha.mono ?_
                              rintro e w7 ⟨rfl, rfl⟩
                              go_wp2_with fail
                              go_ret
                              exact ⟨rfl, belowThen HB3.out HB3.out.size HB6.out⟩
                            · rw [decide_eq_false hz] at hha
                              have HN2 : Hid (∀ m : Nat, m < nn + 1 → (endsOf (fun e : Ed => (e.2, e.1 == (m : Int))) l).length ≤ 8 ∧ ¬ Reaches l (m : Int) (m : Int)) := Lib.hid fun m hm => by
                                by_cases hmn : m = nn
                                · subst hmn
                                  exact ⟨by have := HN5.out; omega, fun hh => hz ((hm6 _).2 hh)⟩
                                · exact HNN.out m (by omega)
                              clear hz hm6 hp6 hR6
                              go_wp2_with fail
                              refine hha.mono ?_
                              rintro e w7 ⟨rfl, rfl⟩
                              clear hha
                              go_wp2_with fail
                              go_roundg (64 - (nn + 1))
                              case measure => omega
                              case rel => exact ⟨nn + 1, by omega, by omega, by go_num, HN2, HB6⟩
                        · have HHO : Hid (HopOk nodes up (srcOf flows fl) l) := Lib.hid ⟨by rw [HPL.out]; omega, fun j e hj => by rw [HSRC.out]; exact HI.out j e (by have := (List.getElem?_eq_some_iff.1 hj).1; rw [HPL.out] at this; exact this) hj,
                            fun j e f he hf => HLT.out j e f (by have := (List.getElem?_eq_some_iff.1 hf).1; rw [HPL.out] at this; exact this) he hf,
                            fun m h0 h1 => by
                              have := (HNN.out m.toNat (by omega)).1
                              rwa [Int.toNat_of_nonneg h0] at this,
                            fun m h0 h1 => by
                              have := (HNN.out m.toNat (by omega)).2
                              rwa [Int.toNat_of_nonneg h0] at this⟩
                          have HI2 : Hid (∀ (j : Nat) (l : List Ed), j < fl + 1 → hops[j]? = some l → HopOk nodes up (srcOf flows j) l) := Lib.hid fun j l2 hj hjl => by
                            by_cases hjf : j = fl
                            · subst hjf; rw [HLI.out] at hjl; cases hjl; exact HHO.out
                            · exact HI0.out j l2 (by omega) hjl
                          go_wp2_with fail
                          go_roundg (nH - (fl + 1))
                          case measure => omega
                          case rel => exact ⟨fl + 1, by omega, by omega, by go_num, HI2, HBn⟩
              · have hlli : ¬ ((fl : Int) < (nH : Int)) := by omega
                obtain rfl : fl = nH := by omega
                obtain rfl : r = true := by rw [← HR.out]; exact may_ok HCO.out HG1.out fun j l hj => HI0.out j l (by have := (List.getElem?_eq_some_iff.1 hj).1; rw [HLH.out] at this; exact this) hj
                go_wp2_with fail
                go_ret
                exact ⟨rfl, HBw.out⟩
            
end Go.Proofs.YthgnjojkncodeaaGreat
