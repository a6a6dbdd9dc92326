/-
  member.New.
-/
import Derived.Test.YthgnjojkncodeaaGreatMbE
namespace Go.Proofs.YthgnjojkncodeaaGreat
open Go.RowKit
set_option linter.unusedVariables false
set_option linter.unusedSimpArgs false

theorem set_same {α : Type} (xs : List α) (j : Nat) (x : α) (h : xs[j]? = some x) : xs.set j x = xs := by
  refine List.ext_getElem? fun i => ?_
  rw [List.getElem?_set]
  by_cases hi : j = i
  · subst hi
    obtain ⟨h1, h2⟩ := List.getElem?_eq_some_iff.1 h
    simp [h1, h2]
  · simp [hi]
/-- What New tells. -/
def RetNew (w : World) (okC : Nat → Prop) (good : Bool) (nodes : Int) (flows : List Flw) (win que node : Int) (e : Ending) (w' : World) : Prop :=
  Below w.heap.size w w' ∧ ((good = false ∧ e = .returned (.tuple #[.pointer none, .int .i64 1])) ∨
    (good = true ∧ ∃ M, e = .returned (.tuple #[.pointer (some ⟨M, 0, none⟩), .int .i64 0]) ∧ w.heap.size ≤ M ∧ MB w' M (fun k => okC k ∨ (w.heap.size ≤ k ∧ k ≠ M)) nodes flows win que node 0 [] []))
def newOk (nodes : Int) (flows : List Flw) (win que node : Int) : Bool := configOk nodes flows win que && !decide (node < 0) && !decide (node ≥ nodes)
theorem config_flows {nodes : Int} {flows : List Flw} {win que : Int} (h : configOk nodes flows win que = true) : 1 ≤ flows.length ∧ flows.length ≤ 4 := by
  unfold configOk at h
  simp only [Bool.and_eq_true] at h
  have := withinB_iff.1 h.1.1.1.2
  omega
theorem config_sinks {nodes : Int} {flows : List Flw} {win que : Int} (h : configOk nodes flows win que = true) {f : Flw} (hf : f ∈ flows) : f.2.2.2.length ≤ 8 := by
  unfold configOk at h
  simp only [Bool.and_eq_true, Bool.not_eq_true', List.any_eq_false] at h
  have h1 := h.2 f hf
  unfold flowBad at h1
  simp only [Bool.or_eq_true, not_or, Bool.not_eq_true', Bool.not_eq_false] at h1
  have := withinB_iff.1 h1.2
  omega
set_option maxRecDepth 100000 in
set_option maxHeartbeats 4000000 in
theorem new_calls (w : World) (vc : Value) (nodes : Int) (flows : List Flw) (win que node : Int) (okC : Nat → Prop) (hok : ∀ k, okC k → k < w.heap.size) (hC : ConfV w okC vc nodes flows win que) (hn : inI node) :
    Calls Tryz.prog 5 #[vc, .int .i64 node] w (RetNew w okC (newOk nodes flows win que node) nodes flows win que node) := by
  obtain ⟨AF, nF, cF, rfl, hcF, hi1, hi2, hi3, hrF⟩ := hC
  obtain ⟨w1, hw1⟩ : ∃ w1, w.alloc (.cells #[.int .i64 nodes, .slice AF nF cF, .int .i64 win, .int .i64 que] 24) = w1 := ⟨_, rfl⟩
  have b1 : Below w.heap.size w w1 := by rw [← hw1]; exact (Below.refl _ _).alloc (Nat.le_refl _) _
  have hs1 : w1.heap.size = w.heap.size + 1 := by rw [← hw1]; simp
  have e1 : w1.heap[w.heap.size]? = some (.cells #[.int .i64 nodes, .slice AF nF cF, .int .i64 win, .int .i64 que] 24 (0, 0)) := by rw [← hw1]; exact heap_alloc_new w _
  have hF1 : Rd elFl w1 (fun k => k < w1.heap.size) AF nF flows := (hrF.below b1).mono fun k hk _ => by have := hok k hk; omega
  have hcf := config_calls w1 _ nodes flows win que ⟨AF, nF, cF, rfl, hcF, hi1, hi2, hi3, hF1⟩
  have c0 : w1.cell? ⟨w.heap.size, 0, none⟩ = some (.int .i64 nodes) := by simp [World.cell?, e1]
  have c1 : w1.cell? ⟨w.heap.size, 1, none⟩ = some (.slice AF nF cF) := by simp [World.cell?, e1]
  have c2 : w1.cell? ⟨w.heap.size, 2, none⟩ = some (.int .i64 win) := by simp [World.cell?, e1]
  have c3 : w1.cell? ⟨w.heap.size, 3, none⟩ = some (.int .i64 que) := by simp [World.cell?, e1]
  have hlF := hrF.len
  obtain ⟨r, hr⟩ : ∃ r, newOk nodes flows win que node = r := ⟨_, rfl⟩
  rw [hr]
  obtain ⟨rc, hrc⟩ : ∃ rc, configOk nodes flows win que = rc := ⟨_, rfl⟩
  rw [hrc] at hcf
  unfold newOk at hr
  rw [hrc] at hr
  have HW1 := Lib.hid hw1
  have HB1 := Lib.hid b1
  have HS1 := Lib.hid hs1
  have E1 := Lib.hid e1
  have HF1 := Lib.hid (hrF.below b1)
  have HLF := Lib.hid hlF
  have HRC := Lib.hid hrc
  have HR := Lib.hid hr
  clear hw1 b1 hs1 e1 hF1 hrF hlF hrc hr
  cases rc with
  | false =>
    obtain rfl : r = false := by rw [← HR.out]; rfl
    go_enter Tryz.func5, Tryz.ntmps5
    go_upto_region 1 with (fail)
    rw [HW1.out]
    go_wp2_with fail
    refine hcf.mono ?_
    rintro e w2 ⟨rfl, b2⟩
    have B2 := Lib.hid b2
    clear b2 hcf
    go_wp2_with fail
    go_ret2
    exact ⟨belowThen HB1.out HB1.out.size B2.out, .inl ⟨rfl, rfl⟩⟩
  | true =>
    by_cases hn0 : node < 0
    · have hd : decide (node < 0) = true := decide_eq_true hn0
      obtain rfl : r = false := by rw [← HR.out, hd]; rfl
      go_enter Tryz.func5, Tryz.ntmps5
      go_upto_region 1 with (fail)
      rw [HW1.out]
      go_wp2_with fail
      refine hcf.mono ?_
      rintro e w2 ⟨rfl, b2⟩
      have B2 := Lib.hid b2
      clear b2 hcf
      go_wp2_with fail
      go_ret2
      exact ⟨belowThen HB1.out HB1.out.size B2.out, .inl ⟨rfl, rfl⟩⟩
    · have hd : decide (node < 0) = false := decide_eq_false hn0
      by_cases hn1 : node ≥ nodes
      · have hd2 : decide (nodes ≤ node) = true := decide_eq_true hn1
        obtain rfl : r = false := by rw [← HR.out, hd, show decide (node ≥ nodes) = true from hd2]; rfl
        go_enter Tryz.func5, Tryz.ntmps5
        go_upto_region 1 with (fail)
        rw [HW1.out]
        go_wp2_with fail
        refine hcf.mono ?_
        rintro e w2 ⟨rfl, b2⟩
        have hs := HS1.out
        have c0' : w2.cell? ⟨w.heap.size, 0, none⟩ = some (.int .i64 nodes) := (b2.cell (p := ⟨w.heap.size, 0, none⟩) (by show w.heap.size < _; omega)).trans c0
        have B2 := Lib.hid b2
        clear b2 hcf hs
        go_wp2_with fail
        go_ret2
        exact ⟨belowThen HB1.out HB1.out.size B2.out, .inl ⟨rfl, rfl⟩⟩
      · have hd2 : decide (nodes ≤ node) = false := decide_eq_false hn1
        obtain rfl : r = true := by rw [← HR.out, hd, show decide (node ≥ nodes) = false from hd2]; rfl
        go_enter Tryz.func5, Tryz.ntmps5
        go_upto_region 1 with (fail)
        rw [HW1.out]
        go_wp2_with fail
        refine hcf.mono ?_
        rintro e w2 ⟨rfl, b2⟩
        have hs := HS1.out
        have e2 : w2.heap[w.heap.size]? = some (.cells #[.int .i64 nodes, .slice AF nF cF, .int .i64 win, .int .i64 que] 24 (0, 0)) := (b2.block _ (by omega)).trans E1.out
        have d0 : w2.cell? ⟨w.heap.size, 0, none⟩ = some (.int .i64 nodes) := by simp [World.cell?, e2]
        have d1 : w2.cell? ⟨w.heap.size, 1, none⟩ = some (.slice AF nF cF) := by simp [World.cell?, e2]
        have hs2 := b2.size
        obtain ⟨hl1, hl4⟩ := config_flows HRC.out
        have hlf := HLF.out
        have hcl := cloneF_calls w2 okC AF nF cF flows (HF1.out.below b2) (fun k hk => by have := hok k hk; omega) (by omega)
        have B2 := Lib.hid b2
        have HSS2 := Lib.hid hs2
        have E2 := Lib.hid e2
        clear b2 hcf hs e2 c0 c1 c2 c3 hs2
        go_upto_region 3 with (fail)
        go_wp2_with fail
        refine hcl.mono ?_
        rintro e w3 ⟨vF, usF, rfl, hqF, hoF, hgF, b3⟩
        obtain ⟨A3, c3, rfl, hc3⟩ := owns_shape2 hoF
        have hO3 : Own elFl 70 w3 (fun k => okC k ∨ w.heap.size < k) (.slice A3 flows.length c3) flows := Own.ofParts (E := elFl) hqF hoF (fun k _ hk => ⟨.inl hk, fun e => by
          have := hgF k e.symm
          have := hok k hk
          have hs := HS1.out
          have := HSS2.out
          omega⟩) (fun q hq => by
          have := hgF q hq
          have hs := HS1.out
          have := HSS2.out
          exact .inr (by omega))
        obtain ⟨x0, hx0⟩ : ∃ x0, flows[0]? = some x0 := ⟨_, List.getElem?_eq_getElem (by omega)⟩
        obtain ⟨g, cap, vs0, e3, _, hgl, hcap, _, _, hfr⟩ := hO3.at_ 0 x0 hx0
        injection e3 with e4 _ e5
        subst e4 e5
        have hgg : w2.heap.size ≤ g := hgF g rfl
        obtain ⟨N, hN⟩ : ∃ N, flows.length = N := ⟨_, rfl⟩
        rw [hN] at hO3 hc3
        have HN := Lib.hid hN
        have hN4 : N ≤ 4 := by omega
        rw [hN]
        have HO3 := Lib.hid hO3
        have B3 := Lib.hid (belowThen (Below.refl w2.heap.size w2) (Nat.le_refl _) b3)
        clear hcl hqF hoF hgF b3 hx0 hfr hN hl1 hl4 hlf hO3
        go_wp2_with fail
        go_loopg [27] N (fun gg s27 wr => ∃ i : Nat, i ≤ N ∧ N - i ≤ gg ∧ s27 = .int .i64 (i : Int) ∧ Hid (Own elFl 70 wr (fun k => okC k ∨ w.heap.size < k) (.slice (some ⟨g, 0, none⟩) N c3) flows) ∧ Hid (Below w2.heap.size w2 wr))
        case atStart => exact ⟨0, by omega, by omega, rfl, HO3, B3⟩
        case round =>
          clear HO3 B3
          obtain ⟨i, hi, hgi, rfl, HO, HB⟩ := hrel
          by_cases hil : i < N
          · have hili : (i : Int) < (N : Int) := by omega
            have hi0 : (0 : Int) ≤ (i : Int) := by omega
            obtain ⟨x, hx⟩ : ∃ x, flows[i]? = some x := ⟨_, List.getElem?_eq_getElem (by rw [HN.out]; exact hil)⟩
            obtain ⟨g', cap', vs, e3, _, hgl', _, hV, hcl, hfr⟩ := HO.out.at_ i x hx
            have e5 : g' = g := by have := congrArg Value.ownBlock e3; simpa [Value.ownBlock] using this.symm
            rw [e5] at hcl hfr hV hgl'
            clear e3
            have hmem : x ∈ flows := List.mem_of_getElem? hx
            have hsk := config_sinks HRC.out hmem
            obtain ⟨us, ws, rfl, ⟨rfl, j1⟩, us2, ws2, rfl, ⟨rfl, j2⟩, us3, ws3, rfl, ⟨rfl, j3⟩, C, p, q, rfl, hpq, hrI⟩ := hV
            have k0 : wr.cell? ⟨g, i * 4, none⟩ = some (.int .i64 x.1) := hcl 0 _ rfl
            have k1 : wr.cell? ⟨g, i * 4 + 1, none⟩ = some (.int .i64 x.2.1) := hcl 1 _ rfl
            have k2 : wr.cell? ⟨g, i * 4 + 2, none⟩ = some (.int .i64 x.2.2.1) := hcl 2 _ rfl
            have k3 : wr.cell? ⟨g, i * 4 + 3, none⟩ = some (.slice C p q) := hcl 3 _ rfl
            have z3 : wr.frozen? ⟨g, i * 4 + 3, none⟩ = false := hfr _
            obtain ⟨x1, x2, x3, x4⟩ := x
            simp only at k0 k1 k2 k3 j1 j2 j3 hrI hsk
            obtain ⟨wq, hwq⟩ : ∃ wq, wr.alloc (.cells #[.int .i64 x1, .int .i64 x2, .int .i64 x3, .slice C p q] 70) = wq := ⟨_, rfl⟩
            have hbq : Below wr.heap.size wr wq := by rw [← hwq]; exact (Below.refl _ _).alloc (Nat.le_refl _) _
            have hsq : wq.heap.size = wr.heap.size + 1 := by rw [← hwq]; simp
            have eq' : wq.heap[wr.heap.size]? = some (.cells #[.int .i64 x1, .int .i64 x2, .int .i64 x3, .slice C p q] 70 (0, 0)) := by rw [← hwq]; exact heap_alloc_new wr _
            have f3 : wq.cell? ⟨wr.heap.size, 3, none⟩ = some (.slice C p q) := by simp [World.cell?, eq']
            have k3' : wq.cell? ⟨g, i * 4 + 3, none⟩ = some (.slice C p q) := cellBelow hbq k3
            have hrq : Rd El.int wq (fun k => k < wq.heap.size) C p x4 := (hrI.below hbq).mono fun k _ hk => hk
            have hcall := cloneI_calls wq _ C p q x4 hrq (fun k hk => hk) (by have := hrI.len; omega)
            have HX := Lib.hid hx
            have HWQ := Lib.hid hwq
            have HBQ := Lib.hid hbq
            have HSQ := Lib.hid hsq
            have J123 := Lib.hid (And.intro j1 (And.intro j2 j3))
            clear e5 hcl hfr hx hmem hsk hwq hbq eq' hrq hrI hsq j1 j2 j3
            go_upto_region 7 with (fail)
            rw [HWQ.out]
            clear k0 k1 k2 k3
            go_wp2_with fail
            refine hcall.mono ?_
            rintro e w5 ⟨vC, usC, rfl, hqC, hoC, hgC, bC⟩
            obtain ⟨AC, cC, rfl, hcC⟩ := owns_shape2 hoC
            have hsq := HSQ.out
            have hOC : Own El.int 3 w5 (fun k => (okC k ∨ w.heap.size < k) ∧ k ≠ g) (.slice AC x4.length cC) x4 := Own.ofParts (E := El.int) (ok := fun _ => False) (hqC.flatten_ fun _ _ _ _ _ h => h) hoC (fun k _ h => h.elim) fun q hq => by
              have h1 := hgC q hq
              have h2 := HB.out.size
              have h3 := HSS2.out
              have h4 := HS1.out
              exact ⟨.inr (by omega), by omega⟩
            obtain ⟨AC', cC', eC, hcC', hrC⟩ := hOC.rd (by have := (config_sinks HRC.out (List.mem_of_getElem? HX.out)); simp only at this; omega)
            injection eC with eC1 _ eC2
            subst eC1 eC2
            have k5 : w5.cell? ⟨g, i * 4 + 3, none⟩ = some (.slice C p q) := cellBelow bC k3'
            have hO5 : Own elFl 70 w5 (fun k => okC k ∨ w.heap.size < k) (.slice (some ⟨g, 0, none⟩) N c3) flows := (HO.out.below HBQ.out).below bC
            have z5 : w5.frozen? ⟨g, i * 4 + 3, none⟩ = false := by
              obtain ⟨g', cap', vs', e3, _, _, _, _, _, hf'⟩ := hO5.at_ i (x1, x2, x3, x4) HX.out
              injection e3 with e4 _ _
              injection Option.some.inj e4 with e5
              subst e5
              exact hf' _
            have hO6 : Own elFl 70 (w5.setCell ⟨g, i * 4 + 3, none⟩ (.slice AC x4.length cC)) (fun k => okC k ∨ w.heap.size < k) (.slice (some ⟨g, 0, none⟩) N c3) flows := by
              have hst := Own.store (g := g) (cap := c3) (E := elFl) (T := 70) (xs := flows) (w := w5) (S := fun k => okC k ∨ w.heap.size < k) (by rw [HN.out]; exact hO5) i 3 (.slice AC x4.length cC) (x1, x2, x3, x4) (x1, x2, x3, x4) HX.out (by decide) (by
                rintro vs ⟨us, ws, rfl, ⟨rfl, q1⟩, us2, ws2, rfl, ⟨rfl, q2⟩, us3, ws3, rfl, ⟨rfl, q3⟩, C2, p2, q2', rfl, _, _⟩
                exact ⟨[_], _, rfl, ⟨rfl, q1⟩, [_], _, rfl, ⟨rfl, q2⟩, [_], _, rfl, ⟨rfl, q3⟩, _, _, _, rfl, hcC', hrC.mono fun k hk _ => hk⟩)
              rw [set_same flows i _ HX.out, HN.out] at hst
              exact hst
            have B6 := Lib.hid ((Chg.set w5 ⟨g, i * 4 + 3, none⟩ (.slice AC x4.length cC)).below (belowThen (belowThen HB.out HB.out.size HBQ.out) (by have := HB.out.size; omega) bC) (by have := HB.out.size; have := bC.size; omega) fun k hk => by have e : k = g := hk; omega)
            have HO6 := Lib.hid hO6
            clear hcall hqC hoC hgC bC hOC hrC hO5 hO6 hsq hgl'
            go_wp2_with fail
            go_roundg (N - (i + 1))
            case measure => omega
            case rel => exact ⟨i + 1, by omega, by omega, by go_num, HO6, B6⟩
          · have hili : ¬ ((i : Int) < (N : Int)) := by omega
            have e2 := E2.out
            have hs2 := HSS2.out
            have hs1 := HS1.out
            have er : wr.heap[w.heap.size]? = some (.cells #[.int .i64 nodes, .slice AF nF cF, .int .i64 win, .int .i64 que] 24 (0, 0)) := (HB.out.block _ (by omega)).trans e2
            have q0 : wr.cell? ⟨w.heap.size, 0, none⟩ = some (.int .i64 nodes) := by simp [World.cell?, er]
            have q1 : wr.cell? ⟨w.heap.size, 1, none⟩ = some (.slice AF nF cF) := by simp [World.cell?, er]
            have q2 : wr.cell? ⟨w.heap.size, 2, none⟩ = some (.int .i64 win) := by simp [World.cell?, er]
            have q3 : wr.cell? ⟨w.heap.size, 3, none⟩ = some (.int .i64 que) := by simp [World.cell?, er]
            have z1 : wr.frozen? ⟨w.heap.size, 1, none⟩ = false := by simp [World.frozen?, er]
            obtain ⟨ws, hws⟩ : ∃ ws, wr.setCell ⟨w.heap.size, 1, none⟩ (.slice (some ⟨g, 0, none⟩) N c3) = ws := ⟨_, rfl⟩
            have hcs : Chg (fun k => k = w.heap.size) wr ws := by rw [← hws]; exact Chg.set wr ⟨w.heap.size, 1, none⟩ _
            have es : ws.heap[w.heap.size]? = some (.cells #[.int .i64 nodes, .slice (some ⟨g, 0, none⟩) N c3, .int .i64 win, .int .i64 que] 24 (0, 0)) := by rw [← hws]; simp [World.setCell, Array.getElem?_modify, er]
            have t0 : ws.cell? ⟨w.heap.size, 0, none⟩ = some (.int .i64 nodes) := by simp [World.cell?, es]
            have t1 : ws.cell? ⟨w.heap.size, 1, none⟩ = some (.slice (some ⟨g, 0, none⟩) N c3) := by simp [World.cell?, es]
            have t2 : ws.cell? ⟨w.heap.size, 2, none⟩ = some (.int .i64 win) := by simp [World.cell?, es]
            have t3 : ws.cell? ⟨w.heap.size, 3, none⟩ = some (.int .i64 que) := by simp [World.cell?, es]
            have hrs : Rd elFl ws (fun k => okC k ∨ w.heap.size < k) (some ⟨g, 0, none⟩) N flows := by
              have hO := HO.out
              rw [← HN.out] at hO
              obtain ⟨A', c', e', _, hR⟩ := hO.rd (by rw [HN.out]; omega)
              injection e' with e1 _ e2
              subst e1 e2
              rw [HN.out] at hR
              exact hR.chg hcs fun k _ hk e => by
                have e : k = w.heap.size := e
                rcases hk with hk | hk
                · have := hok k hk; omega
                · omega
            have HBS := Lib.hid (hcs.below (belowThen HB1.out HB1.out.size (belowThen B2.out B2.out.size HB.out)) (by have := HB.out.size; omega) fun k hk => by omega)
            have HWS := Lib.hid hws
            have HRS := Lib.hid hrs
            clear er e2 hs2 hs1 hws hcs es hrs
            go_upto_region 10 with (fail)
            rw [HWS.out]
            clear q0 q1 q2 q3 z1
            go_wp2_with fail
            go_ret2
            have hbl := heap_alloc_new ws (.cells #[.int .i64 nodes, .slice (some ⟨g, 0, none⟩) N c3, .int .i64 win, .int .i64 que, .int .i64 node, .int .u64 0, .slice none 0 0, .slice none 0 0, .bool true] 73)
            have hba : Below ws.heap.size ws (ws.alloc (.cells #[.int .i64 nodes, .slice (some ⟨g, 0, none⟩) N c3, .int .i64 win, .int .i64 que, .int .i64 node, .int .u64 0, .slice none 0 0, .slice none 0 0, .bool true] 73)) := (Below.refl _ _).alloc (Nat.le_refl _) _
            refine ⟨belowThen HBS.out HBS.out.size hba, .inr ⟨rfl, ws.heap.size, rfl, HBS.out.size, ⟨⟨_, _, _, _, _, _, _, _, _, hbl, hc3, Nat.le_refl _, Nat.le_refl _, ((HRS.out.mono (ok' := fun k => okC k ∨ (w.heap.size ≤ k ∧ k ≠ ws.heap.size)) fun k hk hl => hk.imp_right fun h => ⟨by omega, by omega⟩).below hba), Rd.nil _ _ _ _, Rd.nil _ _ _ _⟩, ⟨hi1, hi2, hi3, hn⟩, (fun hh => hh.elim (fun h => by have := hok _ h; have := HBS.out.size; omega) fun h => h.2 rfl), (fun l hl => (by cases hl)), by decide⟩⟩⟩
end Go.Proofs.YthgnjojkncodeaaGreat
