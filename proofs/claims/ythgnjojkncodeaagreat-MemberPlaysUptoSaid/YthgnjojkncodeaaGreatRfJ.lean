/-
  The document's member: New, Take, Of. Printed by gen_rfi.py. The document's member: Of. Printed by gen_rfj.py.
-/
import Derived.Test.YthgnjojkncodeaaGreatRfH
import Derived.Deep.CutBlock
import Derived.Deep.QuietTactic
import Derived.BigQuiet
import Derived.Deep.RegionHeld3
import Derived.Test.YthgnjojkncodeaaGreatMbI
namespace Go.Proofs.YthgnjojkncodeaaGreat
open Go.RowKit
set_option linter.unusedVariables false
set_option linter.unusedSimpArgs false

def RetRNew (w : World) (ok : Nat → Prop) (nodes : Int) (flows : List Flw) (win que node : Int) (e : Ending) (w' : World) : Prop :=
  Below w.heap.size w w' ∧ ((newOk nodes flows win que node = false ∧ e = .returned (.tuple #[.pointer none, .int .i64 1])) ∨
    (newOk nodes flows win que node = true ∧ ∃ R, e = .returned (.tuple #[.pointer (some ⟨R, 0, none⟩), .int .i64 0]) ∧ w.heap.size ≤ R ∧ RB w' R ok nodes flows win que node 0 [] []))
set_option maxHeartbeats 2000000 in
theorem rmnew_calls (w : World) (ok : Nat → Prop) (vc : Value) (nodes : Int) (flows : List Flw) (win que node : Int) (hC : ConfV w ok vc nodes flows win que) (hn : inI node) :
    Calls Tryz.prog 6 #[vc, .int .i64 node] w (RetRNew w ok nodes flows win que node) := by
  obtain ⟨A, n, c, rfl, hnc, hi1, hi2, hi3, hrd⟩ := hC
  obtain ⟨w1, hw1⟩ : ∃ w1, w.alloc (.cells #[.int .i64 nodes, .slice A n c, .int .i64 win, .int .i64 que] 24) = w1 := ⟨_, rfl⟩
  have b1 : Below w.heap.size w w1 := by rw [← hw1]; exact (Below.refl _ _).alloc (Nat.le_refl _) _
  have e1 : w1.heap[w.heap.size]? = some (.cells #[.int .i64 nodes, .slice A n c, .int .i64 win, .int .i64 que] 24 (0, 0)) := by rw [← hw1]; exact heap_alloc_new w _
  obtain ⟨P, hP⟩ : ∃ P, w.heap.size = P := ⟨_, rfl⟩
  rw [hP] at e1
  have c0 : w1.cell? ⟨P, 0, none⟩ = some (.int .i64 nodes) := by simp [World.cell?, e1]
  have c1 : w1.cell? ⟨P, 1, none⟩ = some (.slice A n c) := by simp [World.cell?, e1]
  have c2 : w1.cell? ⟨P, 2, none⟩ = some (.int .i64 win) := by simp [World.cell?, e1]
  have c3 : w1.cell? ⟨P, 3, none⟩ = some (.int .i64 que) := by simp [World.cell?, e1]
  have hcf := rconfig_calls w1 ok (.agg #[.int .i64 nodes, .slice A n c, .int .i64 win, .int .i64 que]) nodes flows win que ⟨_, _, _, rfl, hnc, hi1, hi2, hi3, hrd.below b1⟩
  have HRD := Lib.hid (hrd.below b1)
  have HB1 := Lib.hid b1
  have HW1 := Lib.hid hw1
  have HP := Lib.hid hP
  have HI := Lib.hid (And.intro hi1 (And.intro hi2 (And.intro hi3 (And.intro hn hnc))))
  clear hw1 b1 e1 hrd hP hi1 hi2 hi3 hn
  go_enter Tryz.func6, Tryz.ntmps6
  go_upto_region 1 with (fail)
  rw [HW1.out]
  try rw [HP.out]
  cases hco : configOk nodes flows win que with
  | false =>
    rw [hco] at hcf
    have HN : Hid (newOk nodes flows win que node = false) := Lib.hid (by unfold newOk; rw [hco]; rfl)
    clear hco
    go_wp2_with fail
    refine hcf.mono ?_
    rintro e w3 ⟨rfl, b3⟩
    clear hcf
    go_wp2_with fail
    go_ret2
    exact ⟨belowThen HB1.out HB1.out.size b3, .inl ⟨HN.out, rfl⟩⟩
  | true =>
    rw [hco] at hcf
    have HCO := Lib.hid hco
    have hn64 := (config_nodes hco).2
    clear hco
    by_cases h0 : node < 0
    · have d0 : decide (node < 0) = true := decide_eq_true h0
      have HN : Hid (newOk nodes flows win que node = false) := Lib.hid (by unfold newOk; rw [d0]; simp)
      clear h0
      go_wp2_with fail
      refine hcf.mono ?_
      rintro e w3 ⟨rfl, b3⟩
      clear hcf
      go_wp2_with fail
      go_ret2
      exact ⟨belowThen HB1.out HB1.out.size b3, .inl ⟨HN.out, rfl⟩⟩
    · have d0 : decide (node < 0) = false := decide_eq_false h0
      by_cases h1 : node ≥ nodes
      · have d1 : decide (node ≥ nodes) = true := decide_eq_true h1
        have d2 : decide (nodes ≤ node) = true := decide_eq_true h1
        have HN : Hid (newOk nodes flows win que node = false) := Lib.hid (by unfold newOk; rw [d1]; simp)
        clear h0 h1
        go_wp2_with fail
        refine hcf.mono ?_
        rintro e w3 ⟨rfl, b3⟩
        have k0 := cellBelow b3 c0
        clear hcf
        go_wp2_with fail
        go_ret2
        exact ⟨belowThen HB1.out HB1.out.size b3, .inl ⟨HN.out, rfl⟩⟩
      · have d1 : decide (node ≥ nodes) = false := decide_eq_false h1
        have d2 : decide (nodes ≤ node) = false := decide_eq_false h1
        have HN : Hid (newOk nodes flows win que node = true) := Lib.hid (by unfold newOk; rw [HCO.out, d0, d1]; rfl)
        clear h0 h1
        go_wp2_with fail
        refine hcf.mono ?_
        rintro e w3 ⟨rfl, b3⟩
        have k0 := cellBelow b3 c0
        have k1 := cellBelow b3 c1
        have k2 := cellBelow b3 c2
        have k3 := cellBelow b3 c3
        have HB3 := Lib.hid (belowThen HB1.out HB1.out.size b3)
        have HR3 := Lib.hid (HRD.out.below b3)
        obtain ⟨w4, hw4⟩ : ∃ w4, w3.alloc (.cells #[.int .i64 nodes, .slice A n c, .int .i64 win, .int .i64 que, .int .i64 node, .int .u64 0, .slice none 0 0, .slice none 0 0] 59) = w4 := ⟨_, rfl⟩
        have b4 : Below w3.heap.size w3 w4 := by rw [← hw4]; exact (Below.refl _ _).alloc (Nat.le_refl _) _
        have HE4 : Hid (w4.heap[w3.heap.size]? = some (.cells #[.int .i64 nodes, .slice A n c, .int .i64 win, .int .i64 que, .int .i64 node, .int .u64 0, .slice none 0 0, .slice none 0 0] 59 (0, 0))) := Lib.hid (by rw [← hw4]; exact heap_alloc_new w3 _)
        have HW4 := Lib.hid hw4
        have HB4 := Lib.hid b4
        clear hcf b3 c0 c1 c2 c3 hw4 b4
        go_wp2_with fail
        try rw [HW4.out]
        go_ret2
        obtain ⟨i1, i2, i3, i4, i5⟩ := HI.out
        refine ⟨belowThen HB3.out HB3.out.size HB4.out, .inr ⟨HN.out, _, rfl, HB3.out.size, ⟨⟨_, _, _, _, _, _, _, _, _, HE4.out, i5, Nat.le_refl _, Nat.le_refl _, HR3.out.below HB4.out, Rd.nil _ _ _ _, Rd.nil _ _ _ _⟩, ⟨i1, i2, i3, i4, hn64⟩, fun l hl => by cases hl⟩⟩⟩
theorem RB.take {w : World} {R : Nat} {ok : Nat → Prop} {nodes win que node ep : Int} {flows : List Flw} {up : List Bool} {hops : List (List Ed)} (h : RB w R ok nodes flows win que node ep up hops) (hok : ¬ ok R) {ep2 : Int} {up2 : List Bool} {hops2 : List (List Ed)} {AU AH : Option Addr} {nU cU nH cH : Nat}
    (hf : Few hops2) (hT : TopoV w ok (.agg #[.int .u64 ep2, .slice AU nU cU, .slice AH nH cH]) ep2 up2 hops2) :
    RB (((w.setCell ⟨R, 5, none⟩ (.int .u64 ep2)).setCell ⟨R, 6, none⟩ (.slice AU nU cU)).setCell ⟨R, 7, none⟩ (.slice AH nH cH)) R ok nodes flows win que node ep2 up2 hops2 ∧ Chg (fun k => k = R) w (((w.setCell ⟨R, 5, none⟩ (.int .u64 ep2)).setCell ⟨R, 6, none⟩ (.slice AU nU cU)).setCell ⟨R, 7, none⟩ (.slice AH nH cH)) := by
  obtain ⟨AF, nF, cF, AU', nU', cU', AH', nH', cH', hb, b1, _, _, r1, _, _⟩ := h.b
  obtain ⟨_, _, _, _, _, _, e, g1, g2, g3, g4⟩ := hT
  injection e with e
  simp only [Array.mk.injEq, List.cons.injEq, Value.slice.injEq, and_true, true_and] at e
  obtain ⟨⟨rfl, rfl, rfl⟩, rfl, rfl, rfl⟩ := e
  have hc : Chg (fun k => k = R) w (((w.setCell ⟨R, 5, none⟩ (.int .u64 ep2)).setCell ⟨R, 6, none⟩ (.slice AU nU cU)).setCell ⟨R, 7, none⟩ (.slice AH nH cH)) :=
    ((Chg.set w ⟨R, 5, none⟩ _).trans (Chg.set _ ⟨R, 6, none⟩ _) fun _ _ h => h).trans (Chg.set _ ⟨R, 7, none⟩ _) fun _ _ h => h
  have hn : ∀ b, b < w.heap.size → ok b → ¬ b = R := fun b _ hb e => hok (by rw [← e]; exact hb)
  refine ⟨⟨⟨AF, nF, cF, AU, nU, cU, AH, nH, cH, ?_, b1, g1, g2, r1.chg hc hn, g3.chg hc hn, g4.chg hc hn⟩, h.i, hf⟩, hc⟩
  simp [World.setCell, Array.getElem?_modify, hb]
def RetRTake (w : World) (R : Nat) (ok : Nat → Prop) (nodes : Int) (flows : List Flw) (win que node ep ep2 : Int) (up2 : List Bool) (hops2 : List (List Ed)) (e : Ending) (w' : World) : Prop :=
  (mayOk nodes flows win que ep2 up2 hops2 = false ∧ e = .returned (.int .i64 1) ∧ Below w.heap.size w w') ∨
  (mayOk nodes flows win que ep2 up2 hops2 = true ∧ ep2 ≤ ep ∧ e = .returned (.int .i64 22) ∧ Below w.heap.size w w') ∨
  (mayOk nodes flows win que ep2 up2 hops2 = true ∧ ep < ep2 ∧ e = .returned (.int .i64 0) ∧ Chg (fun k => k = R) w w' ∧ RB w' R ok nodes flows win que node ep2 up2 hops2)
set_option maxHeartbeats 4000000 in
theorem rmtake_calls (w : World) (R : Nat) (ok : Nat → Prop) (nodes : Int) (flows : List Flw) (win que node ep : Int) (up : List Bool) (hops : List (List Ed)) (h : RB w R ok nodes flows win que node ep up hops) (hok : ¬ ok R)
    (vt : Value) (ep2 : Int) (up2 : List Bool) (hops2 : List (List Ed)) (hT : TopoV w ok vt ep2 up2 hops2) (hf : Few hops2) (he0 : 0 ≤ ep2) :
    Calls Tryz.prog 9 #[.pointer (some ⟨R, 0, none⟩), vt] w (RetRTake w R ok nodes flows win que node ep ep2 up2 hops2) := by
  obtain ⟨A, n, c, B, m, d, rfl, g1, g2, g3, g4⟩ := hT
  obtain ⟨w1, hw1⟩ : ∃ w1, w.alloc (.cells #[.int .u64 ep2, .slice A n c, .slice B m d] 38) = w1 := ⟨_, rfl⟩
  have b1 : Below w.heap.size w w1 := by rw [← hw1]; exact (Below.refl _ _).alloc (Nat.le_refl _) _
  have e1 : w1.heap[w.heap.size]? = some (.cells #[.int .u64 ep2, .slice A n c, .slice B m d] 38 (0, 0)) := by rw [← hw1]; exact heap_alloc_new w _
  obtain ⟨P, hP⟩ : ∃ P, w.heap.size = P := ⟨_, rfl⟩
  have hRP : R < P := by rw [← hP]; exact h.lt
  rw [hP] at e1
  have HR1 := Lib.hid (h.below b1)
  have HT1 : Hid (TopoV w1 ok (.agg #[.int .u64 ep2, .slice A n c, .slice B m d]) ep2 up2 hops2) := Lib.hid ⟨_, _, _, _, _, _, rfl, g1, g2, g3.below b1, g4.below b1⟩
  obtain ⟨AF, nF, cF, AU, nU, cU, AH, nH, cH, hF, hnc, _, _, rF, _, _⟩ := HR1.out.facts
  have r0 := hF.c0
  have r1 := hF.c1
  have r2 := hF.c2
  have r3 := hF.c3
  have r5 := hF.c5
  have t0 : w1.cell? ⟨P, 0, none⟩ = some (.int .u64 ep2) := by simp [World.cell?, e1]
  have t1 : w1.cell? ⟨P, 1, none⟩ = some (.slice A n c) := by simp [World.cell?, e1]
  have t2 : w1.cell? ⟨P, 2, none⟩ = some (.slice B m d) := by simp [World.cell?, e1]
  obtain ⟨i1, i2, i3, _, _⟩ := h.i
  have hmy := rmay_calls w1.drew ok (.agg #[.int .i64 nodes, .slice AF nF cF, .int .i64 win, .int .i64 que]) (.agg #[.int .u64 ep2, .slice A n c, .slice B m d]) nodes flows win que ep2 up2 hops2 ⟨_, _, _, rfl, hnc, i1, i2, i3, rF.below (Below.refl _ _).drew⟩ (HT1.out.below (Below.refl _ _).drew) he0 hf
  obtain ⟨mb, hmb⟩ : ∃ mb, mayOk nodes flows win que ep2 up2 hops2 = mb := ⟨_, rfl⟩
  rw [hmb] at hmy
  have HMB := Lib.hid hmb
  have HB1 := Lib.hid b1
  have HW1 := Lib.hid hw1
  have HP := Lib.hid hP
  have HFW := Lib.hid hf
  have HOK := Lib.hid hok
  have hPl : P < w1.heap.size := (Array.getElem?_eq_some_iff.1 e1).1
  clear hmb hw1 b1 e1 hP h hF rF g3 g4 hf hok i1 i2 i3
  go_enter Tryz.func9, Tryz.ntmps9
  go_upto_region 1 with (fail)
  rw [HW1.out]
  try rw [HP.out]
  go_region_held3 (fun w' => w'.cell? ⟨R, 0, none⟩ = some (.int .i64 nodes) ∧ w'.cell? ⟨R, 1, none⟩ = some (.slice AF nF cF) ∧ w'.cell? ⟨R, 2, none⟩ = some (.int .i64 win) ∧ w'.cell? ⟨R, 3, none⟩ = some (.int .i64 que) ∧
      w'.cell? ⟨P, 0, none⟩ = some (.int .u64 ep2) ∧ w'.cell? ⟨P, 1, none⟩ = some (.slice A n c) ∧ w'.cell? ⟨P, 2, none⟩ = some (.slice B m d))
    (first | exact ⟨r0, r1, r2, r3, t0, t1, t2⟩ | exact ⟨cellBelow B2.out r0, cellBelow B2.out r1, cellBelow B2.out r2, cellBelow B2.out r3, cellBelow B2.out t0, cellBelow B2.out t1, cellBelow B2.out t2⟩)
    (first | (go_at_call 36; (with_reducible refine hmy.mono ?_); rintro e w2 ⟨rfl, b2⟩; have B2 := Lib.hid (stepB1 b2); clear b2))
  have HB2 := Lib.hid (belowThen HB1.out HB1.out.size B2.out)
  have HR2 := Lib.hid (HR1.out.below B2.out)
  have HT2 := Lib.hid (HT1.out.below B2.out)
  have s0 := cellBelow B2.out t0
  have s1 := cellBelow B2.out t1
  have s2 := cellBelow B2.out t2
  have s5 := cellBelow B2.out r5
  clear hmy r0 r1 r2 r3 r5 t0 t1 t2
  cases mb with
  | false =>
    go_wp2_with fail
    go_ret
    exact .inl ⟨HMB.out, rfl, HB2.out⟩
  | true =>
    by_cases hle : ep2 ≤ ep
    · have d1 : decide (ep2 ≤ ep) = true := decide_eq_true hle
      have HLE := Lib.hid hle
      clear hle
      go_upto_region 3 with (fail)
      go_quiet (fail)
      go_wp2_with fail
      go_ret
      exact .inr (.inl ⟨HMB.out, HLE.out, rfl, belowDrewN HB2.out _⟩)
    · have d1 : decide (ep2 ≤ ep) = false := decide_eq_false hle
      have HLE := Lib.hid (show ep < ep2 by omega)
      clear hle
      go_upto_region 3 with (fail)
      go_quiet (fail)
      have HR3 := Lib.hid ((HR2.out.drewN nq).take HOK.out HFW.out (HT2.out.below (belowDrewN (Below.refl _ _) nq)))
      have fz : ∀ i, w2.frozen? ⟨R, i, none⟩ = false := by
        obtain ⟨_, _, _, _, _, _, _, _, _, hF2, _⟩ := HR2.out.facts
        exact hF2.fr
      have z5 := fz 5
      have z6 := fz 6
      have z7 := fz 7
      obtain ⟨_, _, _, AU3, nU3, cU3, AH3, nH3, cH3, hF2, _⟩ := HR2.out.facts
      have y6 := hF2.c6
      have y7 := hF2.c7
      clear fz hF2
      go_wp2_with fail
      go_ret
      refine .inr (.inr ⟨HMB.out, HLE.out, rfl, ?_, HR3.out.1⟩)
      exact (Chg.ofBelow (belowDrewN HB2.out nq)).trans HR3.out.2 fun k _ h => h
end Go.Proofs.YthgnjojkncodeaaGreat
namespace Go.Proofs.YthgnjojkncodeaaGreat
open Go.RowKit
set_option linter.unusedVariables false
set_option linter.unusedSimpArgs false

theorem of6a {flows : List Flw} {node ep : Int} {hops : List (List Ed)} {kind frm dst fep flow : Int} (h : knownB kind = false) : ofRes flows node ep hops kind frm dst fep flow = 6 := by unfold ofRes; rw [if_pos (.inl h)]
theorem of6b {flows : List Flw} {node ep : Int} {hops : List (List Ed)} {kind frm dst fep flow : Int} (h : dst ≠ node) : ofRes flows node ep hops kind frm dst fep flow = 6 := by unfold ofRes; rw [if_pos (.inr (.inl h))]
theorem of6c {flows : List Flw} {node ep : Int} {hops : List (List Ed)} {kind frm dst fep flow : Int} (h : flowB kind flow flows.length = false) : ofRes flows node ep hops kind frm dst fep flow = 6 := by unfold ofRes; rw [if_pos (.inr (.inr h))]
theorem of22 {flows : List Flw} {node ep : Int} {hops : List (List Ed)} {kind frm dst fep flow : Int} (h1 : knownB kind = true) (h2 : dst = node) (h3 : flowB kind flow flows.length = true) (h4 : fep ≠ ep ∨ fep = 0) : ofRes flows node ep hops kind frm dst fep flow = 22 := by
  unfold ofRes
  rw [if_neg (fun hh => hh.elim (fun h => by rw [h1] at h; cases h) fun hh => hh.elim (fun h => h h2) fun h => by rw [h3] at h; cases h), if_pos h4]
theorem of_end {flows : List Flw} {node ep : Int} {hops : List (List Ed)} {kind frm dst fep flow : Int} {b : Bool} (h1 : knownB kind = true) (h2 : dst = node) (h3 : flowB kind flow flows.length = true) (h4 : fep = ep) (h5 : fep ≠ 0) (hb : isB hops node kind frm flow = b) : ofRes flows node ep hops kind frm dst fep flow = if b = true then 0 else 6 := by
  unfold ofRes
  rw [if_neg (fun hh => hh.elim (fun h => by rw [h1] at h; cases h) fun hh => hh.elim (fun h => h h2) fun h => by rw [h3] at h; cases h), if_neg (fun hh => hh.elim (fun h => h h4) fun h => h5 h), hb]
theorem isB_e1 (hops : List (List Ed)) (node frm flow : Int) {kind : Int} (hk : kind = 1 ∨ kind = 6) : isB hops node kind frm flow = decide ((frm, node) ∈ edgesOf hops flow) := by
  unfold isB
  rw [if_pos hk, Bool.eq_iff_iff, List.contains_iff_mem, prev_in, decide_eq_true_iff]
theorem isB_e2 (hops : List (List Ed)) (node frm flow : Int) : isB hops node 2 frm flow = decide ((node, frm) ∈ edgesOf hops flow) := by
  unfold isB
  rw [if_neg (by decide), if_pos rfl, Bool.eq_iff_iff, List.contains_iff_mem, next_in, decide_eq_true_iff]
theorem any_iffE {hops : List (List Ed)} {x y : Int} {n : Nat} : anyE hops x y n = true ↔ ∃ i, i < n ∧ (x, y) ∈ edgesOf hops (i : Int) := by
  unfold anyE
  rw [List.any_eq_true]
  constructor
  · rintro ⟨i, hi, h⟩; exact ⟨i, List.mem_range.1 hi, of_decide_eq_true h⟩
  · rintro ⟨i, hi, h⟩; exact ⟨i, List.mem_range.2 hi, decide_eq_true h⟩
theorem nexts_memE (hops : List (List Ed)) (x y : Int) : y ∈ nextsOf hops x ↔ anyE hops x y hops.length = true := by
  rw [any_iffE]
  unfold nextsOf
  rw [all_in]
  constructor
  · rintro ⟨i, hi, h⟩; exact ⟨i, hi, next_in.1 h⟩
  · rintro ⟨i, hi, h⟩; exact ⟨i, hi, next_in.2 h⟩
theorem prevs_memE (hops : List (List Ed)) (x y : Int) : x ∈ prevsOf hops y ↔ anyE hops x y hops.length = true := by
  rw [any_iffE]
  unfold prevsOf
  rw [all_in]
  constructor
  · rintro ⟨i, hi, h⟩; exact ⟨i, hi, prev_in.1 h⟩
  · rintro ⟨i, hi, h⟩; exact ⟨i, hi, prev_in.2 h⟩
theorem isB_e3 (hops : List (List Ed)) (node frm flow : Int) : isB hops node 3 frm flow = anyE hops node frm hops.length := by
  unfold isB
  rw [if_neg (by decide), if_neg (by decide), if_pos rfl, Bool.eq_iff_iff, List.contains_iff_mem, nexts_memE]
theorem isB_e4 (hops : List (List Ed)) (node frm flow : Int) : isB hops node 4 frm flow = anyE hops frm node hops.length := by
  unfold isB
  rw [if_neg (by decide), if_neg (by decide), if_neg (by decide), Bool.eq_iff_iff, List.contains_iff_mem, prevs_memE]
theorem quietA {P : Program} {f : FuncId} {args : Array Value} {w : World} {a n : Nat} {v : Value}
    (h : Calls P f args (w.drewN (a + n)) fun e w' => e = .returned v ∧ w.drewN (a + n) = w') : Calls P f args (w.drewN (a + n)) fun e w'' => e = .returned v ∧ ∃ m, w'' = w.drewN (a + m) :=
  h.mono fun _ _ ⟨he, hm⟩ => ⟨he, n, hm.symm⟩
theorem flowB_in2 {kind flow : Int} {n : Nat} (h1 : flow < (n : Int)) (h0 : 0 ≤ flow) : flowB kind flow n = true := by
  unfold flowB
  rw [decide_eq_true h0, decide_eq_true h1]
  simp
theorem flowB_no {kind flow : Int} {n : Nat} (hk : (kind == 3 || kind == 4) = false) (h : flow < 0 ∨ flow ≥ (n : Int)) : flowB kind flow n = false := by
  unfold flowB
  rw [hk]
  rcases h with h | h
  · rw [decide_eq_false (by omega : ¬ 0 ≤ flow)]; rfl
  · rw [decide_eq_false (by omega : ¬ flow < (n : Int))]; simp
set_option maxRecDepth 100000 in
set_option maxHeartbeats 8000000 in
theorem rmof_calls (w : World) (R : Nat) (ok : Nat → Prop) (nodes : Int) (flows : List Flw) (win que node ep : Int) (up : List Bool) (hops : List (List Ed)) (h : RB w R ok nodes flows win que node ep up hops)
    (fr : FrR) (kind frm dst fep flow : Int) (hf : inI flow) :
    Calls Tryz.prog 12 #[.pointer (some ⟨R, 0, none⟩), fr.val kind frm dst fep flow] w fun e w' => e = .returned (.int .i64 (ofRes flows node ep hops kind frm dst fep flow)) ∧ Below w.heap.size w w' := by
  obtain ⟨life, gen, seq, fo, te, A, nA, cA, B, nB, cB, C, nC, cC, D, nD, cD, E, nE, cE⟩ := fr
  unfold FrR.val
  simp only
  obtain ⟨r, hr⟩ : ∃ r, ofRes flows node ep hops kind frm dst fep flow = r := ⟨_, rfl⟩
  rw [hr]
  have HR := Lib.hid hr
  obtain ⟨w1, hw1⟩ : ∃ w1, w.alloc (.cells #[.int .i64 kind, .int .i64 frm, .int .i64 dst, .int .u64 fep, .int .u64 life, .int .i64 flow, .int .u64 gen, .int .u64 seq, .int .u64 fo, .slice A nA cA, .slice B nB cB, .slice C nC cC, .int .u64 te, .slice D nD cD, .slice E nE cE] 44) = w1 := ⟨_, rfl⟩
  have b1 : Below w.heap.size w w1 := by rw [← hw1]; exact (Below.refl _ _).alloc (Nat.le_refl _) _
  have e1 : w1.heap[w.heap.size]? = some (.cells #[.int .i64 kind, .int .i64 frm, .int .i64 dst, .int .u64 fep, .int .u64 life, .int .i64 flow, .int .u64 gen, .int .u64 seq, .int .u64 fo, .slice A nA cA, .slice B nB cB, .slice C nC cC, .int .u64 te, .slice D nD cD, .slice E nE cE] 44 (0, 0)) := by rw [← hw1]; exact heap_alloc_new w _
  obtain ⟨P, hP⟩ : ∃ P, w.heap.size = P := ⟨_, rfl⟩
  rw [hP] at e1
  have f0 : w1.cell? ⟨P, 0, none⟩ = some (.int .i64 kind) := by simp [World.cell?, e1]
  have f1 : w1.cell? ⟨P, 1, none⟩ = some (.int .i64 frm) := by simp [World.cell?, e1]
  have f2 : w1.cell? ⟨P, 2, none⟩ = some (.int .i64 dst) := by simp [World.cell?, e1]
  have f3 : w1.cell? ⟨P, 3, none⟩ = some (.int .u64 fep) := by simp [World.cell?, e1]
  have f5 : w1.cell? ⟨P, 5, none⟩ = some (.int .i64 flow) := by simp [World.cell?, e1]
  have HM := Lib.hid (h.below b1)
  obtain ⟨AF, nF, cF, AU, nU, cU, AH, nH, cH, hF, _, _, _, rF, _, _⟩ := HM.out.facts
  have r1 := hF.c1
  have r4 := hF.c4
  have r5 := hF.c5
  have HL := Lib.hid rF.len
  have hPl : P < w1.heap.size := (Array.getElem?_eq_some_iff.1 e1).1
  have hRl := HM.out.lt
  have HB1 := Lib.hid b1
  have HW1 := Lib.hid hw1
  have HP := Lib.hid hP
  clear hr hw1 b1 e1 hP h hF rF
  go_enter Tryz.func12, Tryz.ntmps12
  go_upto_region 1 with (fail)
  rw [HW1.out]
  try rw [HP.out]
  by_cases k1 : kind = 1
  · subst k1
    as_aux_lemma =>
      by_cases hd : dst = node
      · have d1 : (dst == node) = true := beq_iff_eq.2 hd
        have d2 : (dst != node) = false := by simp [hd]
        have HD := Lib.hid hd
        clear hd
        by_cases l0 : flow < 0
        · have d6 : decide (flow < 0) = true := decide_eq_true l0
          obtain rfl : r = 6 := by rw [← HR.out]; exact of6c (flowB_no rfl (.inl l0))
          clear l0
          go_upto_region 4 with (fail)
          go_quiet (fail)
          go_wp2_with fail
          go_ret
          exact ⟨rfl, by first | exact HB1.out | exact belowDrewN HB1.out _ | exact belowDrewN (belowDrewN HB1.out _) _ | exact belowDrewN (belowDrewN (belowDrewN HB1.out _) _) _⟩
        · have d6 : decide (flow < 0) = false := decide_eq_false l0
          by_cases l1 : flow ≥ (nF : Int)
          · have d7 : decide (flow ≥ (nF : Int)) = true := decide_eq_true l1
            have d8 : decide ((nF : Int) ≤ flow) = true := decide_eq_true l1
            obtain rfl : r = 6 := by rw [← HR.out]; exact of6c (flowB_no rfl (.inr (by rw [HL.out]; exact l1)))
            clear l0 l1
            go_upto_region 4 with (fail)
            go_quiet (fail)
            go_wp2_with fail
            go_ret
            exact ⟨rfl, by first | exact HB1.out | exact belowDrewN HB1.out _ | exact belowDrewN (belowDrewN HB1.out _) _ | exact belowDrewN (belowDrewN (belowDrewN HB1.out _) _) _⟩
          · have d7 : decide (flow ≥ (nF : Int)) = false := decide_eq_false l1
            have d8 : decide ((nF : Int) ≤ flow) = false := decide_eq_false l1
            have HFB : Hid (flowB 1 flow flows.length = true) := Lib.hid (flowB_in2 (by rw [HL.out]; omega) (by omega))
            go_upto_region 4 with (fail)
            go_quiet (fail)
            by_cases e0 : fep = 0
            · have d3 : (fep == 0) = true := beq_iff_eq.2 e0
              obtain rfl : r = 22 := by rw [← HR.out]; exact of22 rfl HD.out HFB.out (.inr e0)
              clear e0
              go_upto_region 6 with (fail)
              go_quiet (fail)
              go_wp2_with fail
              go_ret
              exact ⟨rfl, by first | exact HB1.out | exact belowDrewN HB1.out _ | exact belowDrewN (belowDrewN HB1.out _) _ | exact belowDrewN (belowDrewN (belowDrewN HB1.out _) _) _⟩
            · have d3 : (fep == 0) = false := beq_eq_false_iff_ne.2 e0
              by_cases e2 : fep = ep
              · have d4 : (fep == ep) = true := beq_iff_eq.2 e2
                have d5 : (fep != ep) = false := by simp [e2]
                have HE := Lib.hid (And.intro e2 e0)
                clear e0 e2
                cases hb : decide ((frm, node) ∈ edgesOf hops flow) with
                | true =>
                  obtain rfl : r = 0 := by rw [← HR.out, of_end rfl HD.out HFB.out HE.out.1 HE.out.2 ((isB_e1 hops node frm flow (.inl rfl)).trans hb)]; rfl
                  go_upto_region 6 with (fail)
                  go_quiet (fail)
                  go_wp2_with fail
                  go_quiet ((go_at_call 44; exact quietA (redge_calls _ R ok nodes flows win que node ep up hops (HM.out.drewN _) flow frm node true hb)))
                  clear hb
                  go_wp2_with fail
                  go_ret
                  exact ⟨rfl, by first | exact HB1.out | exact belowDrewN HB1.out _ | exact belowDrewN (belowDrewN HB1.out _) _ | exact belowDrewN (belowDrewN (belowDrewN HB1.out _) _) _⟩
                | false =>
                  obtain rfl : r = 6 := by rw [← HR.out, of_end rfl HD.out HFB.out HE.out.1 HE.out.2 ((isB_e1 hops node frm flow (.inl rfl)).trans hb)]; rfl
                  go_upto_region 6 with (fail)
                  go_quiet (fail)
                  go_wp2_with fail
                  go_quiet ((go_at_call 44; exact quietA (redge_calls _ R ok nodes flows win que node ep up hops (HM.out.drewN _) flow frm node false hb)))
                  clear hb
                  go_wp2_with fail
                  go_ret
                  exact ⟨rfl, by first | exact HB1.out | exact belowDrewN HB1.out _ | exact belowDrewN (belowDrewN HB1.out _) _ | exact belowDrewN (belowDrewN (belowDrewN HB1.out _) _) _⟩
              · have d4 : (fep == ep) = false := beq_eq_false_iff_ne.2 e2
                have d5 : (fep != ep) = true := by simp [e2]
                obtain rfl : r = 22 := by rw [← HR.out]; exact of22 rfl HD.out HFB.out (.inl e2)
                clear e0 e2
                go_upto_region 6 with (fail)
                go_quiet (fail)
                go_wp2_with fail
                go_ret
                exact ⟨rfl, by first | exact HB1.out | exact belowDrewN HB1.out _ | exact belowDrewN (belowDrewN HB1.out _) _ | exact belowDrewN (belowDrewN (belowDrewN HB1.out _) _) _⟩
      · have d1 : (dst == node) = false := beq_eq_false_iff_ne.2 hd
        have d2 : (dst != node) = true := by simp [hd]
        obtain rfl : r = 6 := by rw [← HR.out]; exact of6b hd
        clear hd
        go_upto_region 4 with (fail)
        go_quiet (fail)
        go_wp2_with fail
        go_ret
        exact ⟨rfl, by first | exact HB1.out | exact belowDrewN HB1.out _ | exact belowDrewN (belowDrewN HB1.out _) _ | exact belowDrewN (belowDrewN (belowDrewN HB1.out _) _) _⟩
  · have g1 : (kind == 1) = false := beq_eq_false_iff_ne.2 k1
    have m1 : (kind != 1) = true := by simp [k1]
    by_cases k6 : kind = 6
    · subst k6
      as_aux_lemma =>
        by_cases hd : dst = node
        · have d1 : (dst == node) = true := beq_iff_eq.2 hd
          have d2 : (dst != node) = false := by simp [hd]
          have HD := Lib.hid hd
          clear hd
          by_cases l0 : flow < 0
          · have d6 : decide (flow < 0) = true := decide_eq_true l0
            obtain rfl : r = 6 := by rw [← HR.out]; exact of6c (flowB_no rfl (.inl l0))
            clear l0
            go_upto_region 4 with (fail)
            go_quiet (fail)
            go_wp2_with fail
            go_ret
            exact ⟨rfl, by first | exact HB1.out | exact belowDrewN HB1.out _ | exact belowDrewN (belowDrewN HB1.out _) _ | exact belowDrewN (belowDrewN (belowDrewN HB1.out _) _) _⟩
          · have d6 : decide (flow < 0) = false := decide_eq_false l0
            by_cases l1 : flow ≥ (nF : Int)
            · have d7 : decide (flow ≥ (nF : Int)) = true := decide_eq_true l1
              have d8 : decide ((nF : Int) ≤ flow) = true := decide_eq_true l1
              obtain rfl : r = 6 := by rw [← HR.out]; exact of6c (flowB_no rfl (.inr (by rw [HL.out]; exact l1)))
              clear l0 l1
              go_upto_region 4 with (fail)
              go_quiet (fail)
              go_wp2_with fail
              go_ret
              exact ⟨rfl, by first | exact HB1.out | exact belowDrewN HB1.out _ | exact belowDrewN (belowDrewN HB1.out _) _ | exact belowDrewN (belowDrewN (belowDrewN HB1.out _) _) _⟩
            · have d7 : decide (flow ≥ (nF : Int)) = false := decide_eq_false l1
              have d8 : decide ((nF : Int) ≤ flow) = false := decide_eq_false l1
              have HFB : Hid (flowB 6 flow flows.length = true) := Lib.hid (flowB_in2 (by rw [HL.out]; omega) (by omega))
              go_upto_region 4 with (fail)
              go_quiet (fail)
              by_cases e0 : fep = 0
              · have d3 : (fep == 0) = true := beq_iff_eq.2 e0
                obtain rfl : r = 22 := by rw [← HR.out]; exact of22 rfl HD.out HFB.out (.inr e0)
                clear e0
                go_upto_region 6 with (fail)
                go_quiet (fail)
                go_wp2_with fail
                go_ret
                exact ⟨rfl, by first | exact HB1.out | exact belowDrewN HB1.out _ | exact belowDrewN (belowDrewN HB1.out _) _ | exact belowDrewN (belowDrewN (belowDrewN HB1.out _) _) _⟩
              · have d3 : (fep == 0) = false := beq_eq_false_iff_ne.2 e0
                by_cases e2 : fep = ep
                · have d4 : (fep == ep) = true := beq_iff_eq.2 e2
                  have d5 : (fep != ep) = false := by simp [e2]
                  have HE := Lib.hid (And.intro e2 e0)
                  clear e0 e2
                  cases hb : decide ((frm, node) ∈ edgesOf hops flow) with
                  | true =>
                    obtain rfl : r = 0 := by rw [← HR.out, of_end rfl HD.out HFB.out HE.out.1 HE.out.2 ((isB_e1 hops node frm flow (.inr rfl)).trans hb)]; rfl
                    go_upto_region 6 with (fail)
                    go_quiet (fail)
                    go_wp2_with fail
                    go_quiet ((go_at_call 44; exact quietA (redge_calls _ R ok nodes flows win que node ep up hops (HM.out.drewN _) flow frm node true hb)))
                    clear hb
                    go_wp2_with fail
                    go_ret
                    exact ⟨rfl, by first | exact HB1.out | exact belowDrewN HB1.out _ | exact belowDrewN (belowDrewN HB1.out _) _ | exact belowDrewN (belowDrewN (belowDrewN HB1.out _) _) _⟩
                  | false =>
                    obtain rfl : r = 6 := by rw [← HR.out, of_end rfl HD.out HFB.out HE.out.1 HE.out.2 ((isB_e1 hops node frm flow (.inr rfl)).trans hb)]; rfl
                    go_upto_region 6 with (fail)
                    go_quiet (fail)
                    go_wp2_with fail
                    go_quiet ((go_at_call 44; exact quietA (redge_calls _ R ok nodes flows win que node ep up hops (HM.out.drewN _) flow frm node false hb)))
                    clear hb
                    go_wp2_with fail
                    go_ret
                    exact ⟨rfl, by first | exact HB1.out | exact belowDrewN HB1.out _ | exact belowDrewN (belowDrewN HB1.out _) _ | exact belowDrewN (belowDrewN (belowDrewN HB1.out _) _) _⟩
                · have d4 : (fep == ep) = false := beq_eq_false_iff_ne.2 e2
                  have d5 : (fep != ep) = true := by simp [e2]
                  obtain rfl : r = 22 := by rw [← HR.out]; exact of22 rfl HD.out HFB.out (.inl e2)
                  clear e0 e2
                  go_upto_region 6 with (fail)
                  go_quiet (fail)
                  go_wp2_with fail
                  go_ret
                  exact ⟨rfl, by first | exact HB1.out | exact belowDrewN HB1.out _ | exact belowDrewN (belowDrewN HB1.out _) _ | exact belowDrewN (belowDrewN (belowDrewN HB1.out _) _) _⟩
        · have d1 : (dst == node) = false := beq_eq_false_iff_ne.2 hd
          have d2 : (dst != node) = true := by simp [hd]
          obtain rfl : r = 6 := by rw [← HR.out]; exact of6b hd
          clear hd
          go_upto_region 4 with (fail)
          go_quiet (fail)
          go_wp2_with fail
          go_ret
          exact ⟨rfl, by first | exact HB1.out | exact belowDrewN HB1.out _ | exact belowDrewN (belowDrewN HB1.out _) _ | exact belowDrewN (belowDrewN (belowDrewN HB1.out _) _) _⟩
    · have g6 : (kind == 6) = false := beq_eq_false_iff_ne.2 k6
      have m6 : (kind != 6) = true := by simp [k6]
      by_cases k2 : kind = 2
      · subst k2
        as_aux_lemma =>
          by_cases hd : dst = node
          · have d1 : (dst == node) = true := beq_iff_eq.2 hd
            have d2 : (dst != node) = false := by simp [hd]
            have HD := Lib.hid hd
            clear hd
            by_cases l0 : flow < 0
            · have d6 : decide (flow < 0) = true := decide_eq_true l0
              obtain rfl : r = 6 := by rw [← HR.out]; exact of6c (flowB_no rfl (.inl l0))
              clear l0
              go_upto_region 4 with (fail)
              go_quiet (fail)
              go_wp2_with fail
              go_ret
              exact ⟨rfl, by first | exact HB1.out | exact belowDrewN HB1.out _ | exact belowDrewN (belowDrewN HB1.out _) _ | exact belowDrewN (belowDrewN (belowDrewN HB1.out _) _) _⟩
            · have d6 : decide (flow < 0) = false := decide_eq_false l0
              by_cases l1 : flow ≥ (nF : Int)
              · have d7 : decide (flow ≥ (nF : Int)) = true := decide_eq_true l1
                have d8 : decide ((nF : Int) ≤ flow) = true := decide_eq_true l1
                obtain rfl : r = 6 := by rw [← HR.out]; exact of6c (flowB_no rfl (.inr (by rw [HL.out]; exact l1)))
                clear l0 l1
                go_upto_region 4 with (fail)
                go_quiet (fail)
                go_wp2_with fail
                go_ret
                exact ⟨rfl, by first | exact HB1.out | exact belowDrewN HB1.out _ | exact belowDrewN (belowDrewN HB1.out _) _ | exact belowDrewN (belowDrewN (belowDrewN HB1.out _) _) _⟩
              · have d7 : decide (flow ≥ (nF : Int)) = false := decide_eq_false l1
                have d8 : decide ((nF : Int) ≤ flow) = false := decide_eq_false l1
                have HFB : Hid (flowB 2 flow flows.length = true) := Lib.hid (flowB_in2 (by rw [HL.out]; omega) (by omega))
                go_upto_region 4 with (fail)
                go_quiet (fail)
                by_cases e0 : fep = 0
                · have d3 : (fep == 0) = true := beq_iff_eq.2 e0
                  obtain rfl : r = 22 := by rw [← HR.out]; exact of22 rfl HD.out HFB.out (.inr e0)
                  clear e0
                  go_upto_region 6 with (fail)
                  go_quiet (fail)
                  go_wp2_with fail
                  go_ret
                  exact ⟨rfl, by first | exact HB1.out | exact belowDrewN HB1.out _ | exact belowDrewN (belowDrewN HB1.out _) _ | exact belowDrewN (belowDrewN (belowDrewN HB1.out _) _) _⟩
                · have d3 : (fep == 0) = false := beq_eq_false_iff_ne.2 e0
                  by_cases e2 : fep = ep
                  · have d4 : (fep == ep) = true := beq_iff_eq.2 e2
                    have d5 : (fep != ep) = false := by simp [e2]
                    have HE := Lib.hid (And.intro e2 e0)
                    clear e0 e2
                    cases hb : decide ((node, frm) ∈ edgesOf hops flow) with
                    | true =>
                      obtain rfl : r = 0 := by rw [← HR.out, of_end rfl HD.out HFB.out HE.out.1 HE.out.2 ((isB_e2 hops node frm flow).trans hb)]; rfl
                      go_upto_region 6 with (fail)
                      go_quiet (fail)
                      go_wp2_with fail
                      go_quiet ((go_at_call 44; exact quietA (redge_calls _ R ok nodes flows win que node ep up hops (HM.out.drewN _) flow node frm true hb)))
                      clear hb
                      go_wp2_with fail
                      go_ret
                      exact ⟨rfl, by first | exact HB1.out | exact belowDrewN HB1.out _ | exact belowDrewN (belowDrewN HB1.out _) _ | exact belowDrewN (belowDrewN (belowDrewN HB1.out _) _) _⟩
                    | false =>
                      obtain rfl : r = 6 := by rw [← HR.out, of_end rfl HD.out HFB.out HE.out.1 HE.out.2 ((isB_e2 hops node frm flow).trans hb)]; rfl
                      go_upto_region 6 with (fail)
                      go_quiet (fail)
                      go_wp2_with fail
                      go_quiet ((go_at_call 44; exact quietA (redge_calls _ R ok nodes flows win que node ep up hops (HM.out.drewN _) flow node frm false hb)))
                      clear hb
                      go_wp2_with fail
                      go_ret
                      exact ⟨rfl, by first | exact HB1.out | exact belowDrewN HB1.out _ | exact belowDrewN (belowDrewN HB1.out _) _ | exact belowDrewN (belowDrewN (belowDrewN HB1.out _) _) _⟩
                  · have d4 : (fep == ep) = false := beq_eq_false_iff_ne.2 e2
                    have d5 : (fep != ep) = true := by simp [e2]
                    obtain rfl : r = 22 := by rw [← HR.out]; exact of22 rfl HD.out HFB.out (.inl e2)
                    clear e0 e2
                    go_upto_region 6 with (fail)
                    go_quiet (fail)
                    go_wp2_with fail
                    go_ret
                    exact ⟨rfl, by first | exact HB1.out | exact belowDrewN HB1.out _ | exact belowDrewN (belowDrewN HB1.out _) _ | exact belowDrewN (belowDrewN (belowDrewN HB1.out _) _) _⟩
          · have d1 : (dst == node) = false := beq_eq_false_iff_ne.2 hd
            have d2 : (dst != node) = true := by simp [hd]
            obtain rfl : r = 6 := by rw [← HR.out]; exact of6b hd
            clear hd
            go_upto_region 4 with (fail)
            go_quiet (fail)
            go_wp2_with fail
            go_ret
            exact ⟨rfl, by first | exact HB1.out | exact belowDrewN HB1.out _ | exact belowDrewN (belowDrewN HB1.out _) _ | exact belowDrewN (belowDrewN (belowDrewN HB1.out _) _) _⟩
      · have g2 : (kind == 2) = false := beq_eq_false_iff_ne.2 k2
        have m2 : (kind != 2) = true := by simp [k2]
        by_cases k3 : kind = 3
        · subst k3
          as_aux_lemma =>
            by_cases hd : dst = node
            · have d1 : (dst == node) = true := beq_iff_eq.2 hd
              have d2 : (dst != node) = false := by simp [hd]
              have HD := Lib.hid hd
              clear hd
              have HFB : Hid (flowB 3 flow flows.length = true) := Lib.hid (rfl)
              go_upto_region 4 with (fail)
              go_quiet (fail)
              by_cases e0 : fep = 0
              · have d3 : (fep == 0) = true := beq_iff_eq.2 e0
                obtain rfl : r = 22 := by rw [← HR.out]; exact of22 rfl HD.out HFB.out (.inr e0)
                clear e0
                go_upto_region 6 with (fail)
                go_quiet (fail)
                go_wp2_with fail
                go_ret
                exact ⟨rfl, by first | exact HB1.out | exact belowDrewN HB1.out _ | exact belowDrewN (belowDrewN HB1.out _) _ | exact belowDrewN (belowDrewN (belowDrewN HB1.out _) _) _⟩
              · have d3 : (fep == 0) = false := beq_eq_false_iff_ne.2 e0
                by_cases e2 : fep = ep
                · have d4 : (fep == ep) = true := beq_iff_eq.2 e2
                  have d5 : (fep != ep) = false := by simp [e2]
                  have HE := Lib.hid (And.intro e2 e0)
                  clear e0 e2
                  cases hb : anyE hops node frm hops.length with
                  | true =>
                    obtain rfl : r = 0 := by rw [← HR.out, of_end rfl HD.out HFB.out HE.out.1 HE.out.2 ((isB_e3 hops node frm flow).trans hb)]; rfl
                    go_upto_region 6 with (fail)
                    go_quiet (fail)
                    go_wp2_with fail
                    go_quiet ((go_at_call 45; exact quietA (rany_calls _ R ok nodes flows win que node ep up hops (HM.out.drewN _) node frm true hb)))
                    clear hb
                    go_wp2_with fail
                    go_ret
                    exact ⟨rfl, by first | exact HB1.out | exact belowDrewN HB1.out _ | exact belowDrewN (belowDrewN HB1.out _) _ | exact belowDrewN (belowDrewN (belowDrewN HB1.out _) _) _⟩
                  | false =>
                    obtain rfl : r = 6 := by rw [← HR.out, of_end rfl HD.out HFB.out HE.out.1 HE.out.2 ((isB_e3 hops node frm flow).trans hb)]; rfl
                    go_upto_region 6 with (fail)
                    go_quiet (fail)
                    go_wp2_with fail
                    go_quiet ((go_at_call 45; exact quietA (rany_calls _ R ok nodes flows win que node ep up hops (HM.out.drewN _) node frm false hb)))
                    clear hb
                    go_wp2_with fail
                    go_ret
                    exact ⟨rfl, by first | exact HB1.out | exact belowDrewN HB1.out _ | exact belowDrewN (belowDrewN HB1.out _) _ | exact belowDrewN (belowDrewN (belowDrewN HB1.out _) _) _⟩
                · have d4 : (fep == ep) = false := beq_eq_false_iff_ne.2 e2
                  have d5 : (fep != ep) = true := by simp [e2]
                  obtain rfl : r = 22 := by rw [← HR.out]; exact of22 rfl HD.out HFB.out (.inl e2)
                  clear e0 e2
                  go_upto_region 6 with (fail)
                  go_quiet (fail)
                  go_wp2_with fail
                  go_ret
                  exact ⟨rfl, by first | exact HB1.out | exact belowDrewN HB1.out _ | exact belowDrewN (belowDrewN HB1.out _) _ | exact belowDrewN (belowDrewN (belowDrewN HB1.out _) _) _⟩
            · have d1 : (dst == node) = false := beq_eq_false_iff_ne.2 hd
              have d2 : (dst != node) = true := by simp [hd]
              obtain rfl : r = 6 := by rw [← HR.out]; exact of6b hd
              clear hd
              go_upto_region 4 with (fail)
              go_quiet (fail)
              go_wp2_with fail
              go_ret
              exact ⟨rfl, by first | exact HB1.out | exact belowDrewN HB1.out _ | exact belowDrewN (belowDrewN HB1.out _) _ | exact belowDrewN (belowDrewN (belowDrewN HB1.out _) _) _⟩
        · have g3 : (kind == 3) = false := beq_eq_false_iff_ne.2 k3
          have m3 : (kind != 3) = true := by simp [k3]
          by_cases k4 : kind = 4
          · subst k4
            as_aux_lemma =>
              by_cases hd : dst = node
              · have d1 : (dst == node) = true := beq_iff_eq.2 hd
                have d2 : (dst != node) = false := by simp [hd]
                have HD := Lib.hid hd
                clear hd
                have HFB : Hid (flowB 4 flow flows.length = true) := Lib.hid (rfl)
                go_upto_region 4 with (fail)
                go_quiet (fail)
                by_cases e0 : fep = 0
                · have d3 : (fep == 0) = true := beq_iff_eq.2 e0
                  obtain rfl : r = 22 := by rw [← HR.out]; exact of22 rfl HD.out HFB.out (.inr e0)
                  clear e0
                  go_upto_region 6 with (fail)
                  go_quiet (fail)
                  go_wp2_with fail
                  go_ret
                  exact ⟨rfl, by first | exact HB1.out | exact belowDrewN HB1.out _ | exact belowDrewN (belowDrewN HB1.out _) _ | exact belowDrewN (belowDrewN (belowDrewN HB1.out _) _) _⟩
                · have d3 : (fep == 0) = false := beq_eq_false_iff_ne.2 e0
                  by_cases e2 : fep = ep
                  · have d4 : (fep == ep) = true := beq_iff_eq.2 e2
                    have d5 : (fep != ep) = false := by simp [e2]
                    have HE := Lib.hid (And.intro e2 e0)
                    clear e0 e2
                    cases hb : anyE hops frm node hops.length with
                    | true =>
                      obtain rfl : r = 0 := by rw [← HR.out, of_end rfl HD.out HFB.out HE.out.1 HE.out.2 ((isB_e4 hops node frm flow).trans hb)]; rfl
                      go_upto_region 6 with (fail)
                      go_quiet (fail)
                      go_wp2_with fail
                      go_quiet ((go_at_call 45; exact quietA (rany_calls _ R ok nodes flows win que node ep up hops (HM.out.drewN _) frm node true hb)))
                      clear hb
                      go_wp2_with fail
                      go_ret
                      exact ⟨rfl, by first | exact HB1.out | exact belowDrewN HB1.out _ | exact belowDrewN (belowDrewN HB1.out _) _ | exact belowDrewN (belowDrewN (belowDrewN HB1.out _) _) _⟩
                    | false =>
                      obtain rfl : r = 6 := by rw [← HR.out, of_end rfl HD.out HFB.out HE.out.1 HE.out.2 ((isB_e4 hops node frm flow).trans hb)]; rfl
                      go_upto_region 6 with (fail)
                      go_quiet (fail)
                      go_wp2_with fail
                      go_quiet ((go_at_call 45; exact quietA (rany_calls _ R ok nodes flows win que node ep up hops (HM.out.drewN _) frm node false hb)))
                      clear hb
                      go_wp2_with fail
                      go_ret
                      exact ⟨rfl, by first | exact HB1.out | exact belowDrewN HB1.out _ | exact belowDrewN (belowDrewN HB1.out _) _ | exact belowDrewN (belowDrewN (belowDrewN HB1.out _) _) _⟩
                  · have d4 : (fep == ep) = false := beq_eq_false_iff_ne.2 e2
                    have d5 : (fep != ep) = true := by simp [e2]
                    obtain rfl : r = 22 := by rw [← HR.out]; exact of22 rfl HD.out HFB.out (.inl e2)
                    clear e0 e2
                    go_upto_region 6 with (fail)
                    go_quiet (fail)
                    go_wp2_with fail
                    go_ret
                    exact ⟨rfl, by first | exact HB1.out | exact belowDrewN HB1.out _ | exact belowDrewN (belowDrewN HB1.out _) _ | exact belowDrewN (belowDrewN (belowDrewN HB1.out _) _) _⟩
              · have d1 : (dst == node) = false := beq_eq_false_iff_ne.2 hd
                have d2 : (dst != node) = true := by simp [hd]
                obtain rfl : r = 6 := by rw [← HR.out]; exact of6b hd
                clear hd
                go_upto_region 4 with (fail)
                go_quiet (fail)
                go_wp2_with fail
                go_ret
                exact ⟨rfl, by first | exact HB1.out | exact belowDrewN HB1.out _ | exact belowDrewN (belowDrewN HB1.out _) _ | exact belowDrewN (belowDrewN (belowDrewN HB1.out _) _) _⟩
          · have g4 : (kind == 4) = false := beq_eq_false_iff_ne.2 k4
            have m4 : (kind != 4) = true := by simp [k4]
            obtain rfl : r = 6 := by
              rw [← HR.out]
              refine of6a ?_
              unfold knownB
              rw [g1, g6, g2, g3, g4]
              rfl
            clear k1 k6 k2 k3 k4
            go_wp2_with fail
            go_ret
            exact ⟨rfl, HB1.out⟩
end Go.Proofs.YthgnjojkncodeaaGreat
