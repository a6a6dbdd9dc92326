/-
  The walk of MemberKnown.
-/
import Derived.Test.YthgnjojkncodeaaMbN
import Derived.Deep.CutBlock
namespace Go.Proofs.Ythgnjojkncodeaa
open Go.RowKit
set_option linter.unusedVariables false
set_option linter.unusedSimpArgs false

set_option maxRecDepth 100000 in
set_option maxHeartbeats 16000000 in
theorem memberKnown_walk (w : World) : Calls Try.prog 5 #[] w fun e w' => e = .returned (.bool true) ∧ Below w.heap.size w w' := by
  have haw := awake_calls w
  go_enter Try.func5, Try.ntmps5
  go_wp2_with fail
  refine haw.mono ?_
  rintro e w1 ⟨rfl, b1⟩
  have X1 := Lib.hid b1
  have h3 := three_calls w1
  clear haw b1
  go_wp2_with fail
  refine h3.mono ?_
  rintro e w2 ⟨AF, nF, cF, rfl, hC, b2⟩
  have X2 := Lib.hid (belowThen X1.out X1.out.size b2)
  have hn := new_no w2 _ 3 fl3 4 4 3 hC (by decide) (by decide)
  clear h3 hC b2
  go_wp2_with fail
  refine hn.mono ?_
  rintro e w3 ⟨rfl, b3⟩
  have X3 := Lib.hid (belowThen X2.out X2.out.size b3)
  have h3 := three_calls w3
  clear hn b3
  go_wp2_with fail
  refine h3.mono ?_
  rintro e w4 ⟨AG, nG, cG, rfl, hC, b4⟩
  have X4 := Lib.hid (belowThen X3.out X3.out.size b4)
  have hn := new_no w4 _ 3 fl3 4 4 (-1) hC (by decide) (by decide)
  clear h3 hC b4
  go_wp2_with fail
  refine hn.mono ?_
  rintro e w5 ⟨rfl, b5⟩
  have X5 := Lib.hid (belowThen X4.out X4.out.size b5)
  have hn := new_no w5 (.agg #[.int .i64 0, .slice none 0 0, .int .i64 0, .int .i64 0]) 0 [] 0 0 0 ⟨none, 0, 0, rfl, Nat.le_refl _, by decide, by decide, by decide, Rd.nil _ _ _ _⟩ (by decide) (by decide)
  clear b5
  go_wp2_with fail
  refine hn.mono ?_
  rintro e w6 ⟨rfl, b6⟩
  have X6 := Lib.hid (belowThen X5.out X5.out.size b6)
  have h3 := three_calls w6
  clear hn b6
  go_wp2_with fail
  refine h3.mono ?_
  rintro e w7 ⟨AI, nI, cI, rfl, hC, b7⟩
  have X7 := Lib.hid (belowThen X6.out X6.out.size b7)
  have hn := new_yes w7 _ 3 fl3 4 4 1 _ (fun _ h => h) hC three_good (by decide) (by decide)
  clear h3 hC b7
  go_wp2_with fail
  refine hn.mono ?_
  rintro e w8 ⟨M, rfl, hM, hMB, b8⟩
  have X8 := Lib.hid (belowThen X7.out X7.out.size b8)
  have HLM : Hid (w.heap.size ≤ M) := Lib.hid (by have := X7.out.size; omega)
  have HM8 := Lib.hid hMB
  have hof := hMB.of0 1 0 1 0 0 (by decide) 22 known_of22
  clear hn b8 hMB hM
  go_wp2_with fail
  refine hof.mono ?_
  rintro e w9 ⟨rfl, b9⟩
  have X9 := Lib.hid (belowThen X8.out X8.out.size b9)
  have HM9 := Lib.hid (HM8.out.below b9)
  have hr := row_calls w9 1
  clear hof b9
  go_wp2_with fail
  refine hr.mono ?_
  rintro e w10 ⟨PU, PE, PH, rfl, hR, hg, b10⟩
  have X10 := Lib.hid (belowThen X9.out X9.out.size b10)
  have HM10 := Lib.hid (HM9.out.below b10)
  obtain ⟨w11, hw11⟩ : ∃ w11, w10.alloc (.cells #[.int .u64 1, .slice (some ⟨PU, 0, none⟩) 3 3, .slice (some ⟨PH, 0, none⟩) 1 1] 29) = w11 := ⟨_, rfl⟩
  have b11 : Below w10.heap.size w10 w11 := by rw [← hw11]; exact (Below.refl _ _).alloc (Nat.le_refl _) _
  have e11 : w11.heap[w10.heap.size]? = some (.cells #[.int .u64 1, .slice (some ⟨PU, 0, none⟩) 3 3, .slice (some ⟨PH, 0, none⟩) 1 1] 29 (0, 0)) := by rw [← hw11]; exact heap_alloc_new w10 _
  have hR11 := hR.chg (S := NoB) (Chg.ofBelow b11) ⟨id, id, id⟩
  have lE := (Array.getElem?_eq_some_iff.1 hR.be).1
  have lH := (Array.getElem?_eq_some_iff.1 hR.bh).1
  have lU := (Array.getElem?_eq_some_iff.1 hR.bu).1
  obtain ⟨P, hP⟩ : ∃ P, w10.heap.size = P := ⟨_, rfl⟩
  rw [hP] at e11
  have q0 : w11.cell? ⟨P, 0, none⟩ = some (.int .u64 1) := by simp [World.cell?, e11]
  have q1 : w11.cell? ⟨P, 1, none⟩ = some (.slice (some ⟨PU, 0, none⟩) 3 3) := by simp [World.cell?, e11]
  have q2 : w11.cell? ⟨P, 2, none⟩ = some (.slice (some ⟨PH, 0, none⟩) 1 1) := by simp [World.cell?, e11]
  have q3 : w11.cell? ⟨PH, 0, none⟩ = some (.slice (some ⟨PE, 0, none⟩) 2 2) := by have := hR11.bh; simp [World.cell?, this]
  have q4 : w11.cell? ⟨PE, 1, none⟩ = some (.int .i64 1) := by have := hR11.be; simp [World.cell?, this]
  have q5 : w11.frozen? ⟨PE, 1, none⟩ = false := by have := hR11.be; simp [World.frozen?, this]
  obtain ⟨w12, hw12⟩ : ∃ w12, w11.setCell ⟨PE, 1, none⟩ (.int .i64 0) = w12 := ⟨_, rfl⟩
  have c12 : Chg (fun k => k = PE) w11 w12 := by rw [← hw12]; exact Chg.set w11 ⟨PE, 1, none⟩ _
  have eE : w12.heap[PE]? = some (.cells #[.int .i64 0, .int .i64 0, .int .i64 1, .int .i64 2] 60 (0, 0)) := by have := hR11.be; rw [← hw12]; simp [World.setCell, Array.getElem?_modify, this]
  have eU : w12.heap[PU]? = some (.cells #[.bool true, .bool true, .bool true] 4 (0, 0)) := (c12.block _ (Array.getElem?_eq_some_iff.1 hR11.bu).1 fun e => hR.ne.1 e).trans hR11.bu
  have eH : w12.heap[PH]? = some (.cells #[.slice (some ⟨PE, 0, none⟩) 2 2] 57 (0, 0)) := (c12.block _ (Array.getElem?_eq_some_iff.1 hR11.bh).1 fun e => hR.ne.2.2 (Eq.symm e)).trans hR11.bh
  have eP : w12.heap[P]? = some (.cells #[.int .u64 1, .slice (some ⟨PU, 0, none⟩) 3 3, .slice (some ⟨PH, 0, none⟩) 1 1] 29 (0, 0)) := (c12.block _ (Array.getElem?_eq_some_iff.1 e11).1 fun e => by have e : P = PE := e; omega).trans e11
  have hTb : TopoV w12 (fun _ => True) (.agg #[.int .u64 1, .slice (some ⟨PU, 0, none⟩) 3 3, .slice (some ⟨PH, 0, none⟩) 1 1]) 1 up3 [badE] := by
    have ru : Rd El.bool w12 (fun _ => True) (some ⟨PU, 0, none⟩) 3 up3 := rd_block (E := El.bool) (xs := up3) (vss := [[.bool true], [.bool true], [.bool true]]) (.cons rfl (.cons rfl (.cons rfl .nil))) (Array.getElem?_eq_some_iff.1 eU).1 trivial (by decide) fun j u hu => by
      simp only [World.cell?, eU]
      simpa using hu
    have re : Rd elEd w12 (fun _ => True) (some ⟨PE, 0, none⟩) 2 badE := rd_block (E := elEd) (xs := badE) (vss := [[.int .i64 0, .int .i64 0], [.int .i64 1, .int .i64 2]])
      (.cons (ed_mk _ _ (x := (0, 0)) (by decide) (by decide)) (.cons (ed_mk _ _ (x := (1, 2)) (by decide) (by decide)) .nil)) (Array.getElem?_eq_some_iff.1 eE).1 trivial (by decide) fun j u hu => by
      simp only [World.cell?, eE]
      simpa using hu
    exact ⟨_, _, _, _, _, _, rfl, Nat.le_refl _, Nat.le_refl _, ru, one_row trivial eH (Nat.le_refl _) re⟩
  have p0 : w12.cell? ⟨P, 0, none⟩ = some (.int .u64 1) := by simp [World.cell?, eP]
  have p1 : w12.cell? ⟨P, 1, none⟩ = some (.slice (some ⟨PU, 0, none⟩) 3 3) := by simp [World.cell?, eP]
  have p2 : w12.cell? ⟨P, 2, none⟩ = some (.slice (some ⟨PH, 0, none⟩) 1 1) := by simp [World.cell?, eP]
  have hM12 := (HM10.out.below b11)
  have X12 := Lib.hid (c12.below (belowThen X10.out X10.out.size b11) (by have := X10.out.size; have := b11.size; omega) fun k hk => by have := hg.2.1; have := X9.out.size; omega)
  have hMl := HM9.out.lt
  have H9 := Lib.hid (HM9.out.mono (ok' := fun k => k < w9.heap.size ∧ k ≠ M) (fun k hk hl => ⟨hl, fun e => HM9.out.n (e ▸ hk)⟩) fun h => h.2 rfl)
  have HM12 := Lib.hid (((H9.out.below b10).below b11).chg c12 fun k hk e => by have e : k = PE := e; exact ⟨by have := hg.2.1; omega, fun hh => by have := hg.2.1; omega⟩)
  have ht := HM12.out.takesNot hTb (fun l hl => by simp at hl; subst hl; decide) (by decide) (by decide) bad_may
  have HW11 := Lib.hid hw11
  have HW12 := Lib.hid hw12
  have HP := Lib.hid hP
  clear hr hR hg b10 hw11 b11 e11 hR11 lE lH lU hP hw12 c12 eE eU eH eP hTb hM12 hMl HM10 H9
  go_upto_region 9 with (fail)
  rw [HW11.out, HP.out]
  go_upto_region 10 with (fail)
  rw [HW12.out]
  clear q0 q1 q2 q3 q4 q5
  go_wp2_with fail
  refine ht.mono ?_
  rintro e y1 ⟨rfl, d1⟩
  have HM1 := Lib.hid (HM12.out.below d1)
  have Y1 := Lib.hid (belowThen X12.out X12.out.size d1)
  have hr := row_calls y1 5
  clear ht d1 p0 p1 p2 HM12
  go_wp2_with fail
  refine hr.mono ?_
  rintro e y2 ⟨PU2, PE2, PH2, rfl, hR2, hg2, d2⟩
  have HM2 := Lib.hid (HM1.out.below d2)
  have Y2 := Lib.hid (belowThen Y1.out Y1.out.size d2)
  have ht := HM2.out.takes (hR2.tv 5) few_row (by decide) (by decide) (row_may (by decide) (by decide)) (by decide)
  clear hr hg2 d2
  go_wp2_with fail
  refine ht.mono ?_
  rintro e y3 ⟨rfl, c3, hM3⟩
  have HM3 := Lib.hid hM3
  have Y3 := Lib.hid (c3.below Y2.out Y2.out.size fun k hk => by have := HLM.out; omega)
  clear ht c3 hM3 hR2
  have hof := HM3.out.of0 1 0 2 5 0 (by decide) 6 known_a
  go_wp2_with fail
  refine hof.mono ?_
  rintro e y4 ⟨rfl, d⟩
  have HM4 := Lib.hid (HM3.out.below d)
  have Y4 := Lib.hid (belowThen Y3.out Y3.out.size d)
  clear hof d
  have hof := HM4.out.of0 1 0 1 4 0 (by decide) 22 known_b
  go_wp2_with fail
  refine hof.mono ?_
  rintro e y5 ⟨rfl, d⟩
  have HM5 := Lib.hid (HM4.out.below d)
  have Y5 := Lib.hid (belowThen Y4.out Y4.out.size d)
  clear hof d
  have hof := HM5.out.of0 5 0 1 5 0 (by decide) 6 known_c
  go_wp2_with fail
  refine hof.mono ?_
  rintro e y6 ⟨rfl, d⟩
  have HM6 := Lib.hid (HM5.out.below d)
  have Y6 := Lib.hid (belowThen Y5.out Y5.out.size d)
  clear hof d
  have hof := HM6.out.of0 1 0 1 5 1 (by decide) 6 known_d
  go_wp2_with fail
  refine hof.mono ?_
  rintro e y7 ⟨rfl, d⟩
  have HM7 := Lib.hid (HM6.out.below d)
  have Y7 := Lib.hid (belowThen Y6.out Y6.out.size d)
  clear hof d
  have hof := HM7.out.of0 4 0 1 5 9 (by decide) 0 known_e
  go_wp2_with fail
  refine hof.mono ?_
  rintro e y8 ⟨rfl, d⟩
  have HM8 := Lib.hid (HM7.out.below d)
  have Y8 := Lib.hid (belowThen Y7.out Y7.out.size d)
  clear hof d
  have hr := row_calls y8 1
  go_wp2_with fail
  refine hr.mono ?_
  rintro e y9 ⟨PU3, PE3, PH3, rfl, _, _, d⟩
  have Y9 := Lib.hid (belowThen Y8.out Y8.out.size d)
  clear hr d
  have hk := take_none y9 1 (some ⟨PU3, 0, none⟩) 3 3 (some ⟨PH3, 0, none⟩) 1 1
  go_wp2_with fail
  refine hk.mono ?_
  rintro e y10 ⟨rfl, d⟩
  have Y10 := Lib.hid (belowThen Y9.out Y9.out.size d)
  clear hk d
  have hk := (show Calls Try.prog 15 #[.pointer none, .agg #[.int .i64 0, .int .i64 0, .int .i64 0, .int .u64 0, .int .u64 0, .int .i64 0, .int .u64 0, .int .u64 0, .int .u64 0, .slice none 0 0, .slice none 0 0, .slice none 0 0, .int .u64 0, .slice none 0 0, .slice none 0 0]] _ _ from of_none y10 fr0 0 0 0 0 0)
  go_wp2_with fail
  refine hk.mono ?_
  rintro e y11 ⟨rfl, d⟩
  have Y11 := Lib.hid (belowThen Y10.out Y10.out.size d)
  clear hk d
  have hk := epoch_none y11
  go_wp2_with fail
  refine hk.mono ?_
  rintro e yy11 ⟨rfl, rfl⟩
  clear hk
  have hk := node_none y11
  go_wp2_with fail
  refine hk.mono ?_
  rintro e yy11 ⟨rfl, rfl⟩
  clear hk
  have hk := next_none y11 0
  go_wp2_with fail
  refine hk.mono ?_
  rintro e y12 ⟨rfl, d⟩
  have Y12 := Lib.hid (belowThen Y11.out Y11.out.size d)
  clear hk d
  have hk := prev_none y12 0
  go_wp2_with fail
  refine hk.mono ?_
  rintro e y13 ⟨rfl, d⟩
  have Y13 := Lib.hid (belowThen Y12.out Y12.out.size d)
  clear hk d
  have hk := nexts_none y13
  go_wp2_with fail
  refine hk.mono ?_
  rintro e yy13 ⟨rfl, rfl⟩
  clear hk
  have hk := prevs_none y13
  go_wp2_with fail
  refine hk.mono ?_
  rintro e yy13 ⟨rfl, rfl⟩
  clear hk
  have hk := topo_none y13
  go_wp2_with fail
  refine hk.mono ?_
  rintro e y14 ⟨rfl, d⟩
  have Y14 := Lib.hid (belowThen Y13.out Y13.out.size d)
  clear hk d
  have hfd := fun W : World => (show (Instr.field 29 (.agg #[.int .u64 0, .slice none 0 0, .slice none 0 0]) 0).run Try.prog W = .ok (.int .u64 0) W by kernel_rfl)
  go_wp2_with fail
  go_ret
  exact ⟨rfl, Y14.out⟩
end Go.Proofs.Ythgnjojkncodeaa
