/-
  The document's examples: awake.
-/
import Derived.Test.YthgnjojkncodeaaGreatMbJ
namespace Go.Proofs.YthgnjojkncodeaaGreat
open Go.RowKit
set_option linter.unusedVariables false
set_option linter.unusedSimpArgs false

def fr0 : FrR := ⟨0, 0, 0, 0, 0, none, 0, 0, none, 0, 0, none, 0, 0, none, 0, 0, none, 0, 0⟩
section
variable {w : World} {M : Nat} {ok : Nat → Prop} {nodes win que node ep : Int} {flows : List Flw} {up : List Bool} {hops : List (List Ed)}
/-- Of a frame that has nothing but kind, sender, receiver, epoch, flow. -/
theorem MB.of0 (h : MB w M ok nodes flows win que node ep up hops) (kind frm dst fep flow : Int) (hf : inI flow) (r : Int) (hr : ofRes flows node ep hops kind frm dst fep flow = r) :
    Calls Tryz.prog 11 #[.pointer (some ⟨M, 0, none⟩), .agg #[.int .i64 kind, .int .i64 frm, .int .i64 dst, .int .u64 fep, .int .u64 0, .int .i64 flow, .int .u64 0, .int .u64 0, .int .u64 0, .slice none 0 0, .slice none 0 0, .slice none 0 0, .int .u64 0, .slice none 0 0, .slice none 0 0]] w fun e w' => e = .returned (.int .i64 r) ∧ Below w.heap.size w w' := by
  rw [← hr]
  exact of_calls w M ok nodes flows win que node ep up hops h fr0 kind frm dst fep flow hf
theorem MB.takes (h : MB w M ok nodes flows win que node ep up hops) {vt : Value} {ep2 : Int} {up2 : List Bool} {hops2 : List (List Ed)} {okT : Nat → Prop} (hT : TopoV w okT vt ep2 up2 hops2) (hf : Few hops2) (hu : up2.length ≤ 1048576) (hh : hops2.length ≤ 1048576)
    (hm : mayOk nodes flows win que ep2 up2 hops2 = true) (he : ep < ep2) : Calls Tryz.prog 8 #[.pointer (some ⟨M, 0, none⟩), vt] w fun e w' => e = .returned (.int .i64 0) ∧ Chg (fun k => k = M) w w' ∧ MB w' M (fun k => ok k ∨ w.heap.size ≤ k) nodes flows win que node ep2 up2 hops2 :=
  (mtake_calls w M ok nodes flows win que node ep up hops h vt ep2 up2 hops2 (hT.mono fun k _ hk => hk) hf hu hh).mono fun e w' h' => by
    rcases h' with ⟨h1, _⟩ | ⟨_, h1, _⟩ | ⟨_, _, h1, h2, h3⟩
    · rw [hm] at h1; cases h1
    · omega
    · exact ⟨h1, h2, h3⟩
theorem MB.elder (h : MB w M ok nodes flows win que node ep up hops) {vt : Value} {ep2 : Int} {up2 : List Bool} {hops2 : List (List Ed)} {okT : Nat → Prop} (hT : TopoV w okT vt ep2 up2 hops2) (hf : Few hops2) (hu : up2.length ≤ 1048576) (hh : hops2.length ≤ 1048576)
    (hm : mayOk nodes flows win que ep2 up2 hops2 = true) (he : ep2 ≤ ep) : Calls Tryz.prog 8 #[.pointer (some ⟨M, 0, none⟩), vt] w fun e w' => e = .returned (.int .i64 22) ∧ Below w.heap.size w w' :=
  (mtake_calls w M ok nodes flows win que node ep up hops h vt ep2 up2 hops2 (hT.mono fun k _ hk => hk) hf hu hh).mono fun e w' h' => by
    rcases h' with ⟨h1, _⟩ | ⟨_, _, h1, h2⟩ | ⟨_, h1, _⟩
    · rw [hm] at h1; cases h1
    · exact ⟨h1, h2⟩
    · omega
theorem MB.takesNot (h : MB w M ok nodes flows win que node ep up hops) {vt : Value} {ep2 : Int} {up2 : List Bool} {hops2 : List (List Ed)} {okT : Nat → Prop} (hT : TopoV w okT vt ep2 up2 hops2) (hf : Few hops2) (hu : up2.length ≤ 1048576) (hh : hops2.length ≤ 1048576)
    (hm : mayOk nodes flows win que ep2 up2 hops2 = false) : Calls Tryz.prog 8 #[.pointer (some ⟨M, 0, none⟩), vt] w fun e w' => e = .returned (.int .i64 1) ∧ Below w.heap.size w w' :=
  (mtake_calls w M ok nodes flows win que node ep up hops h vt ep2 up2 hops2 (hT.mono fun k _ hk => hk) hf hu hh).mono fun e w' h' => by
    rcases h' with ⟨_, h1, h2⟩ | ⟨h1, _⟩ | ⟨h1, _⟩
    · exact ⟨h1, h2⟩
    · rw [hm] at h1; cases h1
    · rw [hm] at h1; cases h1
end
theorem few_row : Few [rowE] := fun l hl => by simp at hl; subst hl; decide
theorem awake1_calls (w : World) (B1 M : Nat) (ok : Nat → Prop) (hB : w.cell? ⟨B1, 0, none⟩ = some (.pointer (some ⟨M, 0, none⟩))) (h : MB w M ok 3 fl3 4 4 1 1 up3 [rowE]) (kind frm r : Int) (hr : ofRes fl3 1 1 [rowE] kind frm 1 1 0 = r) :
    Calls Tryz.prog 28 #[.int .i64 kind, .int .i64 frm, .pointer (some ⟨B1, 0, none⟩)] w fun e w' => e = .returned (.int .i64 r) ∧ Below w.heap.size w w' := by
  have hof := h.of0 kind frm 1 1 0 (by decide) r hr
  clear h hr
  go_enter Tryz.func28, Tryz.ntmps28
  go_wp2_with (go_at_call 11; refine hof.mono ?_; rintro e w1 ⟨rfl, b1⟩)
  go_ret
  exact ⟨rfl, b1⟩
theorem same_one (w : World) (ok : Nat → Prop) (A : Option Addr) (c : Nat) (x : Int) (hr : RdI w ok A 1 [x]) (hx : inI x) :
    Calls Tryz.prog 13 #[.slice A 1 c, .slice (some ⟨w.heap.size, 0, none⟩) 1 1] (w.alloc (.cells #[.int .i64 x] 3)) fun e w' => e = .returned (.bool true) ∧ Below w.heap.size w w' := by
  have hb : Below w.heap.size w (w.alloc (.cells #[.int .i64 x] 3)) := (Below.refl _ _).alloc (Nat.le_refl _) _
  have h2 : Rd El.int (w.alloc (.cells #[.int .i64 x] 3)) (fun _ => True) (some ⟨w.heap.size, 0, none⟩) 1 [x] := one_rd (by simp) trivial (heap_alloc_new w _) hx
  refine (same_calls (w.alloc (.cells #[.int .i64 x] 3)) _ _ A _ 1 c 1 1 [x] [x] (hr.below hb) (RdI.ofRdInt h2)).mono ?_
  rintro e w' ⟨rfl, q, rfl⟩
  exact ⟨by simp, belowDrewN hb q⟩
set_option maxRecDepth 100000 in
set_option maxHeartbeats 4000000 in
theorem awake_calls (w : World) : Calls Tryz.prog 4 #[] w fun e w' => e = .returned (.bool true) ∧ Below w.heap.size w w' := by
  have h3 := three_calls w
  go_enter Tryz.func4, Tryz.ntmps4
  go_wp2_with fail
  refine h3.mono ?_
  rintro e w1 ⟨AF, nF, cF, rfl, hC, b1⟩
  have hn := new_calls w1 _ 3 fl3 4 4 1 (fun k => k < w1.heap.size) (fun _ h => h) hC (by decide)
  have B1 := Lib.hid b1
  clear h3 hC b1
  go_wp2_with fail
  refine hn.mono ?_
  rintro e w2 ⟨b2, ⟨h0, _⟩ | ⟨_, M, rfl, hM1, hMB⟩⟩
  · exact absurd h0 (by decide)
  have HM2 := Lib.hid hMB
  have B2 := Lib.hid (belowThen B1.out B1.out.size b2)
  clear hn b2 hMB
  go_upto_region 2 with (fail)
  obtain ⟨w3, hw3⟩ : ∃ w3, w2.alloc (.cells #[.pointer (some ⟨M, 0, none⟩)] 27) = w3 := ⟨_, rfl⟩
  rw [hw3]
  have b3 : Below w2.heap.size w2 w3 := by rw [← hw3]; exact (Below.refl _ _).alloc (Nat.le_refl _) _
  have e3 : w3.heap[w2.heap.size]? = some (.cells #[.pointer (some ⟨M, 0, none⟩)] 27 (0, 0)) := by rw [← hw3]; exact heap_alloc_new w2 _
  have hBM : ¬ w2.heap.size = M := by have := HM2.out.lt; omega
  have lB : w2.heap.size < w3.heap.size := (Array.getElem?_eq_some_iff.1 e3).1
  obtain ⟨B, hB⟩ : ∃ B, w2.heap.size = B := ⟨_, rfl⟩
  have p3 : w3.cell? ⟨B, 0, none⟩ = some (.pointer (some ⟨M, 0, none⟩)) := by rw [← hB]; simp [World.cell?, e3]
  have HM3 := Lib.hid (HM2.out.below b3)
  have B3 := Lib.hid (belowThen B2.out B2.out.size b3)
  have HLM : Hid (w.heap.size ≤ M) := Lib.hid (by have := B1.out.size; omega)
  rw [hB] at hBM lB ⊢
  have hr3 := row_calls w3.drew 1
  clear hw3 b3 e3 hB HM2 hM1
  go_region_held3 (fun w' => w'.cell? ⟨B, 0, none⟩ = some (.pointer (some ⟨M, 0, none⟩)))
    (first | exact p3 | exact p4 | exact p5 | exact p6 | exact p7 | exact p8 | exact p9)
    (first
      | (go_at_call 27; (with_reducible refine hr3.mono ?_); rintro e w4 ⟨PU4, PE4, PH4, rfl, hR4, hg4, b4⟩; have X4 := Lib.hid (stepB1 b4); have HM4 := Lib.hid (HM3.out.below X4.out); have ht4 := HM4.out.takes (hR4.tv 1) few_row (by decide) (by decide) (row_may (by decide) (by decide)) (by decide); have p4 := cellBelow X4.out p3; clear hr3 hg4 b4)
      | (go_at_call 8; (with_reducible refine ht4.mono ?_); rintro e w5 ⟨rfl, hc5, hM5⟩; have p5 := hc5.cell p4 hBM; have C5 := Lib.hid hc5; have HM5 := Lib.hid hM5; have hr5 := row_calls w5 1; clear ht4 hc5 hM5)
      | (go_at_call 27; (with_reducible refine hr5.mono ?_); rintro e w6 ⟨PU6, PE6, PH6, rfl, hR6, hg6, b6⟩; have X6 := Lib.hid b6; have HM6 := Lib.hid (HM5.out.below b6); have ht6 := HM6.out.elder (hR6.tv 1) few_row (by decide) (by decide) (row_may (by decide) (by decide)) (by decide); have p6 := cellBelow b6 p5; clear hr5 hg6 b6)
      | (go_at_call 8; (with_reducible refine ht6.mono ?_); rintro e w7 ⟨rfl, b7⟩; have X7 := Lib.hid b7; have HM7 := Lib.hid (HM6.out.below b7); have p7 := cellBelow b7 p6; have hr7 := row_calls w7 0; clear ht6 b7)
      | (go_at_call 27; (with_reducible refine hr7.mono ?_); rintro e w8 ⟨PU8, PE8, PH8, rfl, hR8, hg8, b8⟩; have X8 := Lib.hid b8; have HM8 := Lib.hid (HM7.out.below b8); have ht8 := HM8.out.takesNot (hR8.tv 0) few_row (by decide) (by decide) row_bad; have p8 := cellBelow b8 p7; clear hr7 hg8 b8)
      | (go_at_call 8; (with_reducible refine ht8.mono ?_); rintro e w9 ⟨rfl, b9⟩; have X9 := Lib.hid b9; have HM9 := Lib.hid (HM8.out.below b9); have p9 := cellBelow b9 p8; clear ht8 b9))
  all_goals
    have HB9 : Hid (Below w.heap.size w w9) := Lib.hid (by
      have z4 := belowThen B3.out B3.out.size X4.out
      have z5 := C5.out.below z4 z4.size fun k hk => by have := HLM.out; omega
      have z6 := belowThen z5 z5.size X6.out
      have z7 := belowThen z6 z6.size X7.out
      have z8 := belowThen z7 z7.size X8.out
      exact belowThen z8 z8.size X9.out)
    have hnx := mnext_calls w9 M _ 3 fl3 4 4 1 1 up3 [rowE] HM9.out 0 (by decide)
    rw [row_next] at hnx
    clear p3 p4 p5 p6 p7 p8 X4 X6 X7 X8 X9 C5 HM3 HM4 HM5 HM6 HM7 HM8 hR4 hR6 hR8
    go_wp2_with fail
    refine hnx.mono ?_
    rintro e y1 ⟨v1, rfl, hO1, c1⟩
    obtain ⟨A1, d1, rfl, _, _, _, hR1⟩ := hO1.rd
    have hs1 := same_one y1 _ A1 d1 2 hR1 (by decide)
    have p1 := cellBelow c1 p9
    have HM1 := Lib.hid (HM9.out.below c1)
    have C1 := Lib.hid c1
    clear hnx hO1 hR1 c1 p9
    go_wp2_with fail
    refine hs1.mono ?_
    rintro e y2 ⟨rfl, c2⟩
    have p2 := cellBelow c2 p1
    have HM2 := Lib.hid (HM1.out.below c2)
    have C2 := Lib.hid c2
    have hpv := mprev_calls y2 M _ 3 fl3 4 4 1 1 up3 [rowE] HM2.out 0 (by decide)
    rw [row_prev] at hpv
    clear hs1 c2 p1
    go_wp2_with fail
    refine hpv.mono ?_
    rintro e y3 ⟨v3, rfl, hO3, c3⟩
    obtain ⟨A3, d3, rfl, _, _, _, hR3⟩ := hO3.rd
    have hs3 := same_one y3 _ A3 d3 0 hR3 (by decide)
    have p3 := cellBelow c3 p2
    have HM3 := Lib.hid (HM2.out.below c3)
    have C3 := Lib.hid c3
    clear hpv hO3 hR3 c3 p2
    go_wp2_with fail
    refine hs3.mono ?_
    rintro e y4 ⟨rfl, c4⟩
    have p4 := cellBelow c4 p3
    have HM4 := Lib.hid (HM3.out.below c4)
    have C4 := Lib.hid c4
    have hf := awake1_calls y4 B M _ p4 HM4.out 1 0 0 awake_of0
    clear hs3 c4 p3
    go_wp2_with fail
    refine hf.mono ?_
    rintro e y5 ⟨rfl, c5⟩
    have p5 := cellBelow c5 p4
    have HM5 := Lib.hid (HM4.out.below c5)
    have C5 := Lib.hid c5
    have hf := awake1_calls y5 B M _ p5 HM5.out 1 2 6 awake_of2
    clear c5 p4
    go_wp2_with fail
    refine hf.mono ?_
    rintro e y6 ⟨rfl, c6⟩
    have p6 := cellBelow c6 p5
    have HM6 := Lib.hid (HM5.out.below c6)
    have C6 := Lib.hid c6
    have hf := awake1_calls y6 B M _ p6 HM6.out 2 2 0 awake_back
    clear c6 p5
    go_wp2_with fail
    refine hf.mono ?_
    rintro e y7 ⟨rfl, c7⟩
    have C7 := Lib.hid c7
    clear c7 p6 hf
    go_wp2_with fail
    go_ret
    have z1 := belowThen HB9.out HB9.out.size C1.out
    have z2 := belowThen z1 z1.size C2.out
    have z3 := belowThen z2 z2.size C3.out
    have z4 := belowThen z3 z3.size C4.out
    have z5 := belowThen z4 z4.size C5.out
    have z6 := belowThen z5 z5.size C6.out
    exact ⟨rfl, belowThen z6 z6.size C7.out⟩
end Go.Proofs.YthgnjojkncodeaaGreat
