/-
  The document's net: Send, Deliver, Corrupt.
-/
import Derived.Test.YtmkmbnfmmibifaaNetD
namespace Go.Proofs.Ytmkmbnfmmibifaa
open Go.RowKit

set_option maxRecDepth 100000 in
set_option maxHeartbeats 1600000 in
theorem rSend_calls (w : World) (S : Nat → Prop) (P : Nat) (N : Int) (v : Value) (L : List Par) (h : QNet w S P N v L) (f t : Int) (hf : inI f) (ht : inI t) (A : Option Addr) (n c : Nat) (xs : List UInt8) (ok : Nat → Prop) (hr : RdB w ok A n xs)
    (r0 : Int) (L' : List Par) (hres : sendRes N f t xs L = (r0, L')) :
    Calls Try.prog 15 #[.pointer (some ⟨P, 0, none⟩), .int .i64 f, .int .i64 t, .slice A n c] w fun e w' => e = .returned (.int .i64 r0) ∧ RetRef w S P N L' w' := by
  have c0 := h.c0
  have hxl := hr.len
  unfold sendRes at hres
  have hsame := RetRef.same h (Below.refl _ _)
  by_cases hF : (0 ≤ f ∧ f < N) ∧ (0 ≤ t ∧ t < N)
  · obtain ⟨⟨hF1, hF2⟩, hT1, hT2⟩ := hF
    rw [if_neg (by omega)] at hres
    have d1 : decide (f < 0) = false := decide_eq_false (by omega)
    have d2 : decide (N ≤ f) = false := decide_eq_false (by omega)
    have d3 : decide (t < 0) = false := decide_eq_false (by omega)
    have d4 : decide (N ≤ t) = false := decide_eq_false (by omega)
    by_cases hL : 70000 < n
    · rw [if_pos (by omega)] at hres
      injection hres with e1 e2
      subst e1
      subst e2
      have d : decide ((70000 : Int) < (n : Int)) = true := decide_eq_true (by omega)
      have HR := Lib.hid hsame
      clear hsame hr hxl hL
      go_enter Try.func15, Try.ntmps15
      go_wp2_with fail
      go_ret
      exact ⟨rfl, HR.out⟩
    · rw [if_neg (by omega)] at hres
      have d : decide ((70000 : Int) < (n : Int)) = false := decide_eq_false (by omega)
      have hadd : Calls Try.prog 33 #[.pointer (some ⟨P, 0, none⟩), .agg #[.int .i64 f, .int .i64 t, .slice A n c, .bool true]] w fun e w' => e = .returned (.int .i64 r0) ∧ RetRef w S P N L' w' := by
        by_cases hfl : 4096 ≤ L.length
        · rw [if_pos hfl] at hres
          injection hres with e1 e2
          subst e1
          subst e2
          exact radd_full w S P N v L h hfl f t A n c true
        · rw [if_neg hfl] at hres
          injection hres with e1 e2
          subst e1
          subst e2
          exact radd_calls w S P N v L h (by omega) f t A n c true xs ok hf ht hr (by omega)
      clear hres hsame hr hxl hL
      go_enter Try.func15, Try.ntmps15
      go_wp2_with fail
      refine hadd.mono ?_
      rintro e w2 ⟨rfl, hrr⟩
      have HR := Lib.hid hrr
      clear hrr
      go_wp2_with fail
      go_ret
      exact ⟨rfl, HR.out⟩
  · rw [if_pos (by omega)] at hres
    injection hres with e1 e2
    subst e1
    subst e2
    have HR := Lib.hid hsame
    clear hsame hr hxl
    by_cases h1 : f < 0
    · have d1 : decide (f < 0) = true := decide_eq_true h1
      go_enter Try.func15, Try.ntmps15
      go_wp2_with fail
      go_ret
      exact ⟨rfl, HR.out⟩
    · have d1 : decide (f < 0) = false := decide_eq_false h1
      by_cases h2 : N ≤ f
      · have d2 : decide (N ≤ f) = true := decide_eq_true h2
        go_enter Try.func15, Try.ntmps15
        go_wp2_with fail
        go_ret
        exact ⟨rfl, HR.out⟩
      · have d2 : decide (N ≤ f) = false := decide_eq_false h2
        by_cases h3 : t < 0
        · have d3 : decide (t < 0) = true := decide_eq_true h3
          go_enter Try.func15, Try.ntmps15
          go_wp2_with fail
          go_ret
          exact ⟨rfl, HR.out⟩
        · have d3 : decide (t < 0) = false := decide_eq_false h3
          have d4 : decide (N ≤ t) = true := decide_eq_true (by omega)
          clear hF
          go_enter Try.func15, Try.ntmps15
          go_wp2_with fail
          go_ret
          exact ⟨rfl, HR.out⟩
/-- What the document's Deliver leaves. -/
def RetRDel (w : World) (S : Nat → Prop) (P : Nat) (N : Int) (p : Par) (er : Int) (L' : List Par) (e : Ending) (w' : World) : Prop :=
  ∃ A n c, e = .returned (.tuple #[.agg #[.int .i64 p.1, .int .i64 p.2.1, .slice A n c, .bool p.2.2.2], .int .i64 er]) ∧ n ≤ c ∧ RdB w' (fun k => S k ∧ k ≠ P) A n p.2.2.1 ∧ RetRef w S P N L' w'
set_option maxHeartbeats 800000 in
theorem rDeliver_none (w : World) (S : Nat → Prop) (P : Nat) (N : Int) (v : Value) (L : List Par) (h : QNet w S P N v L) (i : Int) (hi : i < 0 ∨ (L.length : Int) ≤ i) :
    Calls Try.prog 19 #[.pointer (some ⟨P, 0, none⟩), .int .i64 i] w (RetRDel w S P N noPar 6 L) := by
  obtain ⟨wS, hwS⟩ : ∃ wS, w.alloc (.cells #[.int .i64 0, .int .i64 0, .slice none 0 0, .bool false] TR) = wS := ⟨_, rfl⟩
  have hbS : Below w.heap.size w wS := by rw [← hwS]; exact allocBelow' _ _
  have hbox : BoxT TR wS w.heap.size 0 0 (.slice none 0 0) false := by rw [← hwS]; exact BoxT.made w 0 0 _ _
  have hcall := rAt_none wS S P N v L (h.below hbS) i hi
  have HWS := Lib.hid hwS
  clear hwS
  go_enter Try.func19, Try.ntmps19
  go_wp2_with fail
  rw [HWS.out]
  refine hcall.mono ?_
  rintro e w1 ⟨A, n, c, rfl, hnc, hrd, hb1⟩
  obtain ⟨w2, hw2⟩ : ∃ w2, w1.alloc (.cells #[.int .i64 noPar.1, .int .i64 noPar.2.1, .slice A n c, .bool noPar.2.2.2] TR) = w2 := ⟨_, rfl⟩
  have hb2 : Below w1.heap.size w1 w2 := by rw [← hw2]; exact allocBelow' _ _
  have hb3 := stepBelow hb1 hb2
  have hbx := (hbox.below hb3)
  have hbw := stepBelow hbS hb3
  have hbox6 : BoxT TR w2 w1.heap.size noPar.1 noPar.2.1 (.slice A n c) noPar.2.2.2 := by rw [← hw2]; exact BoxT.made w1 _ _ _ _
  obtain ⟨x0, x1, x2, x3, fx⟩ := hbx.cells
  obtain ⟨y0, y1, y2, y3, fy⟩ := hbox6.cells
  have hbF := chgBoxB w2 w.heap.size (.int .i64 noPar.1) (.int .i64 noPar.2.1) (.slice A n c) (.bool noPar.2.2.2) w hbw (Nat.le_refl _)
  have hres := RetRef.same h hbF
  have hn0 : n = 0 := by have := hrd.len; rw [← this]; rfl
  have hrdF : RdB ((((w2.setCell ⟨w.heap.size, 0, none⟩ (.int .i64 noPar.1)).setCell ⟨w.heap.size, 1, none⟩ (.int .i64 noPar.2.1)).setCell ⟨w.heap.size, 2, none⟩ (.slice A n c)).setCell ⟨w.heap.size, 3, none⟩ (.bool noPar.2.2.2)) (fun k => S k ∧ k ≠ P) A n noPar.2.2.1 := by rw [hn0]; exact RdB.nil _ _ _
  have HW2 := Lib.hid hw2
  have HR := Lib.hid hres
  have HRD := Lib.hid hrdF
  clear hw2 hres hrdF hbF hrd hn0
  go_upto_region 2 with (fail)
  rw [HW2.out]
  go_wp2_with fail
  refine bodyPost_ret (v := .tuple #[.agg #[.int .i64 noPar.1, .int .i64 noPar.2.1, .slice A n c, .bool noPar.2.2.2], .int .i64 6]) (by simp [results, Try.results19, go_sem, x0, x1, x2, x3, fx]) rfl ⟨A, n, c, rfl, hnc, HRD.out, HR.out⟩
end Go.Proofs.Ytmkmbnfmmibifaa
