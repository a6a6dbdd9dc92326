/-
  The document's net: Send, is, At, Double.
-/
import Derived.Test.YtmkmbnfmmibifaaNetC
namespace Go.Proofs.Ytmkmbnfmmibifaa
open Go.RowKit

/-- The cells of a parcel of the row. -/
theorem rparCells {w : World} {S : Nat → Prop} {P : Nat} {N : Int} {v : Value} {L : List Par} (h : QNet w S P N v L) (i : Nat) (p : Par) (hp : L[i]? = some p) :
    ∃ g cap A n c, v = .slice (some ⟨g, 0, none⟩) L.length cap ∧ L.length ≤ cap ∧ w.cell? ⟨g, i * 4, none⟩ = some (.int .i64 p.1) ∧ w.cell? ⟨g, i * 4 + 1, none⟩ = some (.int .i64 p.2.1) ∧ w.cell? ⟨g, i * 4 + 2, none⟩ = some (.slice A n c) ∧ w.cell? ⟨g, i * 4 + 3, none⟩ = some (.bool p.2.2.2) ∧
      n ≤ c ∧ inI p.1 ∧ inI p.2.1 ∧ RdB w (fun k => S k ∧ k ≠ P) A n p.2.2.1 := by
  obtain ⟨g, cap, vs, e, hg, _, hcap, hV, hc, hf⟩ := h.own.at_ i p hp
  obtain ⟨A, n, c, rfl, hcc, h1, h2, hr⟩ := par_open hV
  exact ⟨g, cap, A, n, c, e, hcap, hc 0 _ rfl, hc 1 _ rfl, hc 2 _ rfl, hc 3 _ rfl, hcc, h1, h2, hr.mono fun k hk _ => hk.1⟩
theorem ris_calls (w : World) (S : Nat → Prop) (P : Nat) (N : Int) (v : Value) (L : List Par) (h : QNet w S P N v L) (i : Int) (b : Bool) (hb : decide (0 ≤ i ∧ i < (L.length : Int)) = b) :
    Calls Try.prog 36 #[.pointer (some ⟨P, 0, none⟩), .int .i64 i] w fun e w' => e = .returned (.bool b) ∧ w = w' := by
  have c1 := h.c1
  obtain ⟨Av, cv, rfl, hcv⟩ := h.form
  by_cases h0 : 0 ≤ i
  · have d1 : decide (0 ≤ i) = true := decide_eq_true h0
    have d2 : decide (i < (L.length : Int)) = b := by rw [← hb]; congr 1; simp [h0]
    clear hb
    go_enter Try.func36, Try.ntmps36
    go_wp2_with fail
    go_ret
    exact ⟨rfl, rfl⟩
  · have d1 : decide (0 ≤ i) = false := decide_eq_false h0
    have hbf : b = false := by rw [← hb]; simp [h0]
    subst hbf
    clear hb
    go_enter Try.func36, Try.ntmps36
    go_wp2_with fail
    go_ret
    exact ⟨rfl, rfl⟩
/-- What the document's At leaves. -/
def RetRAt (w : World) (ok : Nat → Prop) (p : Par) (er : Int) (e : Ending) (w' : World) : Prop :=
  ∃ A n c, e = .returned (.tuple #[.agg #[.int .i64 p.1, .int .i64 p.2.1, .slice A n c, .bool p.2.2.2], .int .i64 er]) ∧ n ≤ c ∧ RdB w' ok A n p.2.2.1 ∧ Below w.heap.size w w'
theorem chgBoxB (w : World) (x : Nat) (a b c d : Value) (W0 : World) (hb : Below W0.heap.size W0 w) (hx : W0.heap.size ≤ x) : Below W0.heap.size W0 ((((w.setCell ⟨x, 0, none⟩ a).setCell ⟨x, 1, none⟩ b).setCell ⟨x, 2, none⟩ c).setCell ⟨x, 3, none⟩ d) :=
  (chgBox w x a b c d).below hb hb.size (fun k hk => by omega)
set_option maxHeartbeats 800000 in
theorem rAt_calls (w : World) (S : Nat → Prop) (P : Nat) (N : Int) (v : Value) (L : List Par) (h : QNet w S P N v L) (i : Nat) (p : Par) (hp : L[i]? = some p) :
    Calls Try.prog 17 #[.pointer (some ⟨P, 0, none⟩), .int .i64 (i : Int)] w (RetRAt w (fun k => S k ∧ k ≠ P) p 0) := by
  obtain ⟨wS, hwS⟩ : ∃ wS, w.alloc (.cells #[.int .i64 0, .int .i64 0, .slice none 0 0, .bool false] TR) = wS := ⟨_, rfl⟩
  have hbS : Below w.heap.size w wS := by rw [← hwS]; exact allocBelow' _ _
  have hS := h.below hbS
  have hbox : BoxT TR wS w.heap.size 0 0 (.slice none 0 0) false := by rw [← hwS]; exact BoxT.made w 0 0 _ _
  have hi : i < L.length := (List.getElem?_eq_some_iff.1 hp).1
  have hcall := ris_calls wS S P N v L hS (i : Int) true (decide_eq_true ⟨by omega, by omega⟩)
  obtain ⟨g, cap, A, n, c, rfl, hcap, k0, k1, k2, k3, hnc, hf, ht, hr⟩ := rparCells hS i p hp
  have c1 := hS.c1
  obtain ⟨x0, x1, x2, x3, fx⟩ := hbox.cells
  have hiL : (i : Int) < (L.length : Int) := by omega
  have hbw := chgBoxB wS w.heap.size (.int .i64 p.1) (.int .i64 p.2.1) (.slice A n c) (.bool p.2.2.2) w hbS (Nat.le_refl _)
  have hfin : RdB ((((wS.setCell ⟨w.heap.size, 0, none⟩ (.int .i64 p.1)).setCell ⟨w.heap.size, 1, none⟩ (.int .i64 p.2.1)).setCell ⟨w.heap.size, 2, none⟩ (.slice A n c)).setCell ⟨w.heap.size, 3, none⟩ (.bool p.2.2.2)) (fun k => S k ∧ k ≠ P) A n p.2.2.1 :=
    hr.keep (by simp [World.setCell]) fun k hk hl => (chgBox wS w.heap.size _ _ _ _).block k hl (fun e => by have h1 := h.lt k hk.1; have e' : k = w.heap.size := e; omega)
  have HWS := Lib.hid hwS
  have HB := Lib.hid hbw
  have HF := Lib.hid hfin
  clear hwS hbw hfin hr
  go_enter Try.func17, Try.ntmps17
  go_wp2_with fail
  rw [HWS.out]
  refine hcall.mono ?_
  rintro e w' ⟨rfl, rfl⟩
  go_wp2_with fail
  refine bodyPost_ret (v := .tuple #[.agg #[.int .i64 p.1, .int .i64 p.2.1, .slice A n c, .bool p.2.2.2], .int .i64 0]) (by simp [results, Try.results17, go_sem, x0, x1, x2, x3, fx]) rfl ⟨A, n, c, rfl, hnc, HF.out, HB.out⟩
set_option maxHeartbeats 800000 in
theorem rAt_none (w : World) (S : Nat → Prop) (P : Nat) (N : Int) (v : Value) (L : List Par) (h : QNet w S P N v L) (i : Int) (hi : i < 0 ∨ (L.length : Int) ≤ i) :
    Calls Try.prog 17 #[.pointer (some ⟨P, 0, none⟩), .int .i64 i] w (RetRAt w (fun k => S k ∧ k ≠ P) noPar 6) := by
  obtain ⟨wS, hwS⟩ : ∃ wS, w.alloc (.cells #[.int .i64 0, .int .i64 0, .slice none 0 0, .bool false] TR) = wS := ⟨_, rfl⟩
  have hbS : Below w.heap.size w wS := by rw [← hwS]; exact allocBelow' _ _
  have hS := h.below hbS
  have hbox : BoxT TR wS w.heap.size 0 0 (.slice none 0 0) false := by rw [← hwS]; exact BoxT.made w 0 0 _ _
  have hcall := ris_calls wS S P N v L hS i false (decide_eq_false (by omega))
  obtain ⟨x0, x1, x2, x3, fx⟩ := hbox.cells
  have hbw := chgBoxB wS w.heap.size (.int .i64 0) (.int .i64 0) (.slice none 0 0) (.bool false) w hbS (Nat.le_refl _)
  have HWS := Lib.hid hwS
  have HB := Lib.hid hbw
  clear hwS hbw
  go_enter Try.func17, Try.ntmps17
  go_wp2_with fail
  rw [HWS.out]
  refine hcall.mono ?_
  rintro e w' ⟨rfl, rfl⟩
  go_wp2_with fail
  refine bodyPost_ret (v := .tuple #[.agg #[.int .i64 0, .int .i64 0, .slice none 0 0, .bool false], .int .i64 6]) (by simp [results, Try.results17, go_sem, x0, x1, x2, x3, fx]) rfl ⟨none, 0, 0, rfl, Nat.le_refl _, RdB.nil _ _ _, HB.out⟩
set_option maxHeartbeats 800000 in
theorem rDouble_calls (w : World) (S : Nat → Prop) (P : Nat) (N : Int) (v : Value) (L : List Par) (h : QNet w S P N v L) (hs : Small L) (i : Nat) (p : Par) (hp : L[i]? = some p) (r0 : Int) (L' : List Par) (hr0 : (L.length < 4096 ∧ r0 = 0 ∧ L' = L ++ [p]) ∨ (4096 ≤ L.length ∧ r0 = 7 ∧ L' = L)) :
    Calls Try.prog 20 #[.pointer (some ⟨P, 0, none⟩), .int .i64 (i : Int)] w fun e w' => e = .returned (.int .i64 r0) ∧ RetRef w S P N L' w' := by
  have hcall := rAt_calls w S P N v L h i p hp
  obtain ⟨_, _, _, _, _, _, _, _, _, _, _, _, hf, ht, _⟩ := rparCells h i p hp
  have hpl := hs p (List.mem_of_getElem? hp)
  have H0 := Lib.hid hr0
  clear hr0
  go_enter Try.func20, Try.ntmps20
  go_wp2_with fail
  refine hcall.mono ?_
  rintro e w1 ⟨A, n, c, rfl, hnc, hrd, hb1⟩
  obtain ⟨w2, hw2⟩ : ∃ w2, w1.alloc (.cells #[.int .i64 p.1, .int .i64 p.2.1, .slice A n c, .bool p.2.2.2] TR) = w2 := ⟨_, rfl⟩
  have hb2 : Below w1.heap.size w1 w2 := by rw [← hw2]; exact allocBelow' _ _
  have hbox : BoxT TR w2 w1.heap.size p.1 p.2.1 (.slice A n c) p.2.2.2 := by rw [← hw2]; exact BoxT.made w1 _ _ _ _
  obtain ⟨x0, x1, x2, x3, fx⟩ := hbox.cells
  have hbw := stepBelow hb1 hb2
  have h2 := h.below hbw
  have hrl := hrd.len
  have hadd : Calls Try.prog 33 #[.pointer (some ⟨P, 0, none⟩), .agg #[.int .i64 p.1, .int .i64 p.2.1, .slice A n c, .bool p.2.2.2]] w2 fun e w' => e = .returned (.int .i64 r0) ∧ RetRef w S P N L' w' := by
    rcases H0.out with ⟨h1, e1, e2⟩ | ⟨h1, e1, e2⟩ <;> rw [e1, e2]
    · exact (radd_calls w2 S P N v L h2 h1 p.1 p.2.1 A n c p.2.2.2 p.2.2.1 _ hf ht (hrd.below hb2) (by omega)).mono fun e w' ⟨he, hw⟩ => ⟨he, hw.from hbw⟩
    · exact (radd_full w2 S P N v L h2 h1 p.1 p.2.1 A n c p.2.2.2).mono fun e w' ⟨he, hw⟩ => ⟨he, hw.from hbw⟩
  have HW2 := Lib.hid hw2
  clear hw2 hrl hrd
  go_wp2_with fail
  rw [HW2.out]
  refine hadd.mono ?_
  rintro e w3 ⟨rfl, hrr⟩
  have HR := Lib.hid hrr
  clear hrr
  go_wp2_with fail
  go_ret
  exact ⟨rfl, HR.out⟩
theorem rDouble_none (w : World) (S : Nat → Prop) (P : Nat) (N : Int) (v : Value) (L : List Par) (h : QNet w S P N v L) (i : Int) (hi : i < 0 ∨ (L.length : Int) ≤ i) :
    Calls Try.prog 20 #[.pointer (some ⟨P, 0, none⟩), .int .i64 i] w fun e w' => e = .returned (.int .i64 6) ∧ RetRef w S P N L w' := by
  have hcall := rAt_none w S P N v L h i hi
  go_enter Try.func20, Try.ntmps20
  go_wp2_with fail
  refine hcall.mono ?_
  rintro e w1 ⟨A, n, c, rfl, hnc, hrd, hb1⟩
  have hres := RetRef.same h (stepBelow hb1 (allocBelow' w1 (.cells #[.int .i64 noPar.1, .int .i64 noPar.2.1, .slice A n c, .bool noPar.2.2.2] TR)))
  have HR := Lib.hid hres
  clear hres hrd
  go_wp2_with fail
  go_ret
  exact ⟨rfl, HR.out⟩
end Go.Proofs.Ytmkmbnfmmibifaa
