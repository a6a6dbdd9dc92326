/-
  The net's Deliver, Send, Len, All, Copy, New.
-/
import Derived.Test.YtmkmbnfmmibifaaNet8
namespace Go.Proofs.Ytmkmbnfmmibifaa
open Go.RowKit

theorem Len_calls (w : World) (S : Nat → Prop) (P : Nat) (N : Int) (v : Value) (L : List Par) (h : PNet w S P N v L) (hN : 1 ≤ N) :
    Calls Try.prog 12 #[.pointer (some ⟨P, 0, none⟩)] w fun e w' => e = .returned (.int .i64 (L.length : Int)) ∧ w = w' := by
  have c1 := h.c1
  obtain ⟨Av, cv, rfl, hcv⟩ := h.form
  have hnone := none_calls w S P N _ L h hN
  go_enter Try.func12, Try.ntmps12
  go_wp2_with fail
  refine hnone.mono ?_
  rintro e w' ⟨rfl, rfl⟩
  go_wp2_with fail
  go_ret
  exact ⟨rfl, rfl⟩
theorem New_bad (w : World) (z : Int) (h : z < 1 ∨ 64 < z) : Calls Try.prog 6 #[.int .i64 z] w fun e w' => e = .returned (.tuple #[.pointer none, .int .i64 1]) ∧ w = w' := by
  rcases h with h | h
  · have d1 : decide (z < 1) = true := decide_eq_true h
    go_enter Try.func6, Try.ntmps6
    go_wp2_with fail
    go_ret2
    exact ⟨rfl, rfl⟩
  · have d1 : decide (z < 1) = false := decide_eq_false (by omega)
    have d2 : decide (64 < z) = true := decide_eq_true h
    go_enter Try.func6, Try.ntmps6
    go_wp2_with fail
    go_ret2
    exact ⟨rfl, rfl⟩
theorem New_calls (w : World) (z : Int) (h1 : 1 ≤ z) (h2 : z ≤ 64) : Calls Try.prog 6 #[.int .i64 z] w fun e w' => e = .returned (.tuple #[.pointer (some ⟨w.heap.size, 0, none⟩), .int .i64 0]) ∧
    PNet w' (fun k => k = w.heap.size) w.heap.size z (.slice none 0 0) [] ∧ Below w.heap.size w w' := by
  have d1 : decide (z < 1) = false := decide_eq_false (by omega)
  have d2 : decide (64 < z) = false := decide_eq_false (by omega)
  have hres : PNet (w.alloc (.cells #[.int .i64 z, .slice none 0 0] TN)) (fun k => k = w.heap.size) w.heap.size z (.slice none 0 0) [] := ⟨heap_alloc_new w _, rfl, Own.nil _ _ _ _, fun k hk => by rw [hk]; simp⟩
  have HRES := Lib.hid hres
  clear hres
  go_enter Try.func6, Try.ntmps6
  go_wp2_with fail
  go_ret2
  exact ⟨rfl, HRES.out, allocBelow' _ _⟩
/-- What Deliver leaves. -/
def RetDel (w : World) (S : Nat → Prop) (P : Nat) (N : Int) (p : Par) (er : Int) (L' : List Par) (e : Ending) (w' : World) : Prop :=
  ∃ A n c S' v', e = .returned (.tuple #[.agg #[.int .i64 p.1, .int .i64 p.2.1, .slice A n c, .bool p.2.2.2], .int .i64 er]) ∧ FB w w' A n c p.2.2.1 ∧ PNet w' S' P N v' L' ∧ Chg S w w' ∧ (∀ k, S' k → S k ∨ w.heap.size ≤ k) ∧
    ∀ k, (Value.slice A n c).ownBlock = some k → ¬ S' k
set_option maxHeartbeats 1600000 in
theorem deliver_any (w : World) (S : Nat → Prop) (P : Nat) (N : Int) (v : Value) (L : List Par) (h : PNet w S P N v L) (i : Int) (p : Par) (er er2 : Int) (L' : List Par)
    (hAt : ∀ W v, PNet W S P N v L → Calls Try.prog 16 #[.pointer (some ⟨P, 0, none⟩), .int .i64 i] W (RetAt W p er2))
    (hDr : ∀ W v, PNet W S P N v L → Calls Try.prog 9 #[.pointer (some ⟨P, 0, none⟩), .int .i64 i] W fun e w' => e = .returned (.int .i64 er) ∧ RetNet TN TP W S P N L' w') :
    Calls Try.prog 8 #[.pointer (some ⟨P, 0, none⟩), .int .i64 i] w (RetDel w S P N p er L') := by
  obtain ⟨wS, hwS⟩ : ∃ wS, w.alloc (.cells #[.int .i64 0, .int .i64 0, .slice none 0 0, .bool false] TP) = wS := ⟨_, rfl⟩
  have hbS : Below w.heap.size w wS := by rw [← hwS]; exact allocBelow' _ _
  have hzS : wS.heap.size = w.heap.size + 1 := by rw [← hwS]; simp
  have hS := h.below hbS
  have hbox : Box wS w.heap.size 0 0 (.slice none 0 0) false := by rw [← hwS]; exact Box.made w 0 0 _ _
  have hcall := hAt wS v hS
  have hlt := h.lt
  have HWS := Lib.hid hwS
  clear hwS hAt
  go_enter Try.func8, Try.ntmps8
  go_wp2_with fail
  rw [HWS.out]
  refine hcall.mono ?_
  rintro e w1 ⟨A, n, c, rfl, hfb, hb1⟩
  obtain ⟨w2, hw2⟩ : ∃ w2, w1.alloc (.cells #[.int .i64 p.1, .int .i64 p.2.1, .slice A n c, .bool p.2.2.2] TP) = w2 := ⟨_, rfl⟩
  have hb12 : Below w1.heap.size w1 w2 := by rw [← hw2]; exact allocBelow' _ _
  have hbox6 : Box w2 w1.heap.size p.1 p.2.1 (.slice A n c) p.2.2.2 := by rw [← hw2]; exact Box.made w1 _ _ _ _
  have hb2 := stepBelow hb1 hb12
  have hbox4 := hbox.chg (Chg.ofBelow (S := NoB) hb2) id
  have hbw2 := stepBelow hbS hb2
  have hfb2 := (hfb.below hb12).from hbS.size
  have h2 := h.below hbw2
  have hz1 := hb1.size
  have hz2 := hb12.size
  have hl6 := hbox6.lt
  have hdr := hDr w2.drew v h2.drew
  obtain ⟨x0, x1, x2, x3, fx⟩ := hbox6.cells
  have HW2 := Lib.hid hw2
  have HBX := Lib.hid hbox6
  have HB4 := Lib.hid hbox4
  have HFB := Lib.hid hfb
  have HFB2 := Lib.hid hfb2
  clear hw2 hDr hbox hbox6 hbox4 hfb hfb2
  go_wp2_with fail
  rw [HW2.out]
  go_region_law (first
    | (go_simp; go_at_call 9; (with_reducible refine hdr.mono ?_); rintro e w3 ⟨rfl, S3, v3, h3, hc3, hs3⟩;
        have hc23 := hc3.fromDrew;
        have hB6 := HBX.out.chg hc23 (fun hh => by have := hlt _ hh; omega);
        have hB4 := HB4.out.chg hc23 (fun hh => by have := hlt _ hh; omega);
        obtain ⟨y0, y1, y2, y3, fy⟩ := hB6.cells;
        obtain ⟨z0, z1, z2, z3, fz⟩ := hB4.cells))
  all_goals
    have hn4 : ¬ S3 w.heap.size := fun hh => by
      rcases hs3 _ hh with h1 | h1
      · have := hlt _ h1; omega
      · have : w2.drew.heap.size = w2.heap.size := rfl
        omega
    have hcx := chgBox w3 w.heap.size (.int .i64 p.1) (.int .i64 p.2.1) (.slice A n c) (.bool p.2.2.2)
    have h4 := h3.chg hcx (fun k hk e => hn4 (by rw [← e]; exact hk))
    have hch : Chg S w ((((w3.setCell ⟨w.heap.size, 0, none⟩ (.int .i64 p.1)).setCell ⟨w.heap.size, 1, none⟩ (.int .i64 p.2.1)).setCell ⟨w.heap.size, 2, none⟩ (.slice A n c)).setCell ⟨w.heap.size, 3, none⟩ (.bool p.2.2.2)) :=
      (((Chg.ofBelow hbw2).trans hc23 fun _ _ h => h).trans (T := fun k => k = w.heap.size) hcx fun k hk e => by omega)
    have hfin : FB w ((((w3.setCell ⟨w.heap.size, 0, none⟩ (.int .i64 p.1)).setCell ⟨w.heap.size, 1, none⟩ (.int .i64 p.2.1)).setCell ⟨w.heap.size, 2, none⟩ (.slice A n c)).setCell ⟨w.heap.size, 3, none⟩ (.bool p.2.2.2)) A n c p.2.2.1 := by
      refine ((HFB.out.below hb12).keep hc23 fun k hk hh => ?_).keep hcx (fun k hk e => ?_) |>.from hbS.size
      · have := hlt k hh; have := hk.1; omega
      · have := hk.1; omega
    have hdis : ∀ k, (Value.slice A n c).ownBlock = some k → ¬ S3 k := fun k hk hh => by
      have hl := HFB.out.2.lt k hk
      rcases hs3 _ hh with h1 | h1
      · have := hlt _ h1; omega
      · have : w2.drew.heap.size = w2.heap.size := rfl
        omega
    have H4 := Lib.hid h4
    have HCH := Lib.hid hch
    have HFIN := Lib.hid hfin
    have HDIS := Lib.hid hdis
    have HS3 := Lib.hid hs3
    clear h4 hch hfin hdis hs3 hc3 hc23 h3 hcx hn4
    go_wp2_with fail
    refine bodyPost_ret (v := .tuple #[.agg #[.int .i64 p.1, .int .i64 p.2.1, .slice A n c, .bool p.2.2.2], .int .i64 er]) (by simp [results, Try.results8, go_sem, z0, z1, z2, z3, fz]) rfl ⟨A, n, c, S3, v3, rfl, HFIN.out, H4.out, HCH.out, fun k hk => (HS3.out k hk).imp_right fun hh => Nat.le_trans hbw2.size hh, HDIS.out⟩
end Go.Proofs.Ytmkmbnfmmibifaa
