/-
  The net's own calls: none, lay.
-/
import Derived.Test.YtmkmbnfmmibifaaNet1
namespace Go.Proofs.Ytmkmbnfmmibifaa
open Go.RowKit

abbrev PNet (w : World) (S : Nat → Prop) (P : Nat) (N : Int) (v : Value) (L : List Par) : Prop := NetAt 65 35 w S P N v L
theorem info_par : (Try.prog.info? 35).map (fun i => (i.zero, i.size, i.bytes)) = some (some (.agg #[.int .i64 0, .int .i64 0, .slice none 0 0, .bool false]), 4, 48) := by kernel_rfl
theorem none_calls (w : World) (S : Nat → Prop) (P : Nat) (N : Int) (v : Value) (L : List Par) (h : PNet w S P N v L) (hN : 1 ≤ N) :
    Calls Try.prog 25 #[.pointer (some ⟨P, 0, none⟩)] w fun e w' => e = .returned (.bool false) ∧ w = w' := by
  have c0 := h.c0
  have hN0 : (N == 0) = false := by rw [beq_eq_false_iff_ne]; omega
  go_enter Try.func25, Try.ntmps25
  go_wp2
  go_ret
  exact ⟨rfl, rfl⟩
set_option maxRecDepth 100000 in
theorem lay_full (w : World) (S : Nat → Prop) (P : Nat) (N : Int) (v : Value) (L : List Par) (h : PNet w S P N v L) (hL : 4096 ≤ L.length) (f t : Int) (A : Option Addr) (n c : Nat) (b : Bool) :
    Calls Try.prog 26 #[.pointer (some ⟨P, 0, none⟩), .agg #[.int .i64 f, .int .i64 t, .slice A n c, .bool b]] w fun e w' => e = .returned (.int .i64 7) ∧ Below w.heap.size w w' := by
  obtain ⟨Av, cv, rfl, hcv⟩ := h.form
  have c1 := h.c1
  have hpl := h.plt
  go_enter Try.func26, Try.ntmps26
  go_wp2
  go_ret
  exact ⟨rfl, allocBelow' _ _⟩
set_option maxRecDepth 100000 in
set_option maxHeartbeats 2000000 in
theorem lay_calls (w : World) (S : Nat → Prop) (P : Nat) (N : Int) (v : Value) (L : List Par) (h : PNet w S P N v L) (hL : L.length < 4096) (f t : Int) (A : Option Addr) (n c : Nat) (b : Bool) (xs : List UInt8) (ok : Nat → Prop) (hf : inI f) (ht : inI t) (hr : RdB w ok A n xs) (hn : n ≤ 140737488355328) :
    Calls Try.prog 26 #[.pointer (some ⟨P, 0, none⟩), .agg #[.int .i64 f, .int .i64 t, .slice A n c, .bool b]] w fun e w' => e = .returned (.int .i64 0) ∧ RetNet 65 35 w S P N (L ++ [(f, t, xs, b)]) w' := by
  obtain ⟨wS, hwS⟩ : ∃ wS, w.alloc (.cells #[.int .i64 f, .int .i64 t, .slice A n c, .bool b] 35) = wS := ⟨_, rfl⟩
  have hbS : Below w.heap.size w wS := by rw [← hwS]; exact allocBelow' _ _
  have p0 : wS.cell? ⟨w.heap.size, 0, none⟩ = some (.int .i64 f) := by rw [← hwS]; simp
  have p1 : wS.cell? ⟨w.heap.size, 1, none⟩ = some (.int .i64 t) := by rw [← hwS]; simp
  have p2 : wS.cell? ⟨w.heap.size, 2, none⟩ = some (.slice A n c) := by rw [← hwS]; simp
  have p3 : wS.cell? ⟨w.heap.size, 3, none⟩ = some (.bool b) := by rw [← hwS]; simp
  have hS := h.below hbS
  have hrS := hr.below hbS
  obtain ⟨Av, cv, rfl, hcv⟩ := h.form
  have c1w := h.c1
  have hpl := h.plt
  have c1 := hS.c1
  have HWS := Lib.hid hwS
  clear hwS hr
  go_enter Try.func26, Try.ntmps26
  go_wp2_with fail
  rw [HWS.out]
  obtain ⟨i0, hi, hzz⟩ := Option.map_eq_some_iff.1 info_par
  simp only [Prod.mk.injEq] at hzz
  obtain ⟨hz0, hz1, hz2⟩ := hzz
  have hg0 : ∀ g, (Value.slice Av L.length cv).ownBlock = some g → S g ∧ g ≠ P := fun g hg => (hS.own.lt g hg).1
  have hSlt := h.lt
  have hsS : w.heap.size ≤ wS.heap.size := hbS.size
  have hm1 : L.length + 1 ≤ maxLen := by unfold maxLen; omega
  have hb1 : (L.length + 1) * 48 ≤ 140737488355328 := by omega
  go_region_law (first
    | (go_simp; go_at_call 35; (with_reducible refine (apart_calls f t A n c xs b _ ok hrS.drew hn).mono ?_); rintro e w2 ⟨A', c', rfl, hfb', hb'⟩; obtain ⟨hr', hc'⟩ := hfb'.rd;
        have hbw2 : Below w.heap.size w (w2.alloc (.cells #[.int .i64 f, .int .i64 t, .slice A' n c', .bool b] 35)) := (stepBelow hbS.drew hb').alloc ((stepBelow hbS.drew hb').size) _;
        have c2 := (h.below (stepBelow hbS.drew hb')).c1;
        have c2a := (h.below hbw2).c1;
        have hO2 := ((h.below hbw2).own).mono (S' := fun k => (S k ∧ k ≠ P) ∨ (w.heap.size ≤ k ∧ k < (w2.alloc (.cells #[.int .i64 f, .int .i64 t, .slice A' n c', .bool b] 35)).heap.size)) (fun k _ hk => .inl hk);
        have hV2 : elPar.V (w2.alloc (.cells #[.int .i64 f, .int .i64 t, .slice A' n c', .bool b] 35)) (fun k => ((S k ∧ k ≠ P) ∨ (w.heap.size ≤ k ∧ k < (w2.alloc (.cells #[.int .i64 f, .int .i64 t, .slice A' n c', .bool b] 35)).heap.size)) ∧ some k ≠ (Value.slice Av L.length cv).ownBlock) [.int .i64 f, .int .i64 t, .slice A' n c', .bool b] (f, t, xs, b) := par_mk hf ht hc' ((hr'.alloc _).mono fun k hk hl => ⟨.inr ⟨Nat.le_trans hsS hk.1, hl⟩, fun e => by have h1 := (hg0 k e.symm).1; have h2 := hSlt k h1; have h3 := hk.1; have h4 : w.heap.size ≤ wS.drew.heap.size := hsS; omega⟩);
        have hnc := newCells w2 #[.int .i64 f, .int .i64 t, .slice A' n c', .bool b] 35 (0, 0))
    | (refine Own.step (E := elPar) (by rfl) _ _ 54 (by rfl) i0 _ 48 Try.underlying54 hi hz0 hz1 hz2 rfl (by decide) (by rfl) hO2 ⟨w2.heap.size, 0, none⟩ 1 _ _ (by rfl) hV2 hnc hm1 hb1 ?_; intro v3 w3 ho3 hg3 _;
        have hc3 : Chg (fun k => S k ∧ k ≠ P) w w3 := (Chg.ofBelow hbw2).trans (Chg.ofGrown hg3) (fun k _ hk => hg0 k hk.symm);
        have hne3 : ¬ (S P ∧ P ≠ P) := fun hh => hh.2 rfl;
        have c3 := hc3.cell c1w hne3;
        obtain ⟨A3, n3, cc3, rfl, -, -⟩ := ho3.shape;
        have hfr : ∀ i, w3.frozen? ⟨P, i, none⟩ = false := fun i => (World.frozen?_of_block (a := ⟨P, i, none⟩) (hc3.block P hpl hne3)).trans (h.fr i)))
  all_goals
    go_wp2_with fail
    go_ret
    have ho4 := ho3.mono (S' := fun k => ((S k ∧ k ≠ P) ∨ w.heap.size ≤ k) ∧ k < w3.heap.size) fun k hl hk => ⟨by
      rcases hk with (hk | hk) | hk
      · exact .inl hk
      · exact .inr hk.1
      · exact .inr (by rw [hk]; exact hbw2.size), hl⟩
    have hp := h.put hc3 ho4 (fun k hk => by
      rcases hk.1 with h1 | h1
      · exact .inl h1
      · exact .inr ⟨h1, hk.2⟩)
    exact ⟨rfl, _, _, hp, (hc3.mono fun k _ hk => hk.1).trans (Chg.set _ _ _) (fun k _ hk => by rw [hk]; exact h.sp), fun k hk => by
      rcases hk with ⟨hk | hk, _⟩ | rfl
      · exact .inl hk.1
      · exact .inr hk
      · exact .inl h.sp⟩
end Go.Proofs.Ytmkmbnfmmibifaa
