/-
  The walk of window's Move.
-/
import Derived.Test.YtplkmcjobmhneaaWinA
namespace Go.Proofs.Ytplkmcjobmhneaa
open Go.RowKit Go.Shelf
attribute [local go_sem] Oper.semAt_some

theorem Win.set2 {w : World} {g b n : Nat} (h : Win w g b n) (nb : Nat) (hnb : nb ≤ 1099511627776) :
    Win ((w.setCell ⟨g, 0, none⟩ (.int .u64 (nb : Int))).setCell ⟨g, 1, none⟩ (.int .i64 (n : Int))) g nb n := by
  obtain ⟨h1, h2, h3, h4, h5, h6, h7⟩ := h.moved nb hnb
  refine ⟨h1, h2, h3, by simpa [World.setCell] using h4, ?_, World.cell?_setCell_same' _ _ _ (by rw [h6]; rfl), fun j => by rw [World.frozen?_setCell]; exact h7 j⟩
  exact (World.cell?_setCell_other _ _ _ _ (by simp)).trans h5
theorem keepsDrewN (W : World) (k : Nat) : KeepsOthers W (W.drewN k) := ⟨Nat.le_refl _, fun _ _ h _ => h⟩
theorem move_bad (g b n nb : Nat) (w : World) (h : Win w g b n) (hb : 1099511627776 < nb) :
    Calls Try.prog 9 #[.pointer (some ⟨g, 0, none⟩), .int .u64 (nb : Int)] w fun e w' => e = .returned (.tuple #[.slice none 0 0, .int .i64 1]) ∧ w = w' := by
  have hbi : (1099511627776 : Int) < (nb : Int) := by omega
  have hn0 : ((n : Int) == 0) = false := by rw [beq_eq_false_iff_ne]; have := h.2.1; omega
  go_enter Try.func9, Try.ntmps9
  go_wp2_with fail
  refine (width_calls g b n w h).mono ?_
  rintro e w1 ⟨rfl, rfl⟩
  go_wp2
  go_ret2
  exact ⟨rfl, rfl⟩
set_option maxRecDepth 100000 in
set_option maxHeartbeats 2000000 in
theorem move_calls (g b n nb : Nat) (w : World) (h : Win w g b n) (hb : nb ≤ 1099511627776) :
    Calls Try.prog 9 #[.pointer (some ⟨g, 0, none⟩), .int .u64 (nb : Int)] w (Moved w g b nb n) := by
  refine (callsIn_wide (n := 5)).1 ?_
  obtain ⟨i0, hi, hz0, hz1, hz2⟩ := info_parts info_u64
  have hbi : ¬ (1099511627776 : Int) < (nb : Int) := by omega
  have hn0 : ((n : Int) == 0) = false := by rw [beq_eq_false_iff_ne]; have := h.2.1; omega
  have hl16 : (els b n).length ≤ 16 := by have := h.1; have := h.2.2.1; rw [els_length]; unfold wend; omega
  have hgl : g < w.heap.size := h.2.2.2.1
  have c1 := h.2.2.2.2.2.1
  refine callsIn_of_wp_marks Try.func9 rfl trivial ?_ rfl
  simp only [Try.ntmps9, List.size_toArray, List.length_cons, List.length_nil, Nat.reduceAdd, Nat.reduceSub, Array.replicate_succ, Array.replicate_zero, List.push_toArray, List.append_toArray, List.nil_append, List.cons_append]
  gi_wp2
  refine ⟨trivial, (callsIn_wide.2 (width_calls g b n w h)).mono ?_⟩
  rintro e' w' ⟨rfl, rfl⟩
  gi_wp2
  obtain ⟨W0, hW0⟩ : ∃ W0, (((w.alloc (.cells #[.int .u64 (nb : Int), .int .i64 (n : Int)] 53)).alloc (.cells #[.pointer (some ⟨w.heap.size, 0, none⟩)] 24)).alloc (.cells #[.slice none 0 0] 22)) = W0 := ⟨_, rfl⟩
  rw [hW0]
  have hsz : W0.heap.size = w.heap.size + 3 := by rw [← hW0]; simp
  have hB0 : Below w.heap.size w W0 := by rw [← hW0]; exact (((Below.refl _ w).alloc (Nat.le_refl _) _).alloc (by simp) _).alloc (by simp; omega) _
  have bO : Boxed W0 (w.heap.size + 2) 22 (.slice none 0 0) := by
    have := Boxed.new ((w.alloc (.cells #[.int .u64 (nb : Int), .int .i64 (n : Int)] 53)).alloc (.cells #[.pointer (some ⟨w.heap.size, 0, none⟩)] 24)) 22 (.slice none 0 0)
    rw [hW0] at this
    simpa using this
  have hN0 : Win W0 w.heap.size nb n := by
    have h1 := Win.made w nb n 53 hb h.2.1 h.2.2.1
    rw [← hW0]
    exact (h1.below ((Below.refl _ _).alloc (Nat.le_refl _) _)).below ((Below.refl _ _).alloc (Nat.le_refl _) _)
  have hP0 : W0.cell? ⟨w.heap.size + 1, 0, none⟩ = some (.pointer (some ⟨w.heap.size, 0, none⟩)) := by
    have h1 := World.cell?_alloc_new (w.alloc (.cells #[.int .u64 (nb : Int), .int .i64 (n : Int)] 53)) #[.pointer (some ⟨w.heap.size, 0, none⟩)] 24 0
    rw [World.size_alloc] at h1
    rw [← hW0]
    exact cellBelow ((Below.refl _ _).alloc (Nat.le_refl _) _) h1
  clear hW0
  refine wpIn_rangeB rfl (by omega) (gf := 22) (fb := #[.pointer (some ⟨g, 0, none⟩)]) rfl trivial (enters_of Try.func22 (by kernel_rfl) rfl)
    (each_seq 4 g b n (by omega) _ (w.heap.size + 2) (by omega) (by omega) (h.below hB0)) belowK_t (belowK_b (by omega)) (fun _ => rfl)
    (fun pre W => (∃ v, Boxed W (w.heap.size + 2) 22 v ∧ W.ownsRow (w.heap.size + 2) 23 1 v (goneOf b nb n pre).length (uvals (goneOf b nb n pre)) ∧ True) ∧ Below (w.heap.size + 2) W0 W)
    (OwnFrom.and (Own.from (holdsRow_own (w.heap.size + 2) (w.heap.size + 2) 22 23 1 (fun pre => (goneOf b nb n pre).length) (fun pre => uvals (goneOf b nb n pre)) (fun _ _ => True)) _) (ownFrom_below (by omega) (by omega)))
    (fun pre A k hI => ⟨hI.1, belowDrewN hI.2 k⟩)
    ⟨⟨_, bO, World.ownsRow_nil _ _ _ _, trivial⟩, Below.refl _ _⟩
    (fun x => { tmps := #[.pointer (some ⟨g, 0, none⟩), .int .u64 (nb : Int), undef, undef, .slice none 0 0, .int .i64 0, .pointer (some ⟨w.heap.size + 1, 0, none⟩), .pointer (some ⟨w.heap.size + 1 + 1, 0, none⟩), .int .u64 (x : Int), .bool false,
      .pointer (some ⟨g, 0, none⟩), .int .i64 (n : Int), .bool false, .bool (decide (1099511627776 < (nb : Int))), .int .u64 (nb : Int), .bool (decide (1099511627776 < (nb : Int))), .int .u64 (nb : Int), .pointer (some ⟨g, 0, none⟩), .pointer (some ⟨g, 0, none⟩), .pointer (some ⟨g, 1, none⟩), .int .i64 (n : Int),
      .agg #[.int .u64 (nb : Int), .int .i64 (n : Int)], .pointer (some ⟨w.heap.size, 0, none⟩), .pointer (some ⟨g, 0, none⟩), .func (.func 22) #[.pointer (some ⟨g, 0, none⟩)] #[], .int .u64 (x : Int), undef, undef, undef, undef, undef, undef, undef, undef, undef, undef, undef, undef, undef, undef], defers := [] }) ?assign ?body ?done
  case assign =>
    intro l x W K hK
    gi_wp2
    exact hK
  case body =>
    rintro l pre x W ⟨⟨v, hv, hrow, _⟩, hB⟩ hlt
    have hc : W.cell? ⟨w.heap.size + 1 + 1, 0, none⟩ = some v := hv.cell
    have hP := (hB.cell (p := ⟨w.heap.size + 1, 0, none⟩) (by simp)).trans hP0
    have hN : Win W w.heap.size nb n := hN0.keep hB.size (hB.block _ (by omega))
    have hgo := goneOf_length b nb n pre
    gi_wp2
    refine ⟨trivial, (CallsIn.inRound l (callsIn_wide.2 (in_calls w.heap.size nb n x W hN))).mono ?_⟩
    rintro e' w' ⟨rfl, k, rfl⟩
    have hin : decide (nb ≤ x ∧ x < wend nb n) = inw nb n x := rfl
    rw [hin]
    have hk1 := keepsDrewN W k
    have hb1 : Below (w.heap.size + 2) W (W.drewN k) := belowDrewN (Below.refl _ _) k
    have hv1 : Boxed (W.drewN k) (w.heap.size + 2) 22 v := hv
    have hrow1 : (W.drewN k).ownsRow (w.heap.size + 2) 23 1 v (goneOf b nb n pre).length (uvals (goneOf b nb n pre)) := hrow
    obtain ⟨W2, hW2⟩ : ∃ W2, W.drewN k = W2 := ⟨_, rfl⟩
    rw [hW2] at hk1 hb1 hv1 hrow1 ⊢
    have hB2 := hB.trans hb1
    have hc2 : W2.cell? ⟨w.heap.size + 1 + 1, 0, none⟩ = some v := hv1.cell
    have hsz2 : w.heap.size + 3 ≤ W2.heap.size := by have := hB2.size; omega
    clear hW2
    cases hix : inw nb n x with
    | true =>
      gi_wp2
      exact ⟨hk1.from _, hb1, ⟨v, hv1, by rw [goneOf_hit b nb n pre x hix]; exact hrow1, trivial⟩, hB2⟩
    | false =>
      gi_wp2_with (gi_at_builtin; refine wpListIn_append_own _ rfl _ _ 22 rfl (w.heap.size + 2) 23 i0 (.int .u64 0) 1 8 Try.underlying22 hi hz0 hz1 hz2 rfl (by decide) _ _ _ rfl (hrow1.alloc _) ⟨W2.heap.size, 0, none⟩ 1 1 [.int .u64 (x : Int)] rfl rfl (cell_one_new _ _ _) (by simp [Value.oneCell']) (by simp only [maxLen]; omega) (by omega) (by simp; omega) ?_; intro v' w1 hown' hgrow _; obtain ⟨g', cap', rfl⟩ := ownsRow_succ hown'; obtain ⟨hv3, hv4, hr2, hk2, hb2⟩ := hv1.appended (by decide) hrow1 (by omega) (Nat.le_refl _) hown' hgrow; have hc3 : w1.cell? ⟨w.heap.size + 1 + 1, 0, none⟩ = _ := hv3.cell; have hf3 : w1.frozen? ⟨w.heap.size + 1 + 1, 0, none⟩ = _ := hv3.frozen)
      exact ⟨(hk1.trans hk2).from _, hb1.trans hb2, ⟨_, hv4, by rw [goneOf_miss b nb n pre x hix, uvals_append, uvals_one1]; simpa using hr2, trivial⟩, hB2.trans hb2⟩
  case done =>
    rintro D W hD ⟨⟨v, hv, hrow, _⟩, hB⟩ hK
    have hc : W.cell? ⟨w.heap.size + 1 + 1, 0, none⟩ = some v := hv.cell
    have hP := (hB.cell (p := ⟨w.heap.size + 1, 0, none⟩) (by simp)).trans hP0
    have hN : Win W w.heap.size nb n := hN0.keep hB.size (hB.block _ (by omega))
    have hG : Win W g b n := (h.below hB0).keep hB.size (hB.block _ (by omega))
    have n0 := hN.2.2.2.2.1
    have n1 := hN.2.2.2.2.2.1
    have g0 := hG.2.2.2.2.1
    have g1 := hG.2.2.2.2.2.1
    have f0 := hG.2.2.2.2.2.2 0
    have f1 := hG.2.2.2.2.2.2 1
    have HH := Lib.hid h
    have HG := Lib.hid hG
    clear c1 h hN hG
    gi_wp2
    obtain ⟨W5, hW5⟩ : ∃ W5, ((W.setCell ⟨g, 0, none⟩ (.int .u64 (nb : Int))).setCell ⟨g, 1, none⟩ (.int .i64 (n : Int))) = W5 := ⟨_, rfl⟩
    have hg5 : w.grownBy W5 (some g) := by
      rw [← hW5]
      exact grownSet (grownSet (grownOfBelow (hB0.trans (hB.mono (by omega))) (some g)) ⟨g, 0, none⟩ _ (.inl rfl)) ⟨g, 1, none⟩ _ (.inl rfl)
    have hN5 : Win W5 g nb n := by rw [← hW5]; exact HG.out.set2 nb hb
    have hK5 : W5.heap[D]? = some (.deferred (some [])) := by
      rw [← hW5]
      exact ((KeepsOthers.setCell W ⟨g, 0, none⟩ _).trans (KeepsOthers.setCell _ ⟨g, 1, none⟩ _)).same D _ hK rfl
    have hgW : W.grownBy W5 (some g) := by
      rw [← hW5]
      exact grownSet (grownSet (World.grownBy.refl W _) ⟨g, 0, none⟩ _ (.inl rfl)) ⟨g, 1, none⟩ _ (.inl rfl)
    have ho : OwnU W (w.heap.size + 2) v (gone b nb n) := hrow
    have ho5 := ho.grown hgW fun k hk e => by
      cases e
      have := (ho.lt g hk).1
      omega
    have hD5 : W5.grownBy (W5.putObj D (.deferred none)) (some D) := grownBy_putObj' _ _ _
    rw [hW5]
    refine ⟨by simp, .inl ⟨_, _, rfl, run_takeDeferred hK5, ?_⟩⟩
    refine ⟨_, results_tmp2 rfl _ _ _, v, rfl, ?_, hN5.grown hD5 (fun k e => by cases e; omega), hg5.andThen hD5 (fun j e => by cases e; left; omega)⟩
    have h6 : OwnU (W5.putObj D (.deferred none)) (w.heap.size + 2) v (gone b nb n) := ownsRow_putObj ho5 _ hK5 rfl
    exact h6.lower (by omega)
end Go.Proofs.Ytplkmcjobmhneaa
