/-
  The walks of AppendSeq, Collect, All.
-/
import Derived.Maps.AppendAt
import Derived.Test.YtplkmcjobmhneaaWinR
namespace Go.Proofs.Ytplkmcjobmhneaa
open Go.RowKit Go.Shelf
attribute [local go_sem] Oper.semAt_some

theorem uvals_one1 (x : Nat) : uvals [x] = [Value.int .u64 (x : Int)] := by simp [uvals]
set_option maxRecDepth 100000 in
set_option maxHeartbeats 2000000 in
theorem appendSeq_calls (g b nn : Nat) (w : World) (h : Win w g b nn) :
    Calls Try.prog 24 #[.slice none 0 0, .func (.func 22) #[.pointer (some ⟨g, 0, none⟩)] #[]] w (RetU w (els b nn)) := by
  refine (callsIn_wide (n := 5)).1 ?_
  obtain ⟨i0, hi, hz0, hz1, hz2⟩ := info_parts info_u64
  have hl16 : (els b nn).length ≤ 16 := by have := h.1; have := h.2.2.1; rw [els_length]; unfold wend; omega
  have hgl : g < w.heap.size := h.2.2.2.1
  refine callsIn_of_wp_marks Try.func24 rfl trivial ?_ rfl
  simp only [Try.ntmps24, List.size_toArray, List.length_cons, List.length_nil, Nat.reduceAdd, Nat.reduceSub, Array.replicate_succ, Array.replicate_zero, List.push_toArray, List.append_toArray, List.nil_append, List.cons_append]
  gi_wp2
  have bO := Boxed.new w 22 (.slice none 0 0)
  have hB0 : Below w.heap.size w (w.alloc (.cells #[.slice none 0 0] 22)) := (Below.refl _ w).alloc (Nat.le_refl _) _
  refine wpIn_rangeB rfl (by omega) (gf := 22) (fb := #[.pointer (some ⟨g, 0, none⟩)]) rfl trivial (enters_of Try.func22 (by kernel_rfl) rfl)
    (each_seq 4 g b nn (by omega) _ w.heap.size hgl hB0.size (h.below hB0)) belowK_t (belowK_b (by simp)) (fun _ => rfl)
    (fun pre W => (∃ v, Boxed W w.heap.size 22 v ∧ W.ownsRow w.heap.size 23 1 v pre.length (uvals pre) ∧ True) ∧ Below w.heap.size w W)
    (OwnFrom.and (Own.from (holdsRow_own w.heap.size w.heap.size 22 23 1 (fun pre => pre.length) (fun pre => uvals pre) (fun _ _ => True)) _) (ownFrom_below (Nat.le_refl _) (by simp)))
    (fun pre A k hI => ⟨hI.1, belowDrewN hI.2 k⟩)
    ⟨⟨_, bO, World.ownsRow_nil _ _ _ _, trivial⟩, hB0⟩
    (fun x => { tmps := #[.slice none 0 0, .func (.func 22) #[.pointer (some ⟨g, 0, none⟩)] #[], .pointer (some ⟨w.heap.size, 0, none⟩), undef, .slice none 0 0, .int .u64 (x : Int), .func (.func 22) #[.pointer (some ⟨g, 0, none⟩)] #[], .int .u64 (x : Int), undef, undef, undef, undef, undef], defers := [] }) ?assign ?body ?done
  case assign =>
    intro l x W K hK
    gi_wp2
    exact hK
  case body =>
    rintro l pre x W ⟨⟨v, hv, hrow, _⟩, hB⟩ hlt
    have hc := hv.cell
    gi_wp2_with (gi_at_builtin; refine wpListIn_append_own _ rfl _ _ 22 rfl w.heap.size 23 i0 (.int .u64 0) 1 8 Try.underlying22 hi hz0 hz1 hz2 rfl (by decide) _ _ _ rfl (hrow.alloc _) ⟨W.heap.size, 0, none⟩ 1 1 [.int .u64 (x : Int)] rfl rfl (cell_one_new _ _ _) (by simp [Value.oneCell']) (by simp only [maxLen]; omega) (by omega) (by have := hB.size; simp; omega) ?_; intro v' w1 hown' hgrow _; obtain ⟨g', cap', rfl⟩ := ownsRow_succ hown'; obtain ⟨hv1, hv2, hr2, hk2, hb2⟩ := hv.appended (by decide) hrow hB.size (Nat.le_refl _) hown' hgrow; have hc1 := hv1.cell; have hf1 := hv1.frozen)
    exact ⟨hk2.from _, hb2, ⟨_, hv2, by rw [uvals_append, uvals_one1]; simpa using hr2, trivial⟩, hB.trans hb2⟩
  case done =>
    rintro D W hD ⟨⟨v, hv, hrow, _⟩, hB⟩ hK
    have hc := hv.cell
    gi_wp2
    refine ⟨by simp, .inl ⟨_, _, rfl, run_takeDeferred hK, ?_⟩⟩
    exact ⟨_, results_tmp rfl _ _ _, v, rfl, ownsRow_putObj hrow _ hK rfl, hB.trans (belowK_b (w := w) (Nat.le_refl _) W D _ _ (by simp at hD; omega) hK rfl rfl)⟩
theorem collect_calls (g b nn : Nat) (w : World) (h : Win w g b nn) :
    Calls Try.prog 23 #[.func (.func 22) #[.pointer (some ⟨g, 0, none⟩)] #[]] w (RetU w (els b nn)) := by
  go_enter Try.func23, Try.ntmps23
  go_wp2_with fail
  refine (appendSeq_calls g b nn w h).mono ?_
  rintro e w1 ⟨v, rfl, ho, hb⟩
  go_wp2
  go_ret
  exact ⟨v, rfl, ho, hb⟩
theorem all_calls (g b nn : Nat) (w : World) (h : Win w g b nn) :
    Calls Try.prog 20 #[.pointer (some ⟨g, 0, none⟩)] w (RetU w (els b nn)) := by
  go_enter Try.func20, Try.ntmps20
  go_wp2_with fail
  refine (collect_calls g b nn w h).mono ?_
  rintro e w1 ⟨v, rfl, ho, hb⟩
  go_wp2
  go_ret
  exact ⟨v, rfl, ho, hb⟩
end Go.Proofs.Ytplkmcjobmhneaa
