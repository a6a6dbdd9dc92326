/-
  slices.Clone of flows and of ints.
-/
import Derived.Test.YthgnjojkncodeaaGreatTpM
namespace Go.Proofs.YthgnjojkncodeaaGreat
open Go.RowKit
set_option linter.unusedVariables false

theorem info_fl : (Tryz.prog.info? 70).map (fun i => (i.zero, i.size, i.bytes)) = some (some (.agg #[.int .i64 0, .int .i64 0, .int .i64 0, .slice none 0 0]), 4, 48) := by kernel_rfl
set_option maxRecDepth 100000 in
set_option maxHeartbeats 1000000 in
theorem cloneF_calls (w : World) (ok : Nat → Prop) (A : Option Addr) (n c : Nat) (xs : List Flw) (hr : Rd elFl w ok A n xs) (hok : ∀ k, ok k → k < w.heap.size) (hn : n ≤ 1048576) :
    Calls Tryz.prog 30 #[.slice A n c] w (RetOwn elFl 70 w ok xs) := by
  obtain ⟨i0, hi0, hzz⟩ := Option.map_eq_some_iff.1 info_fl
  simp only [Prod.mk.injEq] at hzz
  obtain ⟨hz0, hz1, hz2⟩ := hzz
  have hl := hr.len
  cases A with
  | none =>
    have hn0 : n = 0 := by
      rcases Nat.eq_zero_or_pos n with h0 | h0
      · exact h0
      · obtain ⟨b, o, h, _⟩ := hr.2.2 h0
        cases h
    subst hn0
    obtain rfl : xs = [] := List.eq_nil_of_length_eq_zero hl
    have hq := fun W => Lib.run_eql_slice_nil (P := Tryz.prog) W 22 70 none 0 c 0 0 Tryz.underlying22
    clear hr hl hi0 hz0 hz1 hz2 hok
    go_enter Tryz.func30, Tryz.ntmps30
    go_wp2
    go_ret
    exact ⟨_, [], rfl, .nil, World.ownsRow_nil _ _ _ _, fun g h => (by cases h), Below.refl _ _⟩
  | some ad =>
    obtain ⟨w1, hw1⟩ : ∃ w1, w.alloc (.cells #[] 70) = w1 := ⟨_, rfl⟩
    have b1 : Below w.heap.size w w1 := by rw [← hw1]; exact (Below.refl _ _).alloc (Nat.le_refl _) _
    have hg1 : w1.heap[w.heap.size]? = some (.cells #[] 70 (0, 0)) := by rw [← hw1]; exact heap_alloc_new w _
    have hbig : 0 + n ≤ maxLen := by unfold maxLen; omega
    have hbb : (0 + n) * 48 ≤ 140737488355328 := by omega
    obtain ⟨v1, w2, wss, hrun, hcw, ho2, hg2, hv2⟩ := clone_run (E := elFl) (P := Tryz.prog) 22 22 i0 _ 48 Tryz.underlying22 hi0 hz0 hz1 hz2 rfl (by decide) w.heap.size hg1 ad (hr.below b1) hbig hbb c
    have hs1 : w1.heap.size = w.heap.size + 1 := by rw [← hw1]; simp
    have hb2 : Below w.heap.size w w2 := b1.grown hg2 b1.size (fun k hk => by have e := Option.some.inj hk; omega)
    have hown : RetOwn elFl 70 w ok xs (.returned v1) w2 := by
      refine ⟨v1, wss, rfl, hcw.keep hg2.size fun k hk hl => hg2.block k hl fun e => ?_, by rw [hl]; exact ho2, fun g hg => ?_, hb2⟩
      · have e := Option.some.inj e; have := hok k hk; omega
      · rcases hv2 with h | h
        · rw [hg] at h; have e := Option.some.inj h; omega
        · rw [hg] at h; have e := Option.some.inj h; omega
    have hq := fun W => Lib.run_eql_slice_nil (P := Tryz.prog) W 22 70 (some ad) n c 0 0 Tryz.underlying22
    have HRUN := Lib.hid hrun
    have HW1 := Lib.hid hw1
    have HOWN := Lib.hid hown
    clear hr hl hi0 hz0 hz1 hz2 hok hrun hw1 hown ho2 hg2 hv2 hb2 hs1 hg1 b1 hbig hbb hcw
    go_enter Tryz.func30, Tryz.ntmps30
    go_wp2_with (at_builtin; rw [HW1.out]; refine wpList_app_run rfl (.tmp 5) (.tmp 6) 22 22 rfl rfl rfl HRUN.out ?_)
    go_ret
    exact HOWN.out
set_option maxRecDepth 100000 in
set_option maxHeartbeats 1000000 in
theorem cloneI_calls (w : World) (ok : Nat → Prop) (A : Option Addr) (n c : Nat) (xs : List Int) (hr : Rd El.int w ok A n xs) (hok : ∀ k, ok k → k < w.heap.size) (hn : n ≤ 1048576) :
    Calls Tryz.prog 31 #[.slice A n c] w (RetOwn El.int 3 w ok xs) := by
  obtain ⟨i0, hi0, hzz⟩ := Option.map_eq_some_iff.1 info_int
  simp only [Prod.mk.injEq] at hzz
  obtain ⟨hz0, hz1, hz2⟩ := hzz
  have hl := hr.len
  cases A with
  | none =>
    have hn0 : n = 0 := by
      rcases Nat.eq_zero_or_pos n with h0 | h0
      · exact h0
      · obtain ⟨b, o, h, _⟩ := hr.2.2 h0
        cases h
    subst hn0
    obtain rfl : xs = [] := List.eq_nil_of_length_eq_zero hl
    have hq := fun W => Lib.run_eql_slice_nil (P := Tryz.prog) W 54 3 none 0 c 0 0 Tryz.underlying54
    clear hr hl hi0 hz0 hz1 hz2 hok
    go_enter Tryz.func31, Tryz.ntmps31
    go_wp2
    go_ret
    exact ⟨_, [], rfl, .nil, World.ownsRow_nil _ _ _ _, fun g h => (by cases h), Below.refl _ _⟩
  | some ad =>
    obtain ⟨w1, hw1⟩ : ∃ w1, w.alloc (.cells #[] 3) = w1 := ⟨_, rfl⟩
    have b1 : Below w.heap.size w w1 := by rw [← hw1]; exact (Below.refl _ _).alloc (Nat.le_refl _) _
    have hg1 : w1.heap[w.heap.size]? = some (.cells #[] 3 (0, 0)) := by rw [← hw1]; exact heap_alloc_new w _
    have hbig : 0 + n ≤ maxLen := by unfold maxLen; omega
    have hbb : (0 + n) * 8 ≤ 140737488355328 := by omega
    obtain ⟨v1, w2, wss, hrun, hcw, ho2, hg2, hv2⟩ := clone_run (E := El.int) (P := Tryz.prog) 54 54 i0 _ 8 Tryz.underlying54 hi0 hz0 hz1 hz2 rfl (by decide) w.heap.size hg1 ad (hr.below b1) hbig hbb c
    have hs1 : w1.heap.size = w.heap.size + 1 := by rw [← hw1]; simp
    have hb2 : Below w.heap.size w w2 := b1.grown hg2 b1.size (fun k hk => by have e := Option.some.inj hk; omega)
    have hown : RetOwn El.int 3 w ok xs (.returned v1) w2 := by
      refine ⟨v1, wss, rfl, hcw.keep hg2.size fun k hk hl => hg2.block k hl fun e => ?_, by rw [hl]; exact ho2, fun g hg => ?_, hb2⟩
      · have e := Option.some.inj e; have := hok k hk; omega
      · rcases hv2 with h | h
        · rw [hg] at h; have e := Option.some.inj h; omega
        · rw [hg] at h; have e := Option.some.inj h; omega
    have hq := fun W => Lib.run_eql_slice_nil (P := Tryz.prog) W 54 3 (some ad) n c 0 0 Tryz.underlying54
    have HRUN := Lib.hid hrun
    have HW1 := Lib.hid hw1
    have HOWN := Lib.hid hown
    clear hr hl hi0 hz0 hz1 hz2 hok hrun hw1 hown ho2 hg2 hv2 hb2 hs1 hg1 b1 hbig hbb hcw
    go_enter Tryz.func31, Tryz.ntmps31
    go_wp2_with (at_builtin; rw [HW1.out]; refine wpList_app_run rfl (.tmp 5) (.tmp 6) 54 54 rfl rfl rfl HRUN.out ?_)
    go_ret
    exact HOWN.out
end Go.Proofs.YthgnjojkncodeaaGreat
