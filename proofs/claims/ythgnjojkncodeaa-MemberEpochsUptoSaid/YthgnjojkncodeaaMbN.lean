/-
  A member that is none; MemberKnown's words.
-/
import Derived.Test.YthgnjojkncodeaaMbM
namespace Go.Proofs.Ythgnjojkncodeaa
open Go.RowKit
set_option linter.unusedVariables false
set_option linter.unusedSimpArgs false

set_option maxHeartbeats 1000000 in
theorem take_none (w : World) (ep : Int) (AU : Option Addr) (nU cU : Nat) (AH : Option Addr) (nH cH : Nat) : Calls Try.prog 11 #[.pointer none, .agg #[.int .u64 ep, .slice AU nU cU, .slice AH nH cH]] w fun e w' => e = .returned (.int .i64 2) ∧ Below w.heap.size w w' := by
  go_enter Try.func11, Try.ntmps11
  go_wp2_with (go_at_call 44; refine (is_none _).mono ?_; rintro e w1 ⟨rfl, rfl⟩)
  go_ret
  exact ⟨rfl, (Below.refl _ _).alloc (Nat.le_refl _) _⟩
set_option maxHeartbeats 1000000 in
theorem of_none (w : World) (fr : FrR) (kind frm dst fep flow : Int) : Calls Try.prog 15 #[.pointer none, fr.val kind frm dst fep flow] w fun e w' => e = .returned (.int .i64 2) ∧ Below w.heap.size w w' := by
  obtain ⟨life, gen, seq, fo, te, A, nA, cA, B, nB, cB, C, nC, cC, D, nD, cD, E, nE, cE⟩ := fr
  unfold FrR.val
  simp only
  have hb := fun (o1 o2 : Obj) => ((Below.refl w.heap.size w).alloc (Nat.le_refl _) o1).alloc (by simp) o2
  go_enter Try.func15, Try.ntmps15
  go_wp2_with (go_at_call 44; refine (is_none _).mono ?_; rintro e w1 ⟨rfl, rfl⟩)
  go_ret
  exact ⟨rfl, hb _ _⟩
theorem epoch_none (w : World) : Calls Try.prog 18 #[.pointer none] w fun e w' => e = .returned (.int .u64 0) ∧ w = w' := by
  go_enter Try.func18, Try.ntmps18
  go_wp2_with (go_at_call 44; refine (is_none _).mono ?_; rintro e w1 ⟨rfl, rfl⟩)
  go_ret
  exact ⟨rfl, rfl⟩
theorem node_none (w : World) : Calls Try.prog 22 #[.pointer none] w fun e w' => e = .returned (.int .i64 0) ∧ w = w' := by
  go_enter Try.func22, Try.ntmps22
  go_wp2_with (go_at_call 44; refine (is_none _).mono ?_; rintro e w1 ⟨rfl, rfl⟩)
  go_ret
  exact ⟨rfl, rfl⟩
theorem ends_none (w : World) (flow : Int) (v : Value) : Calls Try.prog 46 #[.pointer none, .int .i64 flow, v] w fun e w' => e = .returned (.slice none 0 0) ∧ w = w' := by
  go_enter Try.func46, Try.ntmps46
  go_wp2_with (go_at_call 44; refine (is_none _).mono ?_; rintro e w1 ⟨rfl, rfl⟩)
  go_ret
  exact ⟨rfl, rfl⟩
theorem all_none (w : World) (v : Value) : Calls Try.prog 56 #[.pointer none, v] w fun e w' => e = .returned (.slice none 0 0) ∧ w = w' := by
  go_enter Try.func56, Try.ntmps56
  go_wp2_with (go_at_call 44; refine (is_none _).mono ?_; rintro e w1 ⟨rfl, rfl⟩)
  go_ret
  exact ⟨rfl, rfl⟩
theorem next_none (w : World) (flow : Int) : Calls Try.prog 13 #[.pointer none, .int .i64 flow] w fun e w' => e = .returned (.slice none 0 0) ∧ Below w.heap.size w w' := by
  go_enter Try.func13, Try.ntmps13
  go_wp2_with (go_at_call 46; refine (ends_none _ _ _).mono ?_; rintro e w1 ⟨rfl, rfl⟩)
  go_ret
  exact ⟨rfl, (Below.refl _ _).alloc (Nat.le_refl _) _⟩
theorem prev_none (w : World) (flow : Int) : Calls Try.prog 14 #[.pointer none, .int .i64 flow] w fun e w' => e = .returned (.slice none 0 0) ∧ Below w.heap.size w w' := by
  go_enter Try.func14, Try.ntmps14
  go_wp2_with (go_at_call 46; refine (ends_none _ _ _).mono ?_; rintro e w1 ⟨rfl, rfl⟩)
  go_ret
  exact ⟨rfl, (Below.refl _ _).alloc (Nat.le_refl _) _⟩
theorem nexts_none (w : World) : Calls Try.prog 16 #[.pointer none] w fun e w' => e = .returned (.slice none 0 0) ∧ w = w' := by
  go_enter Try.func16, Try.ntmps16
  go_wp2_with (go_at_call 56; refine (all_none _ _).mono ?_; rintro e w1 ⟨rfl, rfl⟩)
  go_ret
  exact ⟨rfl, rfl⟩
theorem prevs_none (w : World) : Calls Try.prog 17 #[.pointer none] w fun e w' => e = .returned (.slice none 0 0) ∧ w = w' := by
  go_enter Try.func17, Try.ntmps17
  go_wp2_with (go_at_call 56; refine (all_none _ _).mono ?_; rintro e w1 ⟨rfl, rfl⟩)
  go_ret
  exact ⟨rfl, rfl⟩
theorem topo_none (w : World) : Calls Try.prog 19 #[.pointer none] w fun e w' => e = .returned (.agg #[.int .u64 0, .slice none 0 0, .slice none 0 0]) ∧ Below w.heap.size w w' := by
  obtain ⟨w1, hw1⟩ : ∃ w1, w.alloc (.cells #[.int .u64 0, .slice none 0 0, .slice none 0 0] 29) = w1 := ⟨_, rfl⟩
  have b1 : Below w.heap.size w w1 := by rw [← hw1]; exact (Below.refl _ _).alloc (Nat.le_refl _) _
  have e1 : w1.heap[w.heap.size]? = some (.cells #[.int .u64 0, .slice none 0 0, .slice none 0 0] 29 (0, 0)) := by rw [← hw1]; exact heap_alloc_new w _
  have z0 : w1.cell? ⟨w.heap.size, 0, none⟩ = some (.int .u64 0) := by simp [World.cell?, e1]
  have z1 : w1.cell? ⟨w.heap.size, 1, none⟩ = some (.slice none 0 0) := by simp [World.cell?, e1]
  have z2 : w1.cell? ⟨w.heap.size, 2, none⟩ = some (.slice none 0 0) := by simp [World.cell?, e1]
  have y0 : w1.frozen? ⟨w.heap.size, 0, none⟩ = false := by simp [World.frozen?, e1]
  have y1 : w1.frozen? ⟨w.heap.size, 1, none⟩ = false := by simp [World.frozen?, e1]
  have y2 : w1.frozen? ⟨w.heap.size, 2, none⟩ = false := by simp [World.frozen?, e1]
  obtain ⟨w5, hw5⟩ : ∃ w5, ((w1.setCell ⟨w.heap.size, 0, none⟩ (.int .u64 0)).setCell ⟨w.heap.size, 1, none⟩ (.slice none 0 0)).setCell ⟨w.heap.size, 2, none⟩ (.slice none 0 0) = w5 := ⟨_, rfl⟩
  have hc5 : Chg (fun k => k = w.heap.size) w1 w5 := by
    rw [← hw5]
    exact ((Chg.set w1 ⟨w.heap.size, 0, none⟩ _).trans (Chg.set _ ⟨w.heap.size, 1, none⟩ _) fun _ _ h => h).trans (Chg.set _ ⟨w.heap.size, 2, none⟩ _) fun _ _ h => h
  have hh : w5.heap[w.heap.size]? = some (.cells #[.int .u64 0, .slice none 0 0, .slice none 0 0] 29 (0, 0)) := by rw [← hw5]; simp [World.setCell, Array.getElem?_modify, e1]
  have F : Hid (w5.cell? ⟨w.heap.size, 0, none⟩ = some (.int .u64 0) ∧ w5.cell? ⟨w.heap.size, 1, none⟩ = some (.slice none 0 0) ∧ w5.cell? ⟨w.heap.size, 2, none⟩ = some (.slice none 0 0)) := Lib.hid ⟨by simp [World.cell?, hh], by simp [World.cell?, hh], by simp [World.cell?, hh]⟩
  have HB := Lib.hid (hc5.below b1 b1.size fun k hk => by omega)
  have HW1 := Lib.hid hw1
  have HW5 := Lib.hid hw5
  clear hw1 hw5 hc5 hh e1 b1
  go_enter Try.func19, Try.ntmps19
  go_upto_region 1 with (fail)
  rw [HW1.out]
  go_wp2_with (go_at_call 44; refine (is_none _).mono ?_; rintro e w2 ⟨rfl, rfl⟩)
  rw [HW5.out]
  obtain ⟨f0, f1, f2⟩ := F.out
  exact bodyPost_ret (v := .agg #[.int .u64 0, .slice none 0 0, .slice none 0 0]) (by simp [results, Try.results19, go_sem, f0, f1, f2]) rfl ⟨rfl, HB.out⟩
/-- New, of a node that is none. -/
theorem new_no (w : World) (vc : Value) (nodes : Int) (flows : List Flw) (win que node : Int) (hC : ConfV w (fun k => k < w.heap.size) vc nodes flows win que) (hn : inI node) (h : newOk nodes flows win que node = false) :
    Calls Try.prog 10 #[vc, .int .i64 node] w fun e w' => e = .returned (.tuple #[.pointer none, .int .i64 1]) ∧ Below w.heap.size w w' := by
  refine (new_calls w vc nodes flows win que node _ (fun _ h => h) hC hn).mono ?_
  rintro e w' ⟨hb, ⟨_, h2⟩ | ⟨h2, _⟩⟩
  · exact ⟨h2, hb⟩
  · rw [h] at h2; cases h2
theorem known_of22 : ofRes fl3 1 0 [] 1 0 1 0 0 = 22 := by decide
theorem row_prevs : (prevsOf [rowE] 1).contains 0 = true := by
  rw [prevs_any]
  refine List.any_eq_true.2 ⟨0, by decide, ?_⟩
  have : nextOf [rowE] ((0 : Nat) : Int) 0 = [1] := row_next0
  rw [this]; rfl
theorem known_a : ofRes fl3 1 5 [rowE] 1 0 2 5 0 = 6 := by unfold ofRes; rw [if_pos (.inr (.inl (by decide)))]
theorem known_b : ofRes fl3 1 5 [rowE] 1 0 1 4 0 = 22 := by unfold ofRes; rw [if_neg (by decide), if_pos (.inl (by decide))]
theorem known_c : ofRes fl3 1 5 [rowE] 5 0 1 5 0 = 6 := by unfold ofRes; rw [if_pos (.inl (by decide))]
theorem known_d : ofRes fl3 1 5 [rowE] 1 0 1 5 1 = 6 := by unfold ofRes; rw [if_pos (.inr (.inr (by decide)))]
theorem known_e : ofRes fl3 1 5 [rowE] 4 0 1 5 9 = 0 := by
  have h : isB [rowE] 1 4 0 9 = true := by rw [isB_probe]; exact row_prevs
  unfold ofRes
  rw [if_neg (by decide), if_neg (by decide), h, if_pos rfl]
def badE : List Ed := [(0, 0), (1, 2)]
theorem bad_may : mayOk 3 fl3 4 4 1 up3 [badE] = false := by
  have he : edgeBad 3 up3 [badE] ((0 : Nat) : Int) (srcOf fl3 0) (0, 0) = true := by unfold edgeBad; simp
  have hb : hopBad 3 up3 [badE] fl3 0 badE = true := by
    have := List.any_eq_true.2 ⟨(0, 0), (by decide : ((0, 0) : Ed) ∈ badE), he⟩
    unfold hopBad
    rw [this]
    simp
  unfold mayOk
  rw [hops_one, hb]
  simp
end Go.Proofs.Ythgnjojkncodeaa
