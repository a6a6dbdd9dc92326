/-
  The walks of window's plain functions.
-/
import Derived.Test.YtplkmcjobmhneaaNums
namespace Go.Proofs.Ytplkmcjobmhneaa
open Go.RowKit

/-- A window (either package's) at block g. -/
def Win (w : World) (g base width : Nat) : Prop :=
  base ≤ 1099511627776 ∧ 1 ≤ width ∧ width ≤ 16 ∧ g < w.heap.size ∧ w.cell? ⟨g, 0, none⟩ = some (.int .u64 (base : Int)) ∧ w.cell? ⟨g, 1, none⟩ = some (.int .i64 (width : Int)) ∧ ∀ j, w.frozen? ⟨g, j, none⟩ = false
/-- The number behind the last. -/
def wend (base width : Nat) : Nat := min (base + width) 1099511627776
section
variable {w w' : World} {g base width : Nat}
theorem Win.keep (h : Win w g base width) (hs : w.heap.size ≤ w'.heap.size) (hg : w'.heap[g]? = w.heap[g]?) : Win w' g base width := by
  obtain ⟨h1, h2, h3, h4, h5, h6, h7⟩ := h
  exact ⟨h1, h2, h3, by omega, (World.cell?_of_block (w := w) (a := ⟨g, 0, none⟩) hg).trans h5, (World.cell?_of_block (w := w) (a := ⟨g, 1, none⟩) hg).trans h6, fun j => (World.frozen?_of_block (w := w) (a := ⟨g, j, none⟩) hg).trans (h7 j)⟩
theorem Win.below (h : Win w g base width) (hb : Below w.heap.size w w') : Win w' g base width := h.keep hb.size (hb.block g h.2.2.2.1)
theorem Win.grown {row : Option Nat} (h : Win w g base width) (hb : w.grownBy w' row) (hr : ∀ k, row = some k → k ≠ g) : Win w' g base width := h.keep hb.size (hb.block g h.2.2.2.1 (fun e => hr g e.symm rfl))
theorem Win.drewN (h : Win w g base width) (m : Nat) : Win (w.drewN m) g base width := h
end

theorem base_calls (g b n : Nat) (w : World) (h : Win w g b n) :
    Calls Try.prog 16 #[.pointer (some ⟨g, 0, none⟩)] w fun e w' => e = .returned (.int .u64 (b : Int)) ∧ w = w' := by
  have c0 := h.2.2.2.2.1
  go_enter Try.func16, Try.ntmps16
  go_wp2
  go_ret
  exact ⟨rfl, rfl⟩
theorem width_calls (g b n : Nat) (w : World) (h : Win w g b n) :
    Calls Try.prog 19 #[.pointer (some ⟨g, 0, none⟩)] w fun e w' => e = .returned (.int .i64 (n : Int)) ∧ w = w' := by
  have c1 := h.2.2.2.2.2.1
  go_enter Try.func19, Try.ntmps19
  go_wp2
  go_ret
  exact ⟨rfl, rfl⟩
theorem end_calls (g b n : Nat) (w : World) (h : Win w g b n) :
    Calls Try.prog 17 #[.pointer (some ⟨g, 0, none⟩)] w fun e w' => e = .returned (.int .u64 (wend b n : Int)) ∧ ∃ k, w' = w.drewN k := by
  have h1 := h.1
  have h3 := h.2.2.1
  have c0 := h.2.2.2.2.1
  have c1 := h.2.2.2.2.2.1
  obtain ⟨e, he⟩ : ∃ e, e = wend b n := ⟨_, rfl⟩
  have hmin : ∀ W : World, (Builtin.min_ #[23, 23] 23 #[.int .u64 ((b : Int) + (n : Int)), .int .u64 1099511627776]).run Try.prog W = .ok (.int .u64 (e : Int)) W := by
    intro W
    have hif : (if (1099511627776 : Int) < (b : Int) + (n : Int) then (1099511627776 : Int) else (b : Int) + (n : Int)) = (e : Int) := by rw [he, wend]; split <;> omega
    simp only [Builtin.min_, List.foldlM_cons, List.foldlM_nil, Sem.run_bind, Builtin.min2, Sem.run_pure, Result.andThen_ok, hif]
  rw [← he]
  have hw1 : IntKind.u64.wrap ((b : Int) + (n : Int)) = (b : Int) + (n : Int) := IntWalk.u64_in _ ⟨by omega, by omega⟩
  have hw2 : IntKind.u64.wrap (n : Int) = (n : Int) := IntWalk.u64_in _ ⟨by omega, by omega⟩
  clear he
  go_enter Try.func17, Try.ntmps17
  go_wp2_with fail
  go_quiet (fail)
  go_wp2
  go_ret
  exact ⟨rfl, _, rfl⟩
theorem in_calls (g b n x : Nat) (w : World) (h : Win w g b n) :
    Calls Try.prog 13 #[.pointer (some ⟨g, 0, none⟩), .int .u64 (x : Int)] w fun e w' => e = .returned (.bool (decide (b ≤ x ∧ x < wend b n))) ∧ ∃ k, w' = w.drewN k := by
  by_cases hb : b ≤ x
  · have hbi : (b : Int) ≤ (x : Int) := by omega
    have hdec : decide (b ≤ x ∧ x < wend b n) = decide (x < wend b n) := by simp [hb]
    rw [hdec]
    clear hdec
    go_enter Try.func13, Try.ntmps13
    go_wp2_with fail
    refine (base_calls g b n w h).mono ?_
    rintro e w1 ⟨rfl, rfl⟩
    go_wp2_with fail
    refine (end_calls g b n w h).mono ?_
    rintro e w1 ⟨rfl, k, rfl⟩
    go_wp2
    go_ret
    exact ⟨rfl, _, rfl⟩
  · have hbi : ¬ (b : Int) ≤ (x : Int) := by omega
    have hdec : decide (b ≤ x ∧ x < wend b n) = false := by simp [hb]
    rw [hdec]
    clear hdec
    go_enter Try.func13, Try.ntmps13
    go_wp2_with fail
    refine (base_calls g b n w h).mono ?_
    rintro e w1 ⟨rfl, rfl⟩
    go_wp2
    go_ret
    exact ⟨rfl, 0, rfl⟩
theorem slot_out (g b n x : Nat) (w : World) (h : Win w g b n) (hx : ¬ (b ≤ x ∧ x < wend b n)) :
    Calls Try.prog 11 #[.pointer (some ⟨g, 0, none⟩), .int .u64 (x : Int)] w fun e w' => e = .returned (.tuple #[.int .i64 0, .int .i64 1]) ∧ ∃ k, w' = w.drewN k := by
  have hd : decide (b ≤ x ∧ x < wend b n) = false := decide_eq_false hx
  have hn0 : ((n : Int) == 0) = false := by rw [beq_eq_false_iff_ne]; have := h.2.1; omega
  clear hx
  go_enter Try.func11, Try.ntmps11
  go_wp2_with fail
  refine (width_calls g b n w h).mono ?_
  rintro e w1 ⟨rfl, rfl⟩
  go_wp2_with fail
  refine (in_calls g b n x w h).mono ?_
  rw [hd]
  rintro e w1 ⟨rfl, k, rfl⟩
  go_wp2
  go_ret2
  exact ⟨rfl, _, rfl⟩
theorem slot_in (g b n x : Nat) (w : World) (h : Win w g b n) (hx : b ≤ x ∧ x < wend b n) :
    Calls Try.prog 11 #[.pointer (some ⟨g, 0, none⟩), .int .u64 (x : Int)] w fun e w' => e = .returned (.tuple #[.int .i64 ((x % n : Nat) : Int), .int .i64 0]) ∧ ∃ k, w' = w.drewN k := by
  have hd : decide (b ≤ x ∧ x < wend b n) = true := decide_eq_true hx
  have hn1 := h.2.1
  have hn16 := h.2.2.1
  have hn0 : ((n : Int) == 0) = false := by rw [beq_eq_false_iff_ne]; omega
  have hnz : ¬ (n : Int) = 0 := by omega
  obtain ⟨q, hq⟩ : ∃ q, x % n = q := ⟨_, rfl⟩
  have hql : q < 16 := by have := Nat.mod_lt x hn1; omega
  have hr2 : (x : Int) % (n : Int) = (q : Int) := by rw [← hq]; simp
  have hr1 : ((x : Int)).tmod (n : Int) = (q : Int) := by rw [Int.tmod_eq_emod_of_nonneg (by omega)]; exact hr2
  have hw2 : IntKind.u64.wrap (n : Int) = (n : Int) := IntWalk.u64_in _ ⟨by omega, by omega⟩
  have hw3 : IntKind.u64.wrap (q : Int) = (q : Int) := IntWalk.u64_in _ ⟨by omega, by omega⟩
  have hw4 : IntKind.i64.wrap (q : Int) = (q : Int) := IntWalk.i64_in _ ⟨by omega, by omega⟩
  rw [hq]
  clear hx hq
  go_enter Try.func11, Try.ntmps11
  go_wp2_with fail
  refine (width_calls g b n w h).mono ?_
  rintro e w1 ⟨rfl, rfl⟩
  go_wp2_with fail
  refine (in_calls g b n x w h).mono ?_
  rw [hd]
  rintro e w1 ⟨rfl, k, rfl⟩
  have c1 := h.2.2.2.2.2.1
  go_wp2_with fail
  go_ret2
  exact ⟨rfl, _, rfl⟩
/-- The numbers in a window. -/
def els (b n : Nat) : List Nat := List.range' b (wend b n - b)
theorem els_next (b k : Nat) (h : b + k < 1099511627776) : els b (k + 1) = els b k ++ [b + k] := by
  have e1 : wend b (k + 1) - b = k + 1 := by unfold wend; omega
  have e2 : wend b k - b = k := by unfold wend; omega
  rw [els, els, e1, e2, List.range'_concat]
  simp
theorem els_stop (b k : Nat) (h : ¬ b + k < 1099511627776) : els b (k + 1) = els b k := by
  have e : wend b (k + 1) = wend b k := by unfold wend; omega
  rw [els, els, e]
theorem els_length (b n : Nat) : (els b n).length = wend b n - b := by simp [els]
theorem els_mem (b n x : Nat) : x ∈ els b n ↔ b ≤ x ∧ x < wend b n := by
  rw [els, List.mem_range'_1]
  omega
set_option maxHeartbeats 800000 in
theorem rall_calls (g b n : Nat) (w : World) (h : Win w g b n) :
    Calls Try.prog 21 #[.pointer (some ⟨g, 0, none⟩)] w (RetU w (els b n)) := by
  have hb0 := h.1
  have hn16 := h.2.2.1
  go_enter Try.func21, Try.ntmps21
  go_wp2_with fail
  go_loopw [3, 4] (fun v i wr => ∃ k : Nat, k ≤ n ∧ i = .int .i64 k ∧ OwnU wr w.heap.size v (els b k) ∧ Below w.heap.size w wr) (fun _ i _ => 16 - (intOf i).toNat)
  case atStart => exact ⟨0, Nat.zero_le _, rfl, by have e : els b 0 = [] := by { have : wend b 0 - b = 0 := by { unfold wend; omega }; rw [els, this]; rfl }; rw [e]; exact OwnU.nil _ _, Below.refl _ _⟩
  case round =>
    obtain ⟨k, hk, rfl, ho, hbe⟩ := hrel
    have hw := h.below hbe
    have c0 := hw.2.2.2.2.1
    have c1 := hw.2.2.2.2.2.1
    have hlen : (els b k).length ≤ 16 := by rw [els_length]; unfold wend; omega
    by_cases hlt : k < n
    · have hw1 : IntKind.u64.wrap (k : Int) = (k : Int) := IntWalk.u64_in _ ⟨by omega, by omega⟩
      have hw2 : IntKind.u64.wrap ((b : Int) + (k : Int)) = (b : Int) + (k : Int) := IntWalk.u64_in _ ⟨by omega, by omega⟩
      by_cases hin : b + k < 1099511627776
      · have hini : (b : Int) + (k : Int) < 1099511627776 := by omega
        have HS := Lib.hid (els_next b k hin)
        have hcast : (((b + k : Nat)) : Int) = (b : Int) + (k : Int) := by omega
        have hone : OwnU (wr.alloc (.cells #[.int .u64 ((b : Int) + (k : Int))] 23)) w.heap.size (.slice (some ⟨wr.heap.size, 0, none⟩) 1 1) [b + k] := by
          have h1 := OwnU.lit wr w.heap.size [b + k] hbe.size (by simp)
          have e : (uvals [b + k]).toArray = #[.int .u64 ((b : Int) + (k : Int))] := by simp [uvals]
          rw [e] at h1
          exact h1
        obtain ⟨A2, c2, e2, _, _, hr1⟩ := hone.rd
        cases e2
        have hoa : OwnU (wr.alloc (.cells #[.int .u64 ((b : Int) + (k : Int))] 23)) w.heap.size u3 (els b k) := ho.below ((Below.refl _ _).alloc (Nat.le_refl _) _)
        have hba : Below w.heap.size w (wr.alloc (.cells #[.int .u64 ((b : Int) + (k : Int))] 23)) := hbe.alloc hbe.size _
        have hz : w.heap.size ≤ (wr.alloc (.cells #[.int .u64 ((b : Int) + (k : Int))] 23)).heap.size := hba.size
        have hln : (els b k).length + 1 ≤ 17592186044416 := by omega
        have hr1' : RdU (wr.alloc (.cells #[.int .u64 ((b : Int) + (k : Int))] 23)) (fun q => w.heap.size ≤ q ∧ (Value.slice (some ⟨wr.heap.size, 0, none⟩) 1 1).ownBlock = some q) (some ⟨wr.heap.size, 0, none⟩) 1 [b + k] := hr1
        clear hone hcast hr1 hin
        go_wp2_with (at_builtin; go_loud (refine appU w.heap.size w.heap.size rfl _ _ rfl u3 (els b k) [b + k] (some ⟨wr.heap.size, 0, none⟩) 1 1 rfl rfl hoa hr1' hba hz (Nat.le_refl _) hln ?_); intro v2 w2 ho2 hb2 _ _; clear hoa hr1' hba hz)
        go_roundw
        case rel => exact ⟨k + 1, by omega, by go_num, by rw [HS.out]; exact ho2, hb2⟩
        case measure => simp [intOf]; omega
      · have hini : ¬ (b : Int) + (k : Int) < 1099511627776 := by omega
        have HS := Lib.hid (els_stop b k hin)
        clear hin
        go_wp2_with fail
        go_roundw
        case rel => exact ⟨k + 1, by omega, by go_num, by rw [HS.out]; exact ho, hbe⟩
        case measure => simp [intOf]; omega
    · obtain rfl : n = k := by omega
      go_wp2_with fail
      go_ret
      exact ⟨_, rfl, ho, hbe⟩
end Go.Proofs.Ytplkmcjobmhneaa
