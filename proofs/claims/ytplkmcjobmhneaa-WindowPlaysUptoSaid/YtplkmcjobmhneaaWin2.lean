/-
  The walks of the document's window: Same, In, End, Slot.
-/
import Derived.Test.YtplkmcjobmhneaaWin1
namespace Go.Proofs.Ytplkmcjobmhneaa
open Go.RowKit

def inw (b n x : Nat) : Bool := decide (b ≤ x ∧ x < wend b n)
theorem same_len (A A' : Option Addr) (n c n' c' : Nat) (w : World) (h : n ≠ n') :
    Calls Try.prog 15 #[.slice A n c, .slice A' n' c'] w fun e w' => e = .returned (.bool false) ∧ w = w' := by
  have hne : ((n : Int) != (n' : Int)) = true := by rw [bne_iff_ne]; omega
  clear h
  go_enter Try.func15, Try.ntmps15
  go_wp2
  go_ret
  exact ⟨rfl, rfl⟩
set_option maxHeartbeats 800000 in
theorem same_eq (A A' : Option Addr) (n c c' : Nat) (xs : List Nat) (w : World) (ok ok' : Nat → Prop) (hr : RdU w ok A n xs) (hr' : RdU w ok' A' n xs) :
    Calls Try.prog 15 #[.slice A n c, .slice A' n c'] w fun e w' => e = .returned (.bool true) ∧ ∃ m, w' = w.drewN m := by
  have hm := hr.max
  go_enter Try.func15, Try.ntmps15
  go_wp2
  go_loopw [5] (fun i wr => ∃ k m : Nat, k ≤ n ∧ i = .int .i64 k ∧ wr = w.drewN m) (fun i _ => n - (intOf i).toNat)
  case atStart => exact ⟨0, 0, Nat.zero_le _, rfl, rfl⟩
  case round =>
    obtain ⟨k, m, hk, rfl, rfl⟩ := hrel
    by_cases hlt : k < n
    · obtain ⟨b1, o1, e1, k1⟩ := hr.at_ k hlt
      obtain ⟨b2, o2, e2, k2⟩ := hr'.at_ k hlt
      subst e1
      subst e2
      go_wp2_with fail
      go_quiet (fail)
      go_wp2_with fail
      go_roundw
      case rel => exact ⟨k + 1, m + nq, by omega, by go_num, rfl⟩
      case measure => simp [intOf]; omega
    · obtain rfl : k = n := by omega
      go_wp2
      go_ret
      exact ⟨rfl, _, rfl⟩
set_option maxHeartbeats 800000 in
theorem rin_calls (g b n x : Nat) (w : World) (h : Win w g b n) :
    Calls Try.prog 14 #[.pointer (some ⟨g, 0, none⟩), .int .u64 (x : Int)] w fun e w' => e = .returned (.bool (inw b n x)) ∧ Below w.heap.size w w' := by
  have hl16 : (els b n).length ≤ 16 := by have := h.1; have := h.2.2.1; rw [els_length]; unfold wend; omega
  have hmem := els_mem b n x
  go_enter Try.func14, Try.ntmps14
  go_wp2_with fail
  refine (rall_calls g b n w h).mono ?_
  rintro e w1 ⟨v1, rfl, ho1, hb1⟩
  obtain ⟨A1, c1, rfl, hc1, _, r1⟩ := ho1.rd
  obtain ⟨xs, hxs⟩ : ∃ xs, els b n = xs := ⟨_, rfl⟩
  rw [hxs] at r1 hmem hl16 ⊢
  obtain ⟨L, hL⟩ : ∃ L, xs.length = L := ⟨_, rfl⟩
  have HL := Lib.hid hL
  rw [hL] at r1 hl16 ⊢
  clear ho1 hxs hL hc1
  go_wp2_with fail
  go_loop [6] (fun i => ∃ k : Nat, k ≤ L ∧ i = .int .i64 k ∧ ∀ t, t < k → nth xs t ≠ x) (fun i => L - (intOf i).toNat)
  case atStart => exact ⟨0, Nat.zero_le _, rfl, fun t ht => absurd ht (by omega)⟩
  case round =>
    obtain ⟨k, hk, rfl, hno⟩ := hrel
    by_cases hlt : k < L
    · obtain ⟨b1, o1, e1, k1⟩ := r1.at_ k hlt
      subst e1
      have hkl : k < xs.length := by rw [HL.out]; exact hlt
      have hnk := nth_eq xs k hkl
      by_cases hx : nth xs k = x
      · have hxi : (((nth xs k : Nat) : Int) == (x : Int)) = true := by rw [beq_iff_eq]; omega
        have hd : inw b n x = true := decide_eq_true (hmem.1 (by rw [← hx, hnk]; exact List.getElem_mem hkl))
        have HD := Lib.hid hd
        clear hx hd hnk hno hmem
        go_wp2_with fail
        go_ret
        exact ⟨by rw [HD.out]; rfl, hb1⟩
      · have hxi : (((nth xs k : Nat) : Int) == (x : Int)) = false := by rw [beq_eq_false_iff_ne]; omega
        have hno' : ∀ t, t < k + 1 → nth xs t ≠ x := fun t ht => by
          rcases Nat.lt_or_eq_of_le (Nat.le_of_lt_succ ht) with h1 | h1
          · exact hno t h1
          · rw [h1]; exact hx
        clear hx hno hnk hmem
        go_wp2_with fail
        go_round
        case rel => exact ⟨k + 1, by omega, by go_num, hno'⟩
        case measure => simp [intOf]; omega
    · obtain rfl : L = k := by omega
      have hd : inw b n x = false := decide_eq_false fun hm => by
        obtain ⟨t, ht, e⟩ := List.getElem_of_mem (hmem.2 hm)
        exact hno t (by rw [← HL.out]; exact ht) (by rw [nth_eq xs t ht]; exact e)
      have HD := Lib.hid hd
      clear hd hno hmem
      go_wp2_with fail
      go_ret
      exact ⟨by rw [HD.out]; rfl, hb1⟩
end Go.Proofs.Ytplkmcjobmhneaa
