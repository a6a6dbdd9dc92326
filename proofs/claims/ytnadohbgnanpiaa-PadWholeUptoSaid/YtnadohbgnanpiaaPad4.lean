/-
  The walks of pad.Take's helpers: the two predicates, IndexFunc, ContainsFunc.
-/
import Derived.Test.YtnadohbgnanpiaaPad3
namespace Go.Proofs.Ytnadohbgnanpiaa
open Go.RowKit

theorem take1_calls (A : Option Addr) (n c B s : Nat) (w : World) (hB : w.cell? ⟨B, 0, none⟩ = some (.int .i64 (s : Int))) :
    Calls Try.prog 23 #[.slice A n c, .pointer (some ⟨B, 0, none⟩)] w fun e w' => e = .returned (.bool ((n : Int) != (s : Int))) ∧ w = w' := by
  go_enter Try.func23, Try.ntmps23
  go_wp2_with fail
  go_ret
  exact ⟨rfl, rfl⟩
theorem take2_calls (x : Int) (w : World) :
    Calls Try.prog 30 #[.int .u8 x] w fun e w' => e = .returned (.bool (x != 0)) ∧ w = w' := by
  go_enter Try.func30, Try.ntmps30
  go_wp2_with fail
  go_ret
  exact ⟨rfl, rfl⟩
theorem all_found {α : Type} (p : α → Bool) (xs : List α) (x : α) (hx : x ∈ xs) (h : p x = false) : xs.all p = false := by
  rw [Bool.eq_false_iff]
  intro ha
  rw [List.all_eq_true.1 ha x hx] at h
  cases h
set_option maxHeartbeats 800000 in
theorem idx_sym (A : Option Addr) (n c B s : Nat) (ls : List (List UInt8)) (w : World) (ok : Nat → Prop) (hr : RdBB w ok A n ls) (hB : w.cell? ⟨B, 0, none⟩ = some (.int .i64 (s : Int))) :
    Calls Try.prog 36 #[.slice A n c, .func (.func 23) #[] #[.pointer (some ⟨B, 0, none⟩)]] w fun e w' => (∃ r : Int, e = .returned (.int .i64 r) ∧ -9223372036854775808 ≤ r ∧ decide (0 ≤ r) = (!(ls.all fun x => decide (x.length = s)))) ∧ w = w' := by
  have hm := hr.max
  have HL := Lib.hid hr.len
  go_enter Try.func36, Try.ntmps36
  go_wp2_with fail
  go_loop [8] (fun i => ∃ k : Nat, k ≤ n ∧ i = .int .i64 k ∧ ∀ t, t < k → (lrow ls t).length = s) (fun i => n - (intOf i).toNat)
  case atStart => exact ⟨0, Nat.zero_le _, rfl, fun t ht => absurd ht (by omega)⟩
  case round =>
    obtain ⟨k, hk, rfl, hall⟩ := hrel
    by_cases hlt : k < n
    · obtain ⟨b1, o1, A1, n1, c1, e1, _, _, k1, _, q1⟩ := hr.at_ k hlt
      subst e1
      have hn1 := q1.len
      have hmem : lrow ls k ∈ ls := by rw [lrow_eq ls k (by rw [HL.out]; exact hlt)]; exact List.getElem_mem _
      by_cases hs : n1 = s
      · have hne : ((n1 : Int) != (s : Int)) = false := by rw [bne_eq_false_iff_eq]; omega
        have hnext : ∀ t, t < k + 1 → (lrow ls t).length = s := fun t ht => by
          rcases Nat.lt_or_eq_of_le (Nat.le_of_lt_succ ht) with h1 | h1
          · exact hall t h1
          · rw [h1]; omega
        clear hall hn1 hs
        go_wp2_with fail
        refine (take1_calls A1 n1 c1 B s w hB).mono ?_
        rw [hne]
        rintro e w' ⟨rfl, rfl⟩
        go_wp2_with fail
        go_round
        case rel => exact ⟨k + 1, by omega, by go_num, hnext⟩
        case measure => simp [intOf]; omega
      · have hne : ((n1 : Int) != (s : Int)) = true := by rw [bne_iff_ne]; omega
        have hno := all_found (fun x : List UInt8 => decide (x.length = s)) ls _ hmem (decide_eq_false (by rw [hn1]; exact hs))
        have HNO := Lib.hid hno
        clear hall hn1 hs hno
        go_wp2_with fail
        refine (take1_calls A1 n1 c1 B s w hB).mono ?_
        rw [hne]
        rintro e w' ⟨rfl, rfl⟩
        go_wp2_with fail
        go_ret
        exact ⟨⟨k, rfl, by omega, by rw [HNO.out]; simp⟩, rfl⟩
    · obtain rfl : k = n := by omega
      have hyes : (ls.all fun x => decide (x.length = s)) = true := by
        rw [List.all_eq_true]
        intro x hx
        obtain ⟨t, ht, e⟩ := List.getElem_of_mem hx
        have := hall t (by rw [← HL.out]; exact ht)
        rw [lrow_eq ls t ht, e] at this
        exact decide_eq_true this
      have HY := Lib.hid hyes
      clear hall hyes
      go_wp2_with fail
      go_ret
      exact ⟨⟨-1, rfl, by omega, by rw [HY.out]; rfl⟩, rfl⟩
theorem has_sym (A : Option Addr) (n c B s : Nat) (ls : List (List UInt8)) (w : World) (ok : Nat → Prop) (hr : RdBB w ok A n ls) (hB : w.cell? ⟨B, 0, none⟩ = some (.int .i64 (s : Int))) :
    Calls Try.prog 22 #[.slice A n c, .func (.func 23) #[] #[.pointer (some ⟨B, 0, none⟩)]] w fun e w' => e = .returned (.bool (!(ls.all fun x => decide (x.length = s)))) ∧ w = w' := by
  go_enter Try.func22, Try.ntmps22
  go_wp2_with fail
  refine (idx_sym A n c B s ls w ok hr hB).mono ?_
  rintro e w' ⟨⟨r, rfl, hr0, hd⟩, rfl⟩
  have HD := Lib.hid hd
  clear hd
  go_wp2_with fail
  go_ret
  exact ⟨by rw [← HD.out]; rfl, rfl⟩
set_option maxHeartbeats 800000 in
theorem idx_byte (A : Option Addr) (n c : Nat) (xs : List UInt8) (w : World) (ok : Nat → Prop) (hr : RdB w ok A n xs) :
    Calls Try.prog 39 #[.slice A n c, .func (.func 30) #[] #[]] w fun e w' => (∃ r : Int, e = .returned (.int .i64 r) ∧ -9223372036854775808 ≤ r ∧ decide (0 ≤ r) = (xs.any fun b => b != 0)) ∧ w = w' := by
  have hm := hr.max
  have HL := Lib.hid hr.len
  go_enter Try.func39, Try.ntmps39
  go_wp2_with fail
  go_loop [8] (fun i => ∃ k : Nat, k ≤ n ∧ i = .int .i64 k ∧ ∀ t, t < k → byt xs t = 0) (fun i => n - (intOf i).toNat)
  case atStart => exact ⟨0, Nat.zero_le _, rfl, fun t ht => absurd ht (by omega)⟩
  case round =>
    obtain ⟨k, hk, rfl, hall⟩ := hrel
    by_cases hlt : k < n
    · obtain ⟨b1, o1, e1, k1⟩ := hr.at_ k hlt
      subst e1
      have hkx : k < xs.length := by rw [HL.out]; exact hlt
      have hbe := byt_eq xs k hkx
      obtain ⟨y, hy⟩ : ∃ y, byt xs k = y := ⟨_, rfl⟩
      have hyl := byt_lt xs k
      rw [hy] at k1 hyl hbe
      by_cases h0 : y = 0
      · subst h0
        have hnext : ∀ t, t < k + 1 → byt xs t = 0 := fun t ht => by
          rcases Nat.lt_or_eq_of_le (Nat.le_of_lt_succ ht) with h1 | h1
          · exact hall t h1
          · rw [h1, hy]
        clear hall hy hbe
        go_wp2_with fail
        refine (take2_calls 0 w).mono ?_
        rintro e w' ⟨rfl, rfl⟩
        go_wp2_with fail
        go_round
        case rel => exact ⟨k + 1, by omega, by go_num, hnext⟩
        case measure => simp [intOf]; omega
      · have hne : ((y : Int) != 0) = true := by rw [bne_iff_ne]; omega
        have hno : (xs.any fun b => b != 0) = true := List.any_eq_true.2 ⟨xs[k], List.getElem_mem hkx, by
          rw [bne_iff_ne]
          intro e
          rw [e] at hbe
          exact h0 hbe⟩
        have HNO := Lib.hid hno
        clear hall hy hbe h0 hno
        go_wp2_with fail
        refine (take2_calls (y : Int) w).mono ?_
        rw [hne]
        rintro e w' ⟨rfl, rfl⟩
        go_wp2_with fail
        go_ret
        exact ⟨⟨k, rfl, by omega, by rw [HNO.out]; simp⟩, rfl⟩
    · obtain rfl : k = n := by omega
      have hyes : (xs.any fun b => b != 0) = false := by
        rw [List.any_eq_false]
        intro x hx
        obtain ⟨t, ht, e⟩ := List.getElem_of_mem hx
        have h1 := hall t (by rw [← HL.out]; exact ht)
        rw [byt_eq xs t ht, e] at h1
        have : x = 0 := by apply UInt8.toNat_inj.1; rw [h1]; rfl
        simp [this]
      have HY := Lib.hid hyes
      clear hall hyes
      go_wp2_with fail
      go_ret
      exact ⟨⟨-1, rfl, by omega, by rw [HY.out]; rfl⟩, rfl⟩
theorem has_byte (A : Option Addr) (n c : Nat) (xs : List UInt8) (w : World) (ok : Nat → Prop) (hr : RdB w ok A n xs) :
    Calls Try.prog 29 #[.slice A n c, .func (.func 30) #[] #[]] w fun e w' => e = .returned (.bool (xs.any fun b => b != 0)) ∧ w = w' := by
  go_enter Try.func29, Try.ntmps29
  go_wp2_with fail
  refine (idx_byte A n c xs w ok hr).mono ?_
  rintro e w' ⟨⟨r, rfl, hr0, hd⟩, rfl⟩
  have HD := Lib.hid hd
  clear hd
  go_wp2_with fail
  go_ret
  exact ⟨by rw [← HD.out]; rfl, rfl⟩
end Go.Proofs.Ytnadohbgnanpiaa
