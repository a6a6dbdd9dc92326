/-
  The net's calls that go to a place: 'at', with each of its closures.
-/
import Derived.Test.YtmkmbnfmmibifaaNet3
namespace Go.Proofs.Ytmkmbnfmmibifaa
open Go.RowKit

abbrev TN : TypeId := 65
abbrev TP : TypeId := 35
/-- There is no such place. -/
theorem at_none (w : World) (S : Nat → Prop) (P : Nat) (N : Int) (v : Value) (L : List Par) (h : PNet w S P N v L) (hN : 1 ≤ N) (i : Int) (hi : i < 0 ∨ (L.length : Int) ≤ i) (F : Value) :
    Calls Try.prog 27 #[.pointer (some ⟨P, 0, none⟩), .int .i64 i, F] w fun e w' => e = .returned (.int .i64 6) ∧ w = w' := by
  have c1 := h.c1
  obtain ⟨Av, cv, rfl, hcv⟩ := h.form
  have hnone := none_calls w S P N _ L h hN
  have hL0 : (0 : Int) ≤ (L.length : Int) := by omega
  rcases hi with hi | hi
  · have d1 : decide (i < 0) = true := decide_eq_true hi
    go_enter Try.func27, Try.ntmps27
    go_wp2_with fail
    refine hnone.mono ?_
    rintro e w' ⟨rfl, rfl⟩
    go_wp2_with fail
    go_ret
    exact ⟨rfl, rfl⟩
  · have d1 : decide (i < 0) = false := decide_eq_false (by omega)
    have d2 : decide ((L.length : Int) ≤ i) = true := decide_eq_true hi
    go_enter Try.func27, Try.ntmps27
    go_wp2_with fail
    refine hnone.mono ?_
    rintro e w' ⟨rfl, rfl⟩
    go_wp2_with fail
    go_ret
    exact ⟨rfl, rfl⟩
set_option maxHeartbeats 800000 in
theorem at_At (w : World) (S : Nat → Prop) (P : Nat) (N : Int) (v : Value) (L : List Par) (h : PNet w S P N v L) (hN : 1 ≤ N) (i : Nat) (hi : i < L.length) (X0 : Nat) (R : Int → World → Prop)
    (hc : ∀ g cap, v = .slice (some ⟨g, 0, none⟩) L.length cap → Calls Try.prog 34 #[.pointer (some ⟨g, i * 4, none⟩), .pointer (some ⟨X0, 0, none⟩)] w fun e w' => ∃ r, e = .returned (.int .i64 r) ∧ R r w') :
    Calls Try.prog 27 #[.pointer (some ⟨P, 0, none⟩), .int .i64 (i : Int), .func (.func 34) #[] #[.pointer (some ⟨X0, 0, none⟩)]] w fun e w' => ∃ r, e = .returned (.int .i64 r) ∧ R r w' := by
  have c1 := h.c1
  obtain ⟨g, cap, vs, rfl, _, _, hcap, _, _, _⟩ := h.own.at_ i L[i] (List.getElem?_eq_getElem hi)
  have hnone := none_calls w S P N _ L h hN
  have hc' := hc g cap rfl
  have d1 : decide ((i : Int) < 0) = false := decide_eq_false (by omega)
  have d2 : decide ((L.length : Int) ≤ (i : Int)) = false := decide_eq_false (by omega)
  have hiL : (i : Int) < (L.length : Int) := by omega
  clear hc
  go_enter Try.func27, Try.ntmps27
  go_wp2_with fail
  refine hnone.mono ?_
  rintro e w' ⟨rfl, rfl⟩
  go_wp2_with fail
  refine hc'.mono ?_
  rintro e w' ⟨r, rfl, hr⟩
  have HR := Lib.hid hr
  clear hr
  go_wp2_with fail
  go_ret
  exact ⟨r, rfl, HR.out⟩
set_option maxHeartbeats 800000 in
theorem at_Drop (w : World) (S : Nat → Prop) (P : Nat) (N : Int) (v : Value) (L : List Par) (h : PNet w S P N v L) (hN : 1 ≤ N) (i : Nat) (hi : i < L.length) (X0 X1 : Nat) (R : Int → World → Prop)
    (hc : ∀ g cap, v = .slice (some ⟨g, 0, none⟩) L.length cap → Calls Try.prog 28 #[.pointer (some ⟨g, i * 4, none⟩), .pointer (some ⟨X0, 0, none⟩), .pointer (some ⟨X1, 0, none⟩)] w fun e w' => ∃ r, e = .returned (.int .i64 r) ∧ R r w') :
    Calls Try.prog 27 #[.pointer (some ⟨P, 0, none⟩), .int .i64 (i : Int), .func (.func 28) #[] #[.pointer (some ⟨X0, 0, none⟩), .pointer (some ⟨X1, 0, none⟩)]] w fun e w' => ∃ r, e = .returned (.int .i64 r) ∧ R r w' := by
  have c1 := h.c1
  obtain ⟨g, cap, vs, rfl, _, _, hcap, _, _, _⟩ := h.own.at_ i L[i] (List.getElem?_eq_getElem hi)
  have hnone := none_calls w S P N _ L h hN
  have hc' := hc g cap rfl
  have d1 : decide ((i : Int) < 0) = false := decide_eq_false (by omega)
  have d2 : decide ((L.length : Int) ≤ (i : Int)) = false := decide_eq_false (by omega)
  have hiL : (i : Int) < (L.length : Int) := by omega
  clear hc
  go_enter Try.func27, Try.ntmps27
  go_wp2_with fail
  refine hnone.mono ?_
  rintro e w' ⟨rfl, rfl⟩
  go_wp2_with fail
  refine hc'.mono ?_
  rintro e w' ⟨r, rfl, hr⟩
  have HR := Lib.hid hr
  clear hr
  go_wp2_with fail
  go_ret
  exact ⟨r, rfl, HR.out⟩
set_option maxHeartbeats 800000 in
theorem at_Double (w : World) (S : Nat → Prop) (P : Nat) (N : Int) (v : Value) (L : List Par) (h : PNet w S P N v L) (hN : 1 ≤ N) (i : Nat) (hi : i < L.length) (X0 : Nat) (R : Int → World → Prop)
    (hc : ∀ g cap, v = .slice (some ⟨g, 0, none⟩) L.length cap → Calls Try.prog 30 #[.pointer (some ⟨g, i * 4, none⟩), .pointer (some ⟨X0, 0, none⟩)] w fun e w' => ∃ r, e = .returned (.int .i64 r) ∧ R r w') :
    Calls Try.prog 27 #[.pointer (some ⟨P, 0, none⟩), .int .i64 (i : Int), .func (.func 30) #[] #[.pointer (some ⟨X0, 0, none⟩)]] w fun e w' => ∃ r, e = .returned (.int .i64 r) ∧ R r w' := by
  have c1 := h.c1
  obtain ⟨g, cap, vs, rfl, _, _, hcap, _, _, _⟩ := h.own.at_ i L[i] (List.getElem?_eq_getElem hi)
  have hnone := none_calls w S P N _ L h hN
  have hc' := hc g cap rfl
  have d1 : decide ((i : Int) < 0) = false := decide_eq_false (by omega)
  have d2 : decide ((L.length : Int) ≤ (i : Int)) = false := decide_eq_false (by omega)
  have hiL : (i : Int) < (L.length : Int) := by omega
  clear hc
  go_enter Try.func27, Try.ntmps27
  go_wp2_with fail
  refine hnone.mono ?_
  rintro e w' ⟨rfl, rfl⟩
  go_wp2_with fail
  refine hc'.mono ?_
  rintro e w' ⟨r, rfl, hr⟩
  have HR := Lib.hid hr
  clear hr
  go_wp2_with fail
  go_ret
  exact ⟨r, rfl, HR.out⟩
set_option maxHeartbeats 800000 in
theorem at_Corrupt (w : World) (S : Nat → Prop) (P : Nat) (N : Int) (v : Value) (L : List Par) (h : PNet w S P N v L) (hN : 1 ≤ N) (i : Nat) (hi : i < L.length) (X0 : Nat) (R : Int → World → Prop)
    (hc : ∀ g cap, v = .slice (some ⟨g, 0, none⟩) L.length cap → Calls Try.prog 31 #[.pointer (some ⟨g, i * 4, none⟩), .pointer (some ⟨X0, 0, none⟩)] w fun e w' => ∃ r, e = .returned (.int .i64 r) ∧ R r w') :
    Calls Try.prog 27 #[.pointer (some ⟨P, 0, none⟩), .int .i64 (i : Int), .func (.func 31) #[] #[.pointer (some ⟨X0, 0, none⟩)]] w fun e w' => ∃ r, e = .returned (.int .i64 r) ∧ R r w' := by
  have c1 := h.c1
  obtain ⟨g, cap, vs, rfl, _, _, hcap, _, _, _⟩ := h.own.at_ i L[i] (List.getElem?_eq_getElem hi)
  have hnone := none_calls w S P N _ L h hN
  have hc' := hc g cap rfl
  have d1 : decide ((i : Int) < 0) = false := decide_eq_false (by omega)
  have d2 : decide ((L.length : Int) ≤ (i : Int)) = false := decide_eq_false (by omega)
  have hiL : (i : Int) < (L.length : Int) := by omega
  clear hc
  go_enter Try.func27, Try.ntmps27
  go_wp2_with fail
  refine hnone.mono ?_
  rintro e w' ⟨rfl, rfl⟩
  go_wp2_with fail
  refine hc'.mono ?_
  rintro e w' ⟨r, rfl, hr⟩
  have HR := Lib.hid hr
  clear hr
  go_wp2_with fail
  go_ret
  exact ⟨r, rfl, HR.out⟩
end Go.Proofs.Ytmkmbnfmmibifaa
