/-
  The net's Send, All, Copy.
-/
import Derived.Test.YtmkmbnfmmibifaaNet9
namespace Go.Proofs.Ytmkmbnfmmibifaa
open Go.RowKit

theorem Deliver_calls (w : World) (S : Nat → Prop) (P : Nat) (N : Int) (v : Value) (L : List Par) (h : PNet w S P N v L) (hN : 1 ≤ N) (hs : Small L) (hm : L.length ≤ 4096) (i : Nat) (p : Par) (hp : L[i]? = some p) :
    Calls Try.prog 8 #[.pointer (some ⟨P, 0, none⟩), .int .i64 (i : Int)] w (RetDel w S P N p 0 (L.eraseIdx i)) :=
  deliver_any w S P N v L h i p 0 0 (L.eraseIdx i) (fun W v hW => At_calls W S P N v L hW hN hs i p hp) (fun W v hW => Drop_calls W S P N v L hW hN hm i (List.getElem?_eq_some_iff.1 hp).1)
theorem Deliver_none (w : World) (S : Nat → Prop) (P : Nat) (N : Int) (v : Value) (L : List Par) (h : PNet w S P N v L) (hN : 1 ≤ N) (i : Int) (hi : i < 0 ∨ (L.length : Int) ≤ i) :
    Calls Try.prog 8 #[.pointer (some ⟨P, 0, none⟩), .int .i64 i] w (RetDel w S P N noPar 6 L) :=
  deliver_any w S P N v L h i noPar 6 6 L (fun W v hW => At_none W S P N v L hW hN i hi) (fun W v hW => Drop_none W S P N v L hW hN i hi)
theorem node_calls (w : World) (x P : Nat) (N z : Int) (hx : w.cell? ⟨x, 0, none⟩ = some (.pointer (some ⟨P, 0, none⟩))) (hP : w.cell? ⟨P, 0, none⟩ = some (.int .i64 N)) (b : Bool) (hb : decide (0 ≤ z ∧ z < N) = b) :
    Calls Try.prog 24 #[.int .i64 z, .pointer (some ⟨x, 0, none⟩)] w fun e w' => e = .returned (.bool b) ∧ w = w' := by
  by_cases h0 : 0 ≤ z
  · have d1 : decide (0 ≤ z) = true := decide_eq_true h0
    have d2 : decide (z < N) = b := by rw [← hb]; congr 1; simp [h0]
    clear hb
    go_enter Try.func24, Try.ntmps24
    go_wp2_with fail
    go_ret
    exact ⟨rfl, rfl⟩
  · have d1 : decide (0 ≤ z) = false := decide_eq_false h0
    have hbf : b = false := by rw [← hb]; simp [h0]
    subst hbf
    clear hb
    go_enter Try.func24, Try.ntmps24
    go_wp2_with fail
    go_ret
    exact ⟨rfl, rfl⟩
/-- What Send answers, and what it leaves. -/
def sendRes (N f t : Int) (xs : List UInt8) (L : List Par) : Int × List Par :=
  if ¬ (0 ≤ f ∧ f < N) ∨ ¬ (0 ≤ t ∧ t < N) then (1, L) else if 70000 < xs.length then (3, L) else if 4096 ≤ L.length then (7, L) else (0, L ++ [(f, t, xs, true)])
set_option maxRecDepth 100000 in
set_option maxHeartbeats 1600000 in
theorem Send_calls (w : World) (S : Nat → Prop) (P : Nat) (N : Int) (v : Value) (L : List Par) (h : PNet w S P N v L) (hN : 1 ≤ N) (f t : Int) (hf : inI f) (ht : inI t) (A : Option Addr) (n c : Nat) (xs : List UInt8) (ok : Nat → Prop) (hr : RdB w ok A n xs)
    (r0 : Int) (L' : List Par) (hres : sendRes N f t xs L = (r0, L')) :
    Calls Try.prog 7 #[.pointer (some ⟨P, 0, none⟩), .int .i64 f, .int .i64 t, .slice A n c] w fun e w' => e = .returned (.int .i64 r0) ∧ RetNet TN TP w S P N L' w' := by
  obtain ⟨wS, hwS⟩ : ∃ wS, w.alloc (.cells #[.pointer (some ⟨P, 0, none⟩)] 23) = wS := ⟨_, rfl⟩
  obtain ⟨hbS, hx⟩ := box1 _ _ _ _ hwS
  have hS := h.below hbS
  have hnone := none_calls wS S P N v L hS hN
  have hxl := hr.len
  unfold sendRes at hres
  have HWS := Lib.hid hwS
  have hsame := RetNet.same h hbS
  clear hwS
  by_cases hF : 0 ≤ f ∧ f < N
  · have kf := node_calls wS w.heap.size P N f hx hS.c0 true (decide_eq_true hF)
    by_cases hT : 0 ≤ t ∧ t < N
    · have kt := node_calls wS w.heap.size P N t hx hS.c0 true (decide_eq_true hT)
      rw [if_neg (by simp [hF, hT])] at hres
      by_cases hL : 70000 < n
      · rw [if_pos (by omega)] at hres
        injection hres with e1 e2
        subst e1
        subst e2
        have d : decide ((70000 : Int) < (n : Int)) = true := decide_eq_true (by omega)
        have HR := Lib.hid hsame
        clear hsame hr hxl hF hT hL
        go_enter Try.func7, Try.ntmps7
        go_wp2_with fail
        rw [HWS.out]
        refine hnone.mono ?_
        rintro e w' ⟨rfl, rfl⟩
        go_wp2_with (go_at_call 24; (first | (with_reducible refine kf.mono ?_) | (with_reducible refine kt.mono ?_)); rintro e w' ⟨rfl, rfl⟩)
        go_ret
        exact ⟨rfl, HR.out⟩
      · rw [if_neg (by omega)] at hres
        have d : decide ((70000 : Int) < (n : Int)) = false := decide_eq_false (by omega)
        have hlay : Calls Try.prog 26 #[.pointer (some ⟨P, 0, none⟩), .agg #[.int .i64 f, .int .i64 t, .slice A n c, .bool true]] wS fun e w' => e = .returned (.int .i64 r0) ∧ RetNet TN TP w S P N L' w' := by
          by_cases hfl : 4096 ≤ L.length
          · rw [if_pos hfl] at hres
            injection hres with e1 e2
            subst e1
            subst e2
            exact (lay_full wS S P N v L hS hfl f t A n c true).mono fun e w' ⟨he, hw⟩ => ⟨he, hsame.below hw⟩
          · rw [if_neg hfl] at hres
            injection hres with e1 e2
            subst e1
            subst e2
            exact (lay_calls wS S P N v L hS (by omega) f t A n c true xs ok hf ht (hr.below hbS) (by omega)).mono fun e w' ⟨he, hw⟩ => ⟨he, hw.from hbS⟩
        clear hres hsame hr hxl hF hT hL
        go_enter Try.func7, Try.ntmps7
        go_wp2_with fail
        rw [HWS.out]
        refine hnone.mono ?_
        rintro e w' ⟨rfl, rfl⟩
        go_wp2_with (first
          | (go_at_call 24; (first | (with_reducible refine kf.mono ?_) | (with_reducible refine kt.mono ?_)); rintro e w' ⟨rfl, rfl⟩)
          | (go_at_call 26; refine hlay.mono ?_; rintro e w2 ⟨rfl, hrr⟩; have HR := Lib.hid hrr; clear hrr))
        go_ret
        exact ⟨rfl, HR.out⟩
    · have kt := node_calls wS w.heap.size P N t hx hS.c0 false (decide_eq_false hT)
      rw [if_pos (.inr hT)] at hres
      injection hres with e1 e2
      subst e1
      subst e2
      have HR := Lib.hid hsame
      clear hsame hr hxl hF hT
      go_enter Try.func7, Try.ntmps7
      go_wp2_with fail
      rw [HWS.out]
      refine hnone.mono ?_
      rintro e w' ⟨rfl, rfl⟩
      go_wp2_with (go_at_call 24; (first | (with_reducible refine kf.mono ?_) | (with_reducible refine kt.mono ?_)); rintro e w' ⟨rfl, rfl⟩)
      go_ret
      exact ⟨rfl, HR.out⟩
  · have kf := node_calls wS w.heap.size P N f hx hS.c0 false (decide_eq_false hF)
    rw [if_pos (.inl hF)] at hres
    injection hres with e1 e2
    subst e1
    subst e2
    have HR := Lib.hid hsame
    clear hsame hr hxl hF
    go_enter Try.func7, Try.ntmps7
    go_wp2_with fail
    rw [HWS.out]
    refine hnone.mono ?_
    rintro e w' ⟨rfl, rfl⟩
    go_wp2_with (go_at_call 24; refine kf.mono ?_; rintro e w' ⟨rfl, rfl⟩)
    go_ret
    exact ⟨rfl, HR.out⟩
end Go.Proofs.Ytmkmbnfmmibifaa
