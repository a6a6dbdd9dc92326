/-
  The net's Double and Corrupt, Len, New.
-/
import Derived.Test.YtmkmbnfmmibifaaNet5
namespace Go.Proofs.Ytmkmbnfmmibifaa
open Go.RowKit

def RNet' (S : Nat → Prop) (P : Nat) (N : Int) (w : World) (r0 : Int) (L' : List Par) (r : Int) (w' : World) : Prop := r = r0 ∧ RetNet TN TP w S P N L' w'
set_option maxRecDepth 100000 in
set_option maxHeartbeats 1600000 in
theorem double1_calls (w : World) (S : Nat → Prop) (P : Nat) (N : Int) (L : List Par) (g cap : Nat) (h : PNet w S P N (.slice (some ⟨g, 0, none⟩) L.length cap) L) (i : Nat) (p : Par) (hp : L[i]? = some p) (hs : Small L) (x : Nat)
    (hx : w.cell? ⟨x, 0, none⟩ = some (.pointer (some ⟨P, 0, none⟩))) (r0 : Int) (L' : List Par) (hr0 : (L.length < 4096 ∧ r0 = 0 ∧ L' = L ++ [p]) ∨ (4096 ≤ L.length ∧ r0 = 7 ∧ L' = L)) :
    Calls Try.prog 30 #[.pointer (some ⟨g, i * 4, none⟩), .pointer (some ⟨x, 0, none⟩)] w fun e w' => ∃ r, e = .returned (.int .i64 r) ∧ RNet' S P N w r0 L' r w' := by
  obtain ⟨A, n, c, k0, k1, k2, k3, hnc, hf1, hf2, hr, _⟩ := parCells h i p hp
  have hn : n ≤ 140737488355328 := by have := hs p (List.mem_of_getElem? hp); have := hr.len; omega
  obtain ⟨f0, t0, bs, b0⟩ := p
  have hlay : Calls Try.prog 26 #[.pointer (some ⟨P, 0, none⟩), .agg #[.int .i64 f0, .int .i64 t0, .slice A n c, .bool b0]] w.drew fun e w' => ∃ r, e = .returned (.int .i64 r) ∧ RNet' S P N w r0 L' r w' := by
    rcases hr0 with ⟨h1, e1, e2⟩ | ⟨h1, e1, e2⟩ <;> rw [e1, e2]
    · exact (lay_calls w.drew S P N _ L h.drew h1 f0 t0 A n c b0 bs _ hf1 hf2 hr.drew hn).mono fun e w' ⟨he, hw⟩ => ⟨0, he, rfl, hw.from (Below.refl _ _).drew⟩
    · exact (lay_full w.drew S P N _ L h.drew h1 f0 t0 A n c b0).mono fun e w' ⟨he, hw⟩ => ⟨7, he, rfl, (RetNet.same h.drew hw).from (Below.refl _ _).drew⟩
  clear hr hf1 hf2 hr0
  go_enter Try.func30, Try.ntmps30
  go_wp2_with fail
  go_region_law (first
    | (go_simp; go_at_call 26; (with_reducible refine hlay.mono ?_); rintro e w2 ⟨r, rfl, hrr⟩))
  all_goals
    have HR := Lib.hid hrr
    clear hrr
    go_wp2_with fail
    go_ret
    exact ⟨r, rfl, HR.out⟩
set_option maxHeartbeats 1600000 in
theorem Double_calls (w : World) (S : Nat → Prop) (P : Nat) (N : Int) (v : Value) (L : List Par) (h : PNet w S P N v L) (hN : 1 ≤ N) (hs : Small L) (i : Nat) (p : Par) (hp : L[i]? = some p) (r0 : Int) (L' : List Par) (hr0 : (L.length < 4096 ∧ r0 = 0 ∧ L' = L ++ [p]) ∨ (4096 ≤ L.length ∧ r0 = 7 ∧ L' = L)) :
    Calls Try.prog 10 #[.pointer (some ⟨P, 0, none⟩), .int .i64 (i : Int)] w fun e w' => e = .returned (.int .i64 r0) ∧ RetNet TN TP w S P N L' w' := by
  obtain ⟨wS, hwS⟩ : ∃ wS, w.alloc (.cells #[.pointer (some ⟨P, 0, none⟩)] 23) = wS := ⟨_, rfl⟩
  have hbS : Below w.heap.size w wS := by rw [← hwS]; exact allocBelow' _ _
  have hS := h.below hbS
  have hi : i < L.length := (List.getElem?_eq_some_iff.1 hp).1
  have hx : wS.cell? ⟨w.heap.size, 0, none⟩ = some (.pointer (some ⟨P, 0, none⟩)) := by rw [← hwS]; simp
  have hcall := at_Double wS S P N v L hS hN i hi w.heap.size (RNet' S P N wS r0 L') fun g cap e => by
    subst e
    exact double1_calls wS S P N L g cap hS i p hp hs w.heap.size hx r0 L' hr0
  have HWS := Lib.hid hwS
  clear hwS hr0
  go_enter Try.func10, Try.ntmps10
  go_wp2_with fail
  rw [HWS.out]
  refine hcall.mono ?_
  rintro e w2 ⟨r, rfl, rfl, hrr⟩
  have HR := Lib.hid hrr
  clear hrr
  go_wp2_with fail
  go_ret
  exact ⟨rfl, HR.out.from hbS⟩
set_option maxHeartbeats 800000 in
theorem Double_none (w : World) (S : Nat → Prop) (P : Nat) (N : Int) (v : Value) (L : List Par) (h : PNet w S P N v L) (hN : 1 ≤ N) (i : Int) (hi : i < 0 ∨ (L.length : Int) ≤ i) :
    Calls Try.prog 10 #[.pointer (some ⟨P, 0, none⟩), .int .i64 i] w fun e w' => e = .returned (.int .i64 6) ∧ RetNet TN TP w S P N L w' := by
  obtain ⟨wS, hwS⟩ : ∃ wS, w.alloc (.cells #[.pointer (some ⟨P, 0, none⟩)] 23) = wS := ⟨_, rfl⟩
  have hbS : Below w.heap.size w wS := by rw [← hwS]; exact allocBelow' _ _
  have hS := h.below hbS
  have hx : wS.cell? ⟨w.heap.size, 0, none⟩ = some (.pointer (some ⟨P, 0, none⟩)) := by rw [← hwS]; simp
  have hcall := at_none wS S P N v L hS hN i hi (.func (.func 30) #[] #[.pointer (some ⟨w.heap.size, 0, none⟩)])
  have hres := RetNet.same h hbS
  have HWS := Lib.hid hwS
  have HR := Lib.hid hres
  clear hwS hres
  go_enter Try.func10, Try.ntmps10
  go_wp2_with fail
  rw [HWS.out]
  refine hcall.mono ?_
  rintro e w' ⟨rfl, rfl⟩
  go_wp2_with fail
  go_ret
  exact ⟨rfl, HR.out⟩
end Go.Proofs.Ytmkmbnfmmibifaa
