/-
  The net's Corrupt, Drop.
-/
import Derived.Test.YtmkmbnfmmibifaaNet6
import Derived.Test.YtmkmbnfmmibifaaNet7
namespace Go.Proofs.Ytmkmbnfmmibifaa
open Go.RowKit

set_option maxRecDepth 100000 in
theorem corrupt1_long (w : World) (g i x : Nat) (A : Option Addr) (n c : Nat) (hx : w.cell? ⟨x, 0, none⟩ = some (.slice A n c)) (hn : 70000 < n) (R : World → Prop) (hR : R w) :
    Calls Try.prog 31 #[.pointer (some ⟨g, i * 4, none⟩), .pointer (some ⟨x, 0, none⟩)] w fun e w' => ∃ r, e = .returned (.int .i64 r) ∧ r = 3 ∧ R w' := by
  have d : decide ((70000 : Int) < (n : Int)) = true := decide_eq_true (by omega)
  have HR := Lib.hid hR
  clear hR hn
  go_enter Try.func31, Try.ntmps31
  go_wp2_with fail
  go_ret
  exact ⟨3, rfl, rfl, HR.out⟩
set_option maxRecDepth 100000 in
set_option maxHeartbeats 1600000 in
theorem corrupt1_calls (w : World) (S : Nat → Prop) (P : Nat) (N : Int) (L : List Par) (g cap : Nat) (h : PNet w S P N (.slice (some ⟨g, 0, none⟩) L.length cap) L) (i : Nat) (p : Par) (hp : L[i]? = some p) (x : Nat)
    (A : Option Addr) (n c : Nat) (ys : List UInt8) (ok : Nat → Prop) (hx : w.cell? ⟨x, 0, none⟩ = some (.slice A n c)) (hn : n ≤ 70000) (hr : RdB w ok A n ys) :
    Calls Try.prog 31 #[.pointer (some ⟨g, i * 4, none⟩), .pointer (some ⟨x, 0, none⟩)] w fun e w' => ∃ r, e = .returned (.int .i64 r) ∧ RNet' S P N w 0 (L.set i (p.1, p.2.1, ys, false)) r w' := by
  obtain ⟨A0, n0, c0, k0, k1, k2, k3, hnc, hf1, hf2, _, hgS, hgP, hfr⟩ := parCells h i p hp
  have d : decide ((70000 : Int) < (n : Int)) = false := decide_eq_false (by omega)
  have hcl := bclone_calls A n c ys w ok hr (by omega)
  have hi : i < L.length := (List.getElem?_eq_some_iff.1 hp).1
  have hyl := hr.len
  have HYL := Lib.hid hyl
  clear hr hyl hn
  go_enter Try.func31, Try.ntmps31
  go_wp2_with fail
  refine hcl.mono ?_
  unfold RetB
  rintro e w2 ⟨v, rfl, ho, hb⟩
  obtain ⟨A', c', rfl, hfb⟩ := ho.asFB n HYL.out
  have h2 := h.below hb
  have m2 := cellBelow hb k2
  have m3 := cellBelow hb k3
  have fz : ∀ j, w2.frozen? ⟨g, j, none⟩ = false := fun j => (hb.frozen (p := ⟨g, j, none⟩) (h.lt g hgS)).trans (hfr j)
  obtain ⟨hrd, hcc⟩ := hfb.rd
  have hSlt := h.lt
  have own1 := h2.own.mono (S' := fun k => (S k ∧ k ≠ P) ∨ New w w2 k) fun k _ hk => .inl hk
  have own2 := own1.store i 2 (.slice A' n c') p (p.1, p.2.1, ys, p.2.2.2) hp (by decide) (fun vs hV => by
    obtain ⟨A0, n0, c0, rfl, q1, q2, q3, q4⟩ := par_open hV
    exact par_mk q2 q3 hcc (hrd.mono fun k hk _ => ⟨.inr hk, fun e => by have := hSlt g hgS; have := hk.1; omega⟩))
  have hl1 : (L.set i (p.1, p.2.1, ys, p.2.2.2)).length = L.length := by simp
  have own2' : Own elPar TP (w2.setCell ⟨g, i * 4 + 2, none⟩ (.slice A' n c')) (fun k => (S k ∧ k ≠ P) ∨ New w w2 k) (.slice (some ⟨g, 0, none⟩) (L.set i (p.1, p.2.1, ys, p.2.2.2)).length cap) (L.set i (p.1, p.2.1, ys, p.2.2.2)) := by rw [hl1]; exact own2
  have own3 := own2'.store i 3 (.bool false) (p.1, p.2.1, ys, p.2.2.2) (p.1, p.2.1, ys, false) (by rw [List.getElem?_set_self hi]) (by decide) (fun vs hV => by
    obtain ⟨A0, n0, c0, rfl, q1, q2, q3, q4⟩ := par_open hV
    exact par_mk q2 q3 q1 q4)
  rw [hl1, List.set_set] at own3
  have hch : Chg (fun k => k = g) w2 ((w2.setCell ⟨g, i * 4 + 2, none⟩ (.slice A' n c')).setCell ⟨g, i * 4 + 3, none⟩ (.bool false)) := (Chg.set w2 ⟨g, i * 4 + 2, none⟩ _).trans (Chg.set _ ⟨g, i * 4 + 3, none⟩ _) fun _ _ h => h
  have hres : RNet' S P N w 0 (L.set i (p.1, p.2.1, ys, false)) 0 ((w2.setCell ⟨g, i * 4 + 2, none⟩ (.slice A' n c')).setCell ⟨g, i * 4 + 3, none⟩ (.bool false)) := by
    refine ⟨rfl, fun k => S k ∨ New w w2 k, _, ⟨?_, .inl h.sp, own3.mono fun k _ hk => ?_, fun k hk => ?_⟩, (Chg.ofBelow hb).trans hch fun k _ hk => by rw [hk]; exact hgS, fun k hk => hk.imp_right fun h => h.1⟩
    · exact (hch.block P h2.plt (fun e => hgP e.symm)).trans h2.blk
    · rcases hk with hk | hk
      · exact ⟨.inl hk.1, hk.2⟩
      · exact ⟨.inr hk, fun e => by have := h.plt; have := hk.1; omega⟩
    · show k < ((w2.setCell ⟨g, i * 4 + 2, none⟩ (.slice A' n c')).setCell ⟨g, i * 4 + 3, none⟩ (.bool false)).heap.size
      simp only [World.size_setCell]
      rcases hk with hk | hk
      · exact h2.lt k hk
      · exact hk.2
  have HRES := Lib.hid hres
  clear hres hch own3 own2' own2 own1 hl1 hrd hcc hfb ho k0 k1 k2 k3
  go_wp2_with fail
  go_ret
  exact ⟨0, rfl, HRES.out⟩
theorem box1 (w : World) (v : Value) (t : TypeId) (wS : World) (h : w.alloc (.cells #[v] t) = wS) : Below w.heap.size w wS ∧ wS.cell? ⟨w.heap.size, 0, none⟩ = some v := by
  subst h
  exact ⟨allocBelow' _ _, by simp⟩
set_option maxHeartbeats 800000 in
theorem Corrupt_calls (w : World) (S : Nat → Prop) (P : Nat) (N : Int) (v : Value) (L : List Par) (h : PNet w S P N v L) (hN : 1 ≤ N) (i : Nat) (p : Par) (hp : L[i]? = some p) (A : Option Addr) (n c : Nat) (ys : List UInt8) (ok : Nat → Prop) (hr : RdB w ok A n ys)
    (r0 : Int) (L' : List Par) (hr0 : (n ≤ 70000 ∧ r0 = 0 ∧ L' = L.set i (p.1, p.2.1, ys, false)) ∨ (70000 < n ∧ r0 = 3 ∧ L' = L)) :
    Calls Try.prog 11 #[.pointer (some ⟨P, 0, none⟩), .int .i64 (i : Int), .slice A n c] w fun e w' => e = .returned (.int .i64 r0) ∧ RetNet TN TP w S P N L' w' := by
  obtain ⟨wS, hwS⟩ : ∃ wS, w.alloc (.cells #[.slice A n c] 28) = wS := ⟨_, rfl⟩
  obtain ⟨hbS, hx⟩ := box1 _ _ _ _ hwS
  have hS := h.below hbS
  have hi : i < L.length := (List.getElem?_eq_some_iff.1 hp).1
  have hcall := at_Corrupt wS S P N v L hS hN i hi w.heap.size (RNet' S P N wS r0 L') fun g cap e => by
    subst e
    rcases hr0 with ⟨h1, e1, e2⟩ | ⟨h1, e1, e2⟩ <;> rw [e1, e2]
    · exact corrupt1_calls wS S P N L g cap hS i p hp w.heap.size A n c ys ok hx h1 (hr.below hbS)
    · exact (corrupt1_long wS g i w.heap.size A n c hx h1 (fun w' => RetNet TN TP wS S P N L w') (RetNet.same hS (Below.refl _ _)))
  have HWS := Lib.hid hwS
  clear hwS hr0 hr
  go_enter Try.func11, Try.ntmps11
  go_wp2_with fail
  rw [HWS.out]
  refine hcall.mono ?_
  rintro e w2 ⟨r, rfl, rfl, hrr⟩
  have HR := Lib.hid hrr
  clear hrr
  go_wp2_with fail
  go_ret
  exact ⟨rfl, HR.out.from hbS⟩
set_option maxHeartbeats 800000 in
theorem Corrupt_none (w : World) (S : Nat → Prop) (P : Nat) (N : Int) (v : Value) (L : List Par) (h : PNet w S P N v L) (hN : 1 ≤ N) (i : Int) (hi : i < 0 ∨ (L.length : Int) ≤ i) (A : Option Addr) (n c : Nat) :
    Calls Try.prog 11 #[.pointer (some ⟨P, 0, none⟩), .int .i64 i, .slice A n c] w fun e w' => e = .returned (.int .i64 6) ∧ RetNet TN TP w S P N L w' := by
  obtain ⟨wS, hwS⟩ : ∃ wS, w.alloc (.cells #[.slice A n c] 28) = wS := ⟨_, rfl⟩
  obtain ⟨hbS, hx⟩ := box1 _ _ _ _ hwS
  have hS := h.below hbS
  have hcall := at_none wS S P N v L hS hN i hi (.func (.func 31) #[] #[.pointer (some ⟨w.heap.size, 0, none⟩)])
  have hres := RetNet.same h hbS
  have HWS := Lib.hid hwS
  have HR := Lib.hid hres
  clear hwS hres
  go_enter Try.func11, Try.ntmps11
  go_wp2_with fail
  rw [HWS.out]
  refine hcall.mono ?_
  rintro e w' ⟨rfl, rfl⟩
  go_wp2_with fail
  go_ret
  exact ⟨rfl, HR.out⟩
set_option maxHeartbeats 800000 in
theorem Drop_calls (w : World) (S : Nat → Prop) (P : Nat) (N : Int) (v : Value) (L : List Par) (h : PNet w S P N v L) (hN : 1 ≤ N) (hm : L.length ≤ 4096) (i : Nat) (hi : i < L.length) :
    Calls Try.prog 9 #[.pointer (some ⟨P, 0, none⟩), .int .i64 (i : Int)] w fun e w' => e = .returned (.int .i64 0) ∧ RetNet TN TP w S P N (L.eraseIdx i) w' := by
  obtain ⟨wR, hwR⟩ : ∃ wR, w.alloc (.cells #[.pointer (some ⟨P, 0, none⟩)] 23) = wR := ⟨_, rfl⟩
  obtain ⟨hbR, hx⟩ := box1 _ _ _ _ hwR
  have hzR : wR.heap.size = w.heap.size + 1 := by rw [← hwR]; simp
  obtain ⟨wS, hwS⟩ : ∃ wS, wR.alloc (.cells #[.int .i64 (i : Int)] 3) = wS := ⟨_, rfl⟩
  obtain ⟨hbQ, hy⟩ := box1 _ _ _ _ hwS
  have hbS := stepBelow hbR hbQ
  have hx := cellBelow hbQ hx
  rw [hzR] at hy
  have hS := h.below hbS
  have hcall := at_Drop wS S P N v L hS hN i hi w.heap.size (w.heap.size + 1) (RNet S P N wS 0 (L.eraseIdx i)) fun g cap e => by
    subst e
    exact drop1_calls wS S P N L g cap hS i hi hm w.heap.size (w.heap.size + 1) hx hy (fun hh => by have := h.lt _ hh; omega) (fun hh => by have := h.lt _ hh; omega)
  have hw2 : (w.alloc (.cells #[.pointer (some ⟨P, 0, none⟩)] 23)).alloc (.cells #[.int .i64 (i : Int)] 3) = wS := by rw [hwR, hwS]
  have HWS := Lib.hid hw2
  clear hwS hwR hw2 hzR
  go_enter Try.func9, Try.ntmps9
  go_wp2_with fail
  rw [HWS.out]
  refine hcall.mono ?_
  rintro e w2 ⟨r, rfl, rfl, hrr⟩
  have HR := Lib.hid hrr
  clear hrr
  go_wp2_with fail
  go_ret
  exact ⟨rfl, HR.out.from hbS⟩
set_option maxHeartbeats 800000 in
theorem Drop_none (w : World) (S : Nat → Prop) (P : Nat) (N : Int) (v : Value) (L : List Par) (h : PNet w S P N v L) (hN : 1 ≤ N) (i : Int) (hi : i < 0 ∨ (L.length : Int) ≤ i) :
    Calls Try.prog 9 #[.pointer (some ⟨P, 0, none⟩), .int .i64 i] w fun e w' => e = .returned (.int .i64 6) ∧ RetNet TN TP w S P N L w' := by
  obtain ⟨wS, hwS⟩ : ∃ wS, (w.alloc (.cells #[.pointer (some ⟨P, 0, none⟩)] 23)).alloc (.cells #[.int .i64 i] 3) = wS := ⟨_, rfl⟩
  have hbS : Below w.heap.size w wS := by rw [← hwS]; exact stepBelow (allocBelow' _ _) (allocBelow' _ _)
  have hS := h.below hbS
  have hcall := at_none wS S P N v L hS hN i hi (.func (.func 28) #[] #[.pointer (some ⟨w.heap.size, 0, none⟩), .pointer (some ⟨w.heap.size + 1, 0, none⟩)])
  have hres := RetNet.same h hbS
  have HWS := Lib.hid hwS
  have HR := Lib.hid hres
  clear hwS hres
  go_enter Try.func9, Try.ntmps9
  go_wp2_with fail
  rw [HWS.out]
  refine hcall.mono ?_
  rintro e w' ⟨rfl, rfl⟩
  go_wp2_with fail
  go_ret
  exact ⟨rfl, HR.out⟩
end Go.Proofs.Ytmkmbnfmmibifaa
