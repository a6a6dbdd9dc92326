/-
  The net's At, Drop, Deliver, Double, Corrupt.
-/
import Derived.Test.YtmkmbnfmmibifaaNet4
namespace Go.Proofs.Ytmkmbnfmmibifaa
open Go.RowKit

def Small (L : List Par) : Prop := ∀ p ∈ L, p.2.2.1.length ≤ 70000
/-- The cells of a parcel of the row. -/
theorem parCells {w : World} {S : Nat → Prop} {P : Nat} {N : Int} {L : List Par} {g cap : Nat} (h : PNet w S P N (.slice (some ⟨g, 0, none⟩) L.length cap) L) (i : Nat) (p : Par) (hp : L[i]? = some p) :
    ∃ A n c, w.cell? ⟨g, i * 4, none⟩ = some (.int .i64 p.1) ∧ w.cell? ⟨g, i * 4 + 1, none⟩ = some (.int .i64 p.2.1) ∧ w.cell? ⟨g, i * 4 + 2, none⟩ = some (.slice A n c) ∧ w.cell? ⟨g, i * 4 + 3, none⟩ = some (.bool p.2.2.2) ∧
      n ≤ c ∧ inI p.1 ∧ inI p.2.1 ∧ RdB w (fun k => S k ∧ k ≠ P ∧ k ≠ g) A n p.2.2.1 ∧ S g ∧ g ≠ P ∧ (∀ j, w.frozen? ⟨g, j, none⟩ = false) := by
  obtain ⟨g', cap', vs, e, hg, _, _, hV, hc, hf⟩ := h.own.at_ i p hp
  injection e with e _ _
  injection e with e
  injection e with e _
  subst e
  obtain ⟨A, n, c, rfl, hcc, h1, h2, hr⟩ := par_open hV
  exact ⟨A, n, c, hc 0 _ rfl, hc 1 _ rfl, hc 2 _ rfl, hc 3 _ rfl, hcc, h1, h2, hr.mono fun k hk _ => ⟨hk.1.1, hk.1.2, hk.2⟩, hg.1, hg.2, hf⟩
/-- A block of four cells that holds a parcel. -/
def Box (w : World) (x : Nat) (f t : Int) (v : Value) (b : Bool) : Prop := w.heap[x]? = some (.cells #[.int .i64 f, .int .i64 t, v, .bool b] TP (0, 0))
def RAt (w : World) (x : Nat) (p : Par) (r : Int) (w' : World) : Prop := r = 0 ∧ ∃ A n c, Box w' x p.1 p.2.1 (.slice A n c) p.2.2.2 ∧ FB w w' A n c p.2.2.1 ∧ Chg (fun k => k = x) w w'
theorem Box.put {w : World} {x : Nat} {f t : Int} {v : Value} {b : Bool} (h : Box w x f t v b) (f' t' : Int) (v' : Value) (b' : Bool) : Box ((((w.setCell ⟨x, 0, none⟩ (.int .i64 f')).setCell ⟨x, 1, none⟩ (.int .i64 t')).setCell ⟨x, 2, none⟩ v').setCell ⟨x, 3, none⟩ (.bool b')) x f' t' v' b' := by
  have h1 := heap_setCell_same w x 0 _ _ (.int .i64 f') h
  have h2 := heap_setCell_same _ x 1 _ _ (.int .i64 t') h1
  have h3 := heap_setCell_same _ x 2 _ _ v' h2
  have h4 := heap_setCell_same _ x 3 _ _ (.bool b') h3
  exact h4
theorem Box.cells {w : World} {x : Nat} {f t : Int} {v : Value} {b : Bool} (h : Box w x f t v b) : w.cell? ⟨x, 0, none⟩ = some (.int .i64 f) ∧ w.cell? ⟨x, 1, none⟩ = some (.int .i64 t) ∧ w.cell? ⟨x, 2, none⟩ = some v ∧ w.cell? ⟨x, 3, none⟩ = some (.bool b) ∧ ∀ i, w.frozen? ⟨x, i, none⟩ = false := by
  unfold Box at h
  exact ⟨by simp [World.cell?, h], by simp [World.cell?, h], by simp [World.cell?, h], by simp [World.cell?, h], fun i => by simp [World.frozen?, h]⟩
theorem Box.chg {S : Nat → Prop} {w w' : World} {x : Nat} {f t : Int} {v : Value} {b : Bool} (h : Box w x f t v b) (hc : Chg S w w') (hs : ¬ S x) : Box w' x f t v b := by
  have hl : x < w.heap.size := by
    unfold Box at h
    exact (Array.getElem?_eq_some_iff.1 h).1
  exact (hc.block x hl hs).trans h
theorem Box.lt {w : World} {x : Nat} {f t : Int} {v : Value} {b : Bool} (h : Box w x f t v b) : x < w.heap.size := by
  unfold Box at h
  exact (Array.getElem?_eq_some_iff.1 h).1
theorem Box.made (w : World) (f t : Int) (v : Value) (b : Bool) : Box (w.alloc (.cells #[.int .i64 f, .int .i64 t, v, .bool b] TP)) w.heap.size f t v b := heap_alloc_new w _
set_option maxHeartbeats 800000 in
theorem at1_calls (w : World) (S : Nat → Prop) (P : Nat) (N : Int) (L : List Par) (g cap : Nat) (h : PNet w S P N (.slice (some ⟨g, 0, none⟩) L.length cap) L) (i : Nat) (p : Par) (hp : L[i]? = some p) (hs : Small L) (x : Nat) (f t : Int) (u : Value) (b : Bool) (hx : Box w x f t u b) :
    Calls Try.prog 34 #[.pointer (some ⟨g, i * 4, none⟩), .pointer (some ⟨x, 0, none⟩)] w fun e w' => ∃ r, e = .returned (.int .i64 r) ∧ RAt w x p r w' := by
  obtain ⟨A, n, c, k0, k1, k2, k3, hnc, hf1, hf2, hr, _⟩ := parCells h i p hp
  have hn : n ≤ 140737488355328 := by have := hs p (List.mem_of_getElem? hp); have := hr.len; omega
  obtain ⟨f0, t0, bs, b0⟩ := p
  have hap := apart_calls f0 t0 A n c bs b0 w _ hr hn
  have hxl := hx.lt
  clear hr hf1 hf2
  go_enter Try.func34, Try.ntmps34
  go_wp2_with fail
  refine hap.mono ?_
  rintro e w2 ⟨A', c', rfl, hr', hb⟩
  have hx2 := hx.chg (Chg.ofBelow (S := NoB) hb) id
  obtain ⟨x0, x1, x2, x3, fx⟩ := hx2.cells
  have hne : ∀ k, New w w2 k → k ≠ x := fun k hk => by have := hk.1; omega
  have HX := Lib.hid hx2
  clear hx2
  go_wp2_with fail
  have hres : RAt w x (f0, t0, bs, b0) 0 ((((w2.setCell ⟨x, 0, none⟩ (.int .i64 f0)).setCell ⟨x, 1, none⟩ (.int .i64 t0)).setCell ⟨x, 2, none⟩ (.slice A' n c')).setCell ⟨x, 3, none⟩ (.bool b0)) :=
    ⟨rfl, A', n, c', HX.out.put _ _ _ _, hr'.keep (chgBox w2 x _ _ _ _) hne, (Chg.ofBelow hb).trans (chgBox w2 x _ _ _ _) fun _ _ h => h⟩
  have HRES := Lib.hid hres
  clear hres
  go_ret
  exact ⟨0, rfl, HRES.out⟩
/-- What At leaves. -/
def RetAt (w : World) (p : Par) (er : Int) (e : Ending) (w' : World) : Prop :=
  ∃ A n c, e = .returned (.tuple #[.agg #[.int .i64 p.1, .int .i64 p.2.1, .slice A n c, .bool p.2.2.2], .int .i64 er]) ∧ FB w w' A n c p.2.2.1 ∧ Below w.heap.size w w'
def noPar : Par := (0, 0, [], false)
set_option maxHeartbeats 800000 in
theorem At_calls (w : World) (S : Nat → Prop) (P : Nat) (N : Int) (v : Value) (L : List Par) (h : PNet w S P N v L) (hN : 1 ≤ N) (hs : Small L) (i : Nat) (p : Par) (hp : L[i]? = some p) :
    Calls Try.prog 16 #[.pointer (some ⟨P, 0, none⟩), .int .i64 (i : Int)] w (RetAt w p 0) := by
  obtain ⟨wS, hwS⟩ : ∃ wS, w.alloc (.cells #[.int .i64 0, .int .i64 0, .slice none 0 0, .bool false] TP) = wS := ⟨_, rfl⟩
  have hbS : Below w.heap.size w wS := by rw [← hwS]; exact allocBelow' _ _
  have hS := h.below hbS
  have hbox : Box wS w.heap.size 0 0 (.slice none 0 0) false := by rw [← hwS]; exact Box.made w 0 0 _ _
  have hi : i < L.length := (List.getElem?_eq_some_iff.1 hp).1
  have hcall := at_At wS S P N v L hS hN i hi w.heap.size (RAt wS w.heap.size p) fun g cap e => by
    subst e
    exact at1_calls wS S P N L g cap hS i p hp hs w.heap.size 0 0 _ _ hbox
  have HWS := Lib.hid hwS
  clear hwS
  go_enter Try.func16, Try.ntmps16
  go_wp2_with fail
  rw [HWS.out]
  refine hcall.mono ?_
  rintro e w2 ⟨r, rfl, rfl, A, n, c, hb2, hrd, hch⟩
  obtain ⟨x0, x1, x2, x3, fx⟩ := hb2.cells
  have hzS : wS.heap.size = w.heap.size + 1 := by rw [← HWS.out]; simp
  have hne : ∀ k, New wS w2 k → k ≠ w.heap.size := fun k hk => by have := hk.1; omega
  have hbw := (hch.trans (chgBox w2 w.heap.size (.int .i64 p.1) (.int .i64 p.2.1) (.slice A n c) (.bool p.2.2.2)) fun _ _ h => h).below hbS (by omega) (fun k hk => by omega)
  have hfin : FB w ((((w2.setCell ⟨w.heap.size, 0, none⟩ (.int .i64 p.1)).setCell ⟨w.heap.size, 1, none⟩ (.int .i64 p.2.1)).setCell ⟨w.heap.size, 2, none⟩ (.slice A n c)).setCell ⟨w.heap.size, 3, none⟩ (.bool p.2.2.2)) A n c p.2.2.1 := (hrd.keep (chgBox w2 w.heap.size _ _ _ _) hne).from hbS.size
  have HF := Lib.hid hfin
  have HB := Lib.hid hbw
  have HD := Lib.hid hrd
  clear hfin hbw hrd hch hb2
  go_wp2_with fail
  refine bodyPost_ret (v := .tuple #[.agg #[.int .i64 p.1, .int .i64 p.2.1, .slice A n c, .bool p.2.2.2], .int .i64 0]) (by simp [results, Try.results16, go_sem, x0, x1, x2, x3, fx]) rfl ⟨A, n, c, rfl, HF.out, HB.out⟩
set_option maxHeartbeats 800000 in
theorem At_none (w : World) (S : Nat → Prop) (P : Nat) (N : Int) (v : Value) (L : List Par) (h : PNet w S P N v L) (hN : 1 ≤ N) (i : Int) (hi : i < 0 ∨ (L.length : Int) ≤ i) :
    Calls Try.prog 16 #[.pointer (some ⟨P, 0, none⟩), .int .i64 i] w (RetAt w noPar 6) := by
  obtain ⟨wS, hwS⟩ : ∃ wS, w.alloc (.cells #[.int .i64 0, .int .i64 0, .slice none 0 0, .bool false] TP) = wS := ⟨_, rfl⟩
  have hbS : Below w.heap.size w wS := by rw [← hwS]; exact allocBelow' _ _
  have hS := h.below hbS
  have hbox : Box wS w.heap.size 0 0 (.slice none 0 0) false := by rw [← hwS]; exact Box.made w 0 0 _ _
  have hcall := at_none wS S P N v L hS hN i hi (.func (.func 34) #[] #[.pointer (some ⟨w.heap.size, 0, none⟩)])
  have hbw := ((Chg.refl (fun k => k = w.heap.size) wS).trans (chgBox wS w.heap.size (.int .i64 0) (.int .i64 0) (.slice none 0 0) (.bool false)) fun _ _ h => h).below hbS (hbS.size) (fun k hk => by omega)
  obtain ⟨x0, x1, x2, x3, fx⟩ := hbox.cells
  have HWS := Lib.hid hwS
  have HB := Lib.hid hbw
  clear hwS hbw
  go_enter Try.func16, Try.ntmps16
  go_wp2_with fail
  rw [HWS.out]
  refine hcall.mono ?_
  rintro e w' ⟨rfl, rfl⟩
  go_wp2_with fail
  refine bodyPost_ret (v := .tuple #[.agg #[.int .i64 0, .int .i64 0, .slice none 0 0, .bool false], .int .i64 6]) (by simp [results, Try.results16, go_sem, x0, x1, x2, x3, fx]) rfl ⟨none, 0, 0, rfl, FB.nil _ _, HB.out⟩
end Go.Proofs.Ytmkmbnfmmibifaa
