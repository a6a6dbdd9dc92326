/-
  The chapter's topology: diamond.
-/
import Derived.Test.YtgfnlfkbbedkaaaTpE
namespace Go.Proofs.Ytgfnlfkbbedkaaa
open Go.RowKit

theorem info_ed : (Try.prog.info? 42).map (fun i => (i.zero, i.size, i.bytes)) = some (some (.agg #[.int .i64 0, .int .i64 0]), 2, 16) := by kernel_rfl
def dia : List Ed := [(0, 2), (0, 3), (2, 4), (3, 4)]
/-- What a call leaves that hands back a topology in new memory. -/
def RetT (w : World) (ep : Int) (up : List Bool) (hops : List (List Ed)) (e : Ending) (w' : World) : Prop := ∃ v, e = .returned v ∧ TopoV w' (fun k => w.heap.size ≤ k ∧ k < w'.heap.size) v ep up hops ∧ Below w.heap.size w w'
/-- A row of cells in one block reads as its elements. -/
theorem rd_block {α : Type} {E : El α} {w : World} {ok : Nat → Prop} {g : Nat} {xs : List α} {vss : List (List Value)} (hV : Cells E w ok vss xs) (hg : g < w.heap.size) (hok : ok g) (hm : xs.length ≤ 9223372036854775807)
    (hc : ∀ j u, vss.flatten[j]? = some u → w.cell? ⟨g, j, none⟩ = some u) : Rd E w ok (some ⟨g, 0, none⟩) xs.length xs := by
  refine ⟨rfl, hm, fun _ => ⟨g, 0, rfl, hok, hg, fun j x hx => ?_⟩⟩
  obtain ⟨vs, h1, h2, h3⟩ := hV.at_ j x hx
  exact ⟨vs, h2, fun r u hu => by rw [Nat.zero_add]; exact hc _ _ (h3 r u hu)⟩
theorem dia_cells (w : World) (ok : Nat → Prop) : Cells elEd w ok [[.int .i64 0, .int .i64 2], [.int .i64 0, .int .i64 3], [.int .i64 2, .int .i64 4], [.int .i64 3, .int .i64 4]] dia :=
  .cons (ed_mk w ok (x := (0, 2)) (by decide) (by decide)) (.cons (ed_mk w ok (x := (0, 3)) (by decide) (by decide)) (.cons (ed_mk w ok (x := (2, 4)) (by decide) (by decide)) (.cons (ed_mk w ok (x := (3, 4)) (by decide) (by decide)) .nil)))
theorem dia_own (w : World) (S : Nat → Prop) (g : Nat) (hS : S g) (hg : w.heap[g]? = some (.cells #[.int .i64 0, .int .i64 2, .int .i64 0, .int .i64 3, .int .i64 2, .int .i64 4, .int .i64 3, .int .i64 4] 42 (0, 0))) :
    Own elEd 42 w S (.slice (some ⟨g, 0, none⟩) 4 4) dia :=
  ⟨_, dia_cells w _, ⟨rfl, .inr ⟨g, 4, _, rfl, Nat.zero_le _, hg, by decide, by decide, rfl, rfl⟩⟩, fun k hk => by injection hk with hk; subst hk; exact hS⟩
theorem up5_rd (w : World) (ok : Nat → Prop) (g : Nat) (hok : ok g) (hg : w.heap[g]? = some (.cells #[.bool true, .bool true, .bool true, .bool true, .bool true] 4 (0, 0))) : Rd El.bool w ok (some ⟨g, 0, none⟩) 5 [true, true, true, true, true] :=
  rd_block (E := El.bool) (xs := [true, true, true, true, true]) (vss := [[.bool true], [.bool true], [.bool true], [.bool true], [.bool true]]) (.cons rfl (.cons rfl (.cons rfl (.cons rfl (.cons rfl .nil))))) (Array.getElem?_eq_some_iff.1 hg).1 hok (by decide) fun j u hu => by
    simp only [World.cell?, hg]
    simpa using hu
/-- A row of one row. -/
theorem one_row {α : Type} {E : El α} {w : World} {ok : Nat → Prop} {g : Nat} {A : Option Addr} {n c : Nat} {xs : List α} {t : TypeId} (hok : ok g) (hg : w.heap[g]? = some (.cells #[.slice A n c] t (0, 0))) (hc : n ≤ c) (hr : Rd E w ok A n xs) :
    Rd (El.slice E) w ok (some ⟨g, 0, none⟩) 1 [xs] :=
  rd_block (E := El.slice E) (xs := [xs]) (vss := [[.slice A n c]]) (.cons ⟨A, n, c, rfl, hc, hr⟩ .nil) (Array.getElem?_eq_some_iff.1 hg).1 hok (by simp) fun j u hu => by
    simp only [World.cell?, hg]
    simpa using hu
theorem rd_tight {w : World} {ok ok' : Nat → Prop} {A : Option Addr} {n : Nat} {es : List Ed} (h : Rd elEd w ok A n es) (hk : ∀ b o, A = some ⟨b, o, none⟩ → ok' b) : Rd elEd w ok' A n es := by
  refine ⟨h.1, h.2.1, fun h0 => ?_⟩
  obtain ⟨b, o, e, h1, h2, h3⟩ := h.2.2 h0
  refine ⟨b, o, e, hk b o e, h2, fun j x hx => ?_⟩
  obtain ⟨vs, hV, hc⟩ := h3 j x hx
  obtain ⟨rfl, i1, i2⟩ := ed_open hV
  exact ⟨_, ed_mk _ _ i1 i2, hc⟩
set_option maxRecDepth 20000 in
set_option maxHeartbeats 2000000 in
theorem diamond_calls (w : World) (A : Option Addr) (n c : Nat) (more : List Ed) (hr : Rd elEd w (fun k => k < w.heap.size) A n more) (hn : n ≤ 1000) :
    Calls Try.prog 21 #[.slice A n c] w (RetT w 1 [true, true, true, true, true] [dia ++ more]) := by
  obtain ⟨i0, hi0, hzz⟩ := Option.map_eq_some_iff.1 info_ed
  simp only [Prod.mk.injEq] at hzz
  obtain ⟨hz0, hz1, hz2⟩ := hzz
  have hl := hr.len
  obtain ⟨w3, hw3⟩ : ∃ w3, ((w.alloc (.cells #[.int .u64 0, .slice none 0 0, .slice none 0 0] 27)).alloc (.cells #[.bool true, .bool true, .bool true, .bool true, .bool true] 4)).alloc
    (.cells #[.int .i64 0, .int .i64 2, .int .i64 0, .int .i64 3, .int .i64 2, .int .i64 4, .int .i64 3, .int .i64 4] 42) = w3 := ⟨_, rfl⟩
  have b3 : Below w.heap.size w w3 := by rw [← hw3]; exact (((Below.refl _ _).alloc (Nat.le_refl _) _).alloc (by simp) _).alloc (by simp; omega) _
  have hs3 : w3.heap.size = w.heap.size + 3 := by rw [← hw3]; simp
  have hbl2 : w3.heap[w.heap.size + 1 + 1]? = some (.cells #[.int .i64 0, .int .i64 2, .int .i64 0, .int .i64 3, .int .i64 2, .int .i64 4, .int .i64 3, .int .i64 4] 42 (0, 0)) := by
    rw [← hw3]
    have := heap_alloc_new ((w.alloc (.cells #[.int .u64 0, .slice none 0 0, .slice none 0 0] 27)).alloc (.cells #[.bool true, .bool true, .bool true, .bool true, .bool true] 4)) (.cells #[.int .i64 0, .int .i64 2, .int .i64 0, .int .i64 3, .int .i64 2, .int .i64 4, .int .i64 3, .int .i64 4] 42)
    simpa using this
  have hbl1 : w3.heap[w.heap.size + 1]? = some (.cells #[.bool true, .bool true, .bool true, .bool true, .bool true] 4 (0, 0)) := by
    rw [← hw3, Below.heap_alloc _ _ _ (by simp)]
    have := heap_alloc_new (w.alloc (.cells #[.int .u64 0, .slice none 0 0, .slice none 0 0] 27)) (.cells #[.bool true, .bool true, .bool true, .bool true, .bool true] 4)
    simpa using this
  have hbl0 : w3.heap[w.heap.size]? = some (.cells #[.int .u64 0, .slice none 0 0, .slice none 0 0] 27 (0, 0)) := by
    rw [← hw3, Below.heap_alloc _ _ _ (by simp; omega), Below.heap_alloc _ _ _ (by simp)]
    exact heap_alloc_new w _
  have hO := dia_own w3 (fun k => k < w3.heap.size) (w.heap.size + 1 + 1) (by omega) hbl2
  have hr3 := hr.below b3
  have hne : ∀ q, q < w3.heap.size → q < w.heap.size → q < w3.heap.size ∧ some q ≠ (Value.slice (some ⟨w.heap.size + 1 + 1, 0, none⟩) 4 4).ownBlock := fun q h1 h2 => ⟨h1, fun e => by injection e with e; have e : q = w.heap.size + 1 + 1 := e; omega⟩
  have hm1 : dia.length + n ≤ maxLen := by unfold maxLen; show 4 + n ≤ _; omega
  have hb1 : (dia.length + n) * 16 ≤ 140737488355328 := by show (4 + n) * 16 ≤ _; omega
  have H1 := Lib.hid hbl1
  have H0 := Lib.hid hbl0
  obtain ⟨v1, w4, hrun, ho4, hg4, hv4⟩ := Own.apps (E := elEd) (P := Try.prog) 39 39 i0 _ 16 Try.underlying39 hi0 hz0 hz1 hz2 rfl (by decide) hO hr3 hne hm1 hb1 c
  obtain ⟨DL, hDL⟩ : ∃ DL, dia ++ more = DL := ⟨_, rfl⟩
  have hDLl : DL.length ≤ 2000 := by rw [← hDL, List.length_append, hl]; show 4 + n ≤ 2000; omega
  rw [hDL] at ho4
  obtain ⟨A1, cc, e1, hcc, hR1⟩ := ho4.rd (by omega)
  subst e1
  have hz3 : w3.heap.size ≤ w4.heap.size := hg4.size
  have hk0 : w4.heap[w.heap.size]? = some (.cells #[.int .u64 0, .slice none 0 0, .slice none 0 0] 27 (0, 0)) := (hg4.block _ (by omega) (fun e => (show w.heap.size ≠ w.heap.size + 1 + 1 by omega) (Option.some.inj e))).trans hbl0
  have hk1 : w4.heap[w.heap.size + 1]? = some (.cells #[.bool true, .bool true, .bool true, .bool true, .bool true] 4 (0, 0)) := (hg4.block _ (by omega) (fun e => (show w.heap.size + 1 ≠ w.heap.size + 1 + 1 by omega) (Option.some.inj e))).trans hbl1
  have hA1 : ∀ b o, A1 = some ⟨b, o, none⟩ → w.heap.size < b := by
    intro b o e
    subst e
    rcases hv4 with h' | h'
    · have := Option.some.inj h'; have e : b = w.heap.size + 1 + 1 := this; omega
    · have := Option.some.inj h'; have e : b = w3.heap.size := this; omega
  have hR2 : Rd elEd w4 (fun k => w.heap.size < k) A1 DL.length DL := rd_tight hR1 hA1
  obtain ⟨w5, hw5⟩ : ∃ w5, ((w4.setCell ⟨w.heap.size, 0, none⟩ (.int .u64 1)).setCell ⟨w.heap.size, 1, none⟩ (.slice (some ⟨w.heap.size + 1, 0, none⟩) 5 5)).setCell ⟨w.heap.size, 2, none⟩ (.slice (some ⟨w4.heap.size, 0, none⟩) 1 1) = w5 := ⟨_, rfl⟩
  have hc5 : Chg (fun k => k = w.heap.size) w4 w5 := by
    rw [← hw5]
    exact ((Chg.set w4 ⟨w.heap.size, 0, none⟩ _).trans (Chg.set _ ⟨w.heap.size, 1, none⟩ _) fun _ _ h => h).trans (Chg.set _ ⟨w.heap.size, 2, none⟩ _) fun _ _ h => h
  have hs5 : w5.heap.size = w4.heap.size := by rw [← hw5]; simp only [World.size_setCell]
  obtain ⟨w6, hw6⟩ : ∃ w6, w5.alloc (.cells #[.slice A1 DL.length cc] 39) = w6 := ⟨_, rfl⟩
  have b6 : Below w5.heap.size w5 w6 := by rw [← hw6]; exact (Below.refl _ _).alloc (Nat.le_refl _) _
  have hs6 : w6.heap.size = w4.heap.size + 1 := by rw [← hw6, ← hs5]; simp
  have hb34 : Below w.heap.size w w4 := b3.grown hg4 b3.size (fun k hk => by have e := Option.some.inj hk; have e : w.heap.size + 1 + 1 = k := e; omega)
  have b56 : Below w.heap.size w w6 := belowThen (hc5.below hb34 hb34.size fun k hk => by omega) (by have := hb34.size; omega) b6
  have hT : TopoV w6 (fun k => w.heap.size ≤ k ∧ k < w6.heap.size) (.agg #[.int .u64 1, .slice (some ⟨w.heap.size + 1, 0, none⟩) 5 5, .slice (some ⟨w4.heap.size, 0, none⟩) 1 1]) 1 [true, true, true, true, true] [DL] := by
    have hk1' : w6.heap[w.heap.size + 1]? = some (.cells #[.bool true, .bool true, .bool true, .bool true, .bool true] 4 (0, 0)) := (b6.block _ (by omega)).trans ((hc5.block _ (by omega) (by omega)).trans hk1)
    have hk2' : w6.heap[w4.heap.size]? = some (.cells #[.slice A1 DL.length cc] 39 (0, 0)) := by rw [← hw6, ← hs5]; exact heap_alloc_new w5 _
    have hRd : Rd elEd w6 (fun k => w.heap.size ≤ k ∧ k < w6.heap.size) A1 DL.length DL := ((hR2.chg hc5 fun k h1 h2 h3 => by omega).below b6).mono fun k h1 h2 => ⟨by omega, by omega⟩
    exact ⟨_, _, _, _, _, _, rfl, Nat.le_refl _, Nat.le_refl _, up5_rd _ _ _ ⟨by omega, by omega⟩ hk1', one_row ⟨by omega, by omega⟩ hk2' hcc hRd⟩
  have y0 : w4.cell? ⟨w.heap.size, 0, none⟩ = some (.int .u64 0) := by simp [World.cell?, hk0]
  have y1 : w4.cell? ⟨w.heap.size, 1, none⟩ = some (.slice none 0 0) := by simp [World.cell?, hk0]
  have y2 : w4.cell? ⟨w.heap.size, 2, none⟩ = some (.slice none 0 0) := by simp [World.cell?, hk0]
  have z0 : w4.frozen? ⟨w.heap.size, 0, none⟩ = false := by simp [World.frozen?, hk0]
  have z1 : w4.frozen? ⟨w.heap.size, 1, none⟩ = false := by simp [World.frozen?, hk0]
  have z2 : w4.frozen? ⟨w.heap.size, 2, none⟩ = false := by simp [World.frozen?, hk0]
  have hlt4 : w.heap.size < w4.heap.size := by omega
  rw [hDL]
  have F012 : w6.cell? ⟨w.heap.size, 0, none⟩ = some (.int .u64 1) ∧ w6.cell? ⟨w.heap.size, 1, none⟩ = some (.slice (some ⟨w.heap.size + 1, 0, none⟩) 5 5) ∧ w6.cell? ⟨w.heap.size, 2, none⟩ = some (.slice (some ⟨w4.heap.size, 0, none⟩) 1 1) := by
    have hh : ∃ fr, w5.heap[w.heap.size]? = some (.cells #[.int .u64 1, .slice (some ⟨w.heap.size + 1, 0, none⟩) 5 5, .slice (some ⟨w4.heap.size, 0, none⟩) 1 1] 27 fr) := ⟨(0, 0), by rw [← hw5]; simp [World.setCell, Array.getElem?_modify, hk0]⟩
    obtain ⟨fr, hh⟩ := hh
    have hh6 := (b6.block w.heap.size (by omega)).trans hh
    exact ⟨by simp [World.cell?, hh6], by simp [World.cell?, hh6], by simp [World.cell?, hh6]⟩
  have F0 := Lib.hid F012.1
  have F1 := Lib.hid F012.2.1
  have F2 := Lib.hid F012.2.2
  clear F012
  have HT := Lib.hid hT
  have HRUN := Lib.hid hrun
  have HW5 := Lib.hid hw5
  have HW6 := Lib.hid hw6
  have B6 := Lib.hid b56
  clear hT hrun hw5 hw6 b56 hbl2 hbl1 hbl0 hO hr3 hne hr hl hDL hk0 hk1 hR1 hR2 hA1 hg4 ho4 hv4 hi0 hz0 hz1 hz2 hc5 b6 hs5 hs6 hb34
  go_enter Try.func21, Try.ntmps21
  go_wp2_with (at_builtin; refine wpList_app_run rfl (.tmp 8) (.tmp 9) 39 39 rfl rfl rfl HRUN.out ?_)
  rw [HW5.out, HW6.out]
  have f0 : w6.cell? ⟨w.heap.size, 0, none⟩ = some (.int .u64 1) := F0.out
  have f1 : w6.cell? ⟨w.heap.size, 1, none⟩ = some (.slice (some ⟨w.heap.size + 1, 0, none⟩) 5 5) := F1.out
  have f2 : w6.cell? ⟨w.heap.size, 2, none⟩ = some (.slice (some ⟨w4.heap.size, 0, none⟩) 1 1) := F2.out
  refine bodyPost_ret (v := .agg #[.int .u64 1, .slice (some ⟨w.heap.size + 1, 0, none⟩) 5 5, .slice (some ⟨w4.heap.size, 0, none⟩) 1 1]) (by simp [results, Try.results21, go_sem, f0, f1, f2]) rfl ⟨_, rfl, HT.out, B6.out⟩
end Go.Proofs.Ytgfnlfkbbedkaaa
