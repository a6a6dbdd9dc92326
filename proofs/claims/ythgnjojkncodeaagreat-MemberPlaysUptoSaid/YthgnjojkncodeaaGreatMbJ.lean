/-
  The law's own: three, row, and the document's examples: awake.
-/
import Derived.Test.YthgnjojkncodeaaGreatMbP
import Derived.Deep.RegionHeld3
namespace Go.Proofs.YthgnjojkncodeaaGreat
open Go.RowKit
set_option linter.unusedVariables false
set_option linter.unusedSimpArgs false

/-- What three hands back. -/
def RetCf (w : World) (nodes : Int) (flows : List Flw) (win que : Int) (e : Ending) (w' : World) : Prop := ∃ AF nF cF, e = .returned (.agg #[.int .i64 nodes, .slice AF nF cF, .int .i64 win, .int .i64 que]) ∧
  ConfV w' (fun k => k < w'.heap.size) (.agg #[.int .i64 nodes, .slice AF nF cF, .int .i64 win, .int .i64 que]) nodes flows win que ∧ Below w.heap.size w w'
theorem one_rd {w : World} {S : Nat} {x : Int} {ok : Nat → Prop} (hS : S < w.heap.size) (hok : ok S) (hg : w.heap[S]? = some (.cells #[.int .i64 x] 3 (0, 0))) (hx : inI x) : Rd El.int w ok (some ⟨S, 0, none⟩) 1 [x] :=
  rd_block (E := El.int) (xs := [x]) (vss := [[.int .i64 x]]) (.cons ⟨rfl, hx⟩ .nil) hS hok (by simp) fun j u hu => by
    simp only [World.cell?, hg]
    simpa using hu
set_option maxHeartbeats 1000000 in
theorem three_calls (w : World) : Calls Tryz.prog 26 #[] w (RetCf w 3 fl3 4 4) := by
  obtain ⟨w1, h1⟩ : ∃ w1, w.alloc (.cells #[.int .i64 0, .slice none 0 0, .int .i64 0, .int .i64 0] 24) = w1 := ⟨_, rfl⟩
  obtain ⟨w2, h2⟩ : ∃ w2, w1.alloc (.cells #[.int .i64 2] 3) = w2 := ⟨_, rfl⟩
  obtain ⟨w3, h3⟩ : ∃ w3, w2.alloc (.cells #[.int .i64 2, .int .i64 3, .int .i64 0, .slice (some ⟨w1.heap.size, 0, none⟩) 1 1] 70) = w3 := ⟨_, rfl⟩
  have s1 : w1.heap.size = w.heap.size + 1 := by rw [← h1]; simp
  have s2 : w2.heap.size = w.heap.size + 2 := by rw [← h2]; simp [s1]
  have s3 : w3.heap.size = w.heap.size + 3 := by rw [← h3]; simp [s2]
  have b1 : Below w.heap.size w w1 := by rw [← h1]; exact (Below.refl _ _).alloc (Nat.le_refl _) _
  have b2 : Below w1.heap.size w1 w2 := by rw [← h2]; exact (Below.refl _ _).alloc (Nat.le_refl _) _
  have b3 : Below w2.heap.size w2 w3 := by rw [← h3]; exact (Below.refl _ _).alloc (Nat.le_refl _) _
  have e1 : w1.heap[w.heap.size]? = some (.cells #[.int .i64 0, .slice none 0 0, .int .i64 0, .int .i64 0] 24 (0, 0)) := by rw [← h1]; exact heap_alloc_new w _
  have e2 : w2.heap[w1.heap.size]? = some (.cells #[.int .i64 2] 3 (0, 0)) := by rw [← h2]; exact heap_alloc_new w1 _
  have e3 : w3.heap[w2.heap.size]? = some (.cells #[.int .i64 2, .int .i64 3, .int .i64 0, .slice (some ⟨w1.heap.size, 0, none⟩) 1 1] 70 (0, 0)) := by rw [← h3]; exact heap_alloc_new w2 _
  have r2 : Rd El.int w3 (fun k => k ≠ w.heap.size) (some ⟨w1.heap.size, 0, none⟩) 1 [2] := one_rd (by omega) (by omega) ((b3.block _ (by omega)).trans e2) (by decide)
  have r3 : Rd elFl w3 (fun k => k ≠ w.heap.size) (some ⟨w2.heap.size, 0, none⟩) 1 fl3 := rd_block (E := elFl) (xs := fl3) (vss := [[.int .i64 2, .int .i64 3, .int .i64 0, .slice (some ⟨w1.heap.size, 0, none⟩) 1 1]])
    (.cons ⟨_, _, rfl, ⟨rfl, by decide⟩, _, _, rfl, ⟨rfl, by decide⟩, _, _, rfl, ⟨rfl, by decide⟩, _, _, _, rfl, Nat.le_refl _, r2⟩ .nil) (by omega) (by omega) (by decide) fun j u hu => by
    simp only [World.cell?, e3]
    simpa using hu
  have e13 : w3.heap[w.heap.size]? = some (.cells #[.int .i64 0, .slice none 0 0, .int .i64 0, .int .i64 0] 24 (0, 0)) := (b3.block _ (by omega)).trans ((b2.block _ (by omega)).trans e1)
  have z0 : w3.cell? ⟨w.heap.size, 0, none⟩ = some (.int .i64 0) := by simp [World.cell?, e13]
  have z1 : w3.cell? ⟨w.heap.size, 1, none⟩ = some (.slice none 0 0) := by simp [World.cell?, e13]
  have z2 : w3.cell? ⟨w.heap.size, 2, none⟩ = some (.int .i64 0) := by simp [World.cell?, e13]
  have z3 : w3.cell? ⟨w.heap.size, 3, none⟩ = some (.int .i64 0) := by simp [World.cell?, e13]
  have y0 : ∀ i, w3.frozen? ⟨w.heap.size, i, none⟩ = false := fun i => by simp [World.frozen?, e13]
  obtain ⟨w5, hw5⟩ : ∃ w5, (((w3.setCell ⟨w.heap.size, 0, none⟩ (.int .i64 3)).setCell ⟨w.heap.size, 1, none⟩ (.slice (some ⟨w2.heap.size, 0, none⟩) 1 1)).setCell ⟨w.heap.size, 2, none⟩ (.int .i64 4)).setCell ⟨w.heap.size, 3, none⟩ (.int .i64 4) = w5 := ⟨_, rfl⟩
  have hc5 : Chg (fun k => k = w.heap.size) w3 w5 := by
    rw [← hw5]
    exact (((Chg.set w3 ⟨w.heap.size, 0, none⟩ _).trans (Chg.set _ ⟨w.heap.size, 1, none⟩ _) fun _ _ h => h).trans (Chg.set _ ⟨w.heap.size, 2, none⟩ _) fun _ _ h => h).trans (Chg.set _ ⟨w.heap.size, 3, none⟩ _) fun _ _ h => h
  have hh : w5.heap[w.heap.size]? = some (.cells #[.int .i64 3, .slice (some ⟨w2.heap.size, 0, none⟩) 1 1, .int .i64 4, .int .i64 4] 24 (0, 0)) := by rw [← hw5]; simp [World.setCell, Array.getElem?_modify, e13]
  have HD : Hid (RetCf w 3 fl3 4 4 (.returned (.agg #[.int .i64 3, .slice (some ⟨w2.heap.size, 0, none⟩) 1 1, .int .i64 4, .int .i64 4])) w5) :=
    Lib.hid ⟨_, _, _, rfl, ⟨_, _, _, rfl, Nat.le_refl _, by decide, by decide, by decide, (r3.chg hc5 fun k _ hk e => hk e).mono fun k _ hk => hk⟩, hc5.below (belowThen (belowThen b1 b1.size b2) (by omega) b3) (by omega) fun k hk => by omega⟩
  have f0 : w5.cell? ⟨w.heap.size, 0, none⟩ = some (.int .i64 3) := by simp [World.cell?, hh]
  have f1 : w5.cell? ⟨w.heap.size, 1, none⟩ = some (.slice (some ⟨w2.heap.size, 0, none⟩) 1 1) := by simp [World.cell?, hh]
  have f2 : w5.cell? ⟨w.heap.size, 2, none⟩ = some (.int .i64 4) := by simp [World.cell?, hh]
  have f3 : w5.cell? ⟨w.heap.size, 3, none⟩ = some (.int .i64 4) := by simp [World.cell?, hh]
  have F0 := Lib.hid f0
  have F1 := Lib.hid f1
  have F2 := Lib.hid f2
  have F3 := Lib.hid f3
  have HW5 := Lib.hid hw5
  have S1 := Lib.hid s1
  have S2 := Lib.hid s2
  clear f0 f1 f2 f3 hw5 hc5 hh e13 r3 r2 e1 e2 e3 b1 b2 b3 s1 s2 s3
  go_enter Tryz.func26, Tryz.ntmps26
  go_wp2_with fail
  rw [HW5.out]
  have f0 := F0.out
  have f1 := F1.out
  have f2 := F2.out
  have f3 := F3.out
  exact bodyPost_ret (v := .agg #[.int .i64 3, .slice (some ⟨w2.heap.size, 0, none⟩) 1 1, .int .i64 4, .int .i64 4]) (by simp [results, Tryz.results26, go_sem, f0, f1, f2, f3]) rfl HD.out
/-- The blocks of a topology of three nodes in a row. -/
structure RowB (w : World) (PU PE PH : Nat) : Prop where
  ne : PU ≠ PE ∧ PU ≠ PH ∧ PE ≠ PH
  bu : w.heap[PU]? = some (.cells #[.bool true, .bool true, .bool true] 4 (0, 0))
  be : w.heap[PE]? = some (.cells #[.int .i64 0, .int .i64 1, .int .i64 1, .int .i64 2] 77 (0, 0))
  bh : w.heap[PH]? = some (.cells #[.slice (some ⟨PE, 0, none⟩) 2 2] 74 (0, 0))
theorem RowB.chg {w w' : World} {PU PE PH : Nat} {S : Nat → Prop} (h : RowB w PU PE PH) (hc : Chg S w w') (hS : ¬ S PU ∧ ¬ S PE ∧ ¬ S PH) : RowB w' PU PE PH :=
  ⟨h.ne, (hc.block _ (Array.getElem?_eq_some_iff.1 h.bu).1 hS.1).trans h.bu, (hc.block _ (Array.getElem?_eq_some_iff.1 h.be).1 hS.2.1).trans h.be, (hc.block _ (Array.getElem?_eq_some_iff.1 h.bh).1 hS.2.2).trans h.bh⟩
theorem RowB.tv {w : World} {PU PE PH : Nat} (h : RowB w PU PE PH) (ep : Int) : TopoV w (fun k => k = PU ∨ k = PE ∨ k = PH) (.agg #[.int .u64 ep, .slice (some ⟨PU, 0, none⟩) 3 3, .slice (some ⟨PH, 0, none⟩) 1 1]) ep up3 [rowE] := by
  have lu := (Array.getElem?_eq_some_iff.1 h.bu).1
  have le := (Array.getElem?_eq_some_iff.1 h.be).1
  have lh := (Array.getElem?_eq_some_iff.1 h.bh).1
  have h1 := h.bu
  have h2 := h.be
  have h3 := h.bh
  have ru : Rd El.bool w (fun k => k = PU ∨ k = PE ∨ k = PH) (some ⟨PU, 0, none⟩) 3 up3 := rd_block (E := El.bool) (xs := up3) (vss := [[.bool true], [.bool true], [.bool true]]) (.cons rfl (.cons rfl (.cons rfl .nil))) lu (.inl rfl) (by decide) fun j u hu => by
    simp only [World.cell?, h1]
    simpa using hu
  have re : Rd elEd w (fun k => k = PU ∨ k = PE ∨ k = PH) (some ⟨PE, 0, none⟩) 2 rowE := rd_block (E := elEd) (xs := rowE) (vss := [[.int .i64 0, .int .i64 1], [.int .i64 1, .int .i64 2]])
    (.cons (ed_mk _ _ (x := (0, 1)) (by decide) (by decide)) (.cons (ed_mk _ _ (x := (1, 2)) (by decide) (by decide)) .nil)) le (.inr (.inl rfl)) (by decide) fun j u hu => by
    simp only [World.cell?, h2]
    simpa using hu
  exact ⟨_, _, _, _, _, _, rfl, Nat.le_refl _, Nat.le_refl _, ru, one_row (.inr (.inr rfl)) h3 (Nat.le_refl _) re⟩
def RetRow (w : World) (ep : Int) (e : Ending) (w' : World) : Prop := ∃ PU PE PH, e = .returned (.agg #[.int .u64 ep, .slice (some ⟨PU, 0, none⟩) 3 3, .slice (some ⟨PH, 0, none⟩) 1 1]) ∧ RowB w' PU PE PH ∧ (w.heap.size ≤ PU ∧ w.heap.size ≤ PE ∧ w.heap.size ≤ PH) ∧ Below w.heap.size w w'
set_option maxHeartbeats 1000000 in
theorem row_calls (w : World) (ep : Int) : Calls Tryz.prog 27 #[.int .u64 ep] w (RetRow w ep) := by
  obtain ⟨w1, h1⟩ : ∃ w1, w.alloc (.cells #[.int .u64 0, .slice none 0 0, .slice none 0 0] 38) = w1 := ⟨_, rfl⟩
  obtain ⟨w2, h2⟩ : ∃ w2, w1.alloc (.cells #[.bool true, .bool true, .bool true] 4) = w2 := ⟨_, rfl⟩
  obtain ⟨w3, h3⟩ : ∃ w3, w2.alloc (.cells #[.int .i64 0, .int .i64 1, .int .i64 1, .int .i64 2] 77) = w3 := ⟨_, rfl⟩
  obtain ⟨w4, h4⟩ : ∃ w4, w3.alloc (.cells #[.slice (some ⟨w2.heap.size, 0, none⟩) 2 2] 74) = w4 := ⟨_, rfl⟩
  have s1 : w1.heap.size = w.heap.size + 1 := by rw [← h1]; simp
  have s2 : w2.heap.size = w.heap.size + 2 := by rw [← h2]; simp [s1]
  have s3 : w3.heap.size = w.heap.size + 3 := by rw [← h3]; simp [s2]
  have s4 : w4.heap.size = w.heap.size + 4 := by rw [← h4]; simp [s3]
  have b1 : Below w.heap.size w w1 := by rw [← h1]; exact (Below.refl _ _).alloc (Nat.le_refl _) _
  have b2 : Below w1.heap.size w1 w2 := by rw [← h2]; exact (Below.refl _ _).alloc (Nat.le_refl _) _
  have b3 : Below w2.heap.size w2 w3 := by rw [← h3]; exact (Below.refl _ _).alloc (Nat.le_refl _) _
  have b4 : Below w3.heap.size w3 w4 := by rw [← h4]; exact (Below.refl _ _).alloc (Nat.le_refl _) _
  have e1 : w1.heap[w.heap.size]? = some (.cells #[.int .u64 0, .slice none 0 0, .slice none 0 0] 38 (0, 0)) := by rw [← h1]; exact heap_alloc_new w _
  have e2 : w2.heap[w1.heap.size]? = some (.cells #[.bool true, .bool true, .bool true] 4 (0, 0)) := by rw [← h2]; exact heap_alloc_new w1 _
  have e3 : w3.heap[w2.heap.size]? = some (.cells #[.int .i64 0, .int .i64 1, .int .i64 1, .int .i64 2] 77 (0, 0)) := by rw [← h3]; exact heap_alloc_new w2 _
  have e4 : w4.heap[w3.heap.size]? = some (.cells #[.slice (some ⟨w2.heap.size, 0, none⟩) 2 2] 74 (0, 0)) := by rw [← h4]; exact heap_alloc_new w3 _
  have hR : RowB w4 w1.heap.size w2.heap.size w3.heap.size := ⟨⟨by omega, by omega, by omega⟩, (b4.block _ (by omega)).trans ((b3.block _ (by omega)).trans e2), (b4.block _ (by omega)).trans e3, e4⟩
  have e14 : w4.heap[w.heap.size]? = some (.cells #[.int .u64 0, .slice none 0 0, .slice none 0 0] 38 (0, 0)) := (b4.block _ (by omega)).trans ((b3.block _ (by omega)).trans ((b2.block _ (by omega)).trans e1))
  have z0 : w4.cell? ⟨w.heap.size, 0, none⟩ = some (.int .u64 0) := by simp [World.cell?, e14]
  have z1 : w4.cell? ⟨w.heap.size, 1, none⟩ = some (.slice none 0 0) := by simp [World.cell?, e14]
  have z2 : w4.cell? ⟨w.heap.size, 2, none⟩ = some (.slice none 0 0) := by simp [World.cell?, e14]
  have y0 : ∀ i, w4.frozen? ⟨w.heap.size, i, none⟩ = false := fun i => by simp [World.frozen?, e14]
  obtain ⟨w5, hw5⟩ : ∃ w5, ((w4.setCell ⟨w.heap.size, 0, none⟩ (.int .u64 ep)).setCell ⟨w.heap.size, 1, none⟩ (.slice (some ⟨w1.heap.size, 0, none⟩) 3 3)).setCell ⟨w.heap.size, 2, none⟩ (.slice (some ⟨w3.heap.size, 0, none⟩) 1 1) = w5 := ⟨_, rfl⟩
  have hc5 : Chg (fun k => k = w.heap.size) w4 w5 := by
    rw [← hw5]
    exact ((Chg.set w4 ⟨w.heap.size, 0, none⟩ _).trans (Chg.set _ ⟨w.heap.size, 1, none⟩ _) fun _ _ h => h).trans (Chg.set _ ⟨w.heap.size, 2, none⟩ _) fun _ _ h => h
  have hh : w5.heap[w.heap.size]? = some (.cells #[.int .u64 ep, .slice (some ⟨w1.heap.size, 0, none⟩) 3 3, .slice (some ⟨w3.heap.size, 0, none⟩) 1 1] 38 (0, 0)) := by rw [← hw5]; simp [World.setCell, Array.getElem?_modify, e14]
  have HD : Hid (RetRow w ep (.returned (.agg #[.int .u64 ep, .slice (some ⟨w1.heap.size, 0, none⟩) 3 3, .slice (some ⟨w3.heap.size, 0, none⟩) 1 1])) w5) :=
    Lib.hid ⟨_, _, _, rfl, hR.chg hc5 ⟨by omega, by omega, by omega⟩, ⟨by omega, by omega, by omega⟩, hc5.below (belowThen (belowThen (belowThen b1 b1.size b2) (by omega) b3) (by omega) b4) (by omega) fun k hk => by omega⟩
  have f0 : w5.cell? ⟨w.heap.size, 0, none⟩ = some (.int .u64 ep) := by simp [World.cell?, hh]
  have f1 : w5.cell? ⟨w.heap.size, 1, none⟩ = some (.slice (some ⟨w1.heap.size, 0, none⟩) 3 3) := by simp [World.cell?, hh]
  have f2 : w5.cell? ⟨w.heap.size, 2, none⟩ = some (.slice (some ⟨w3.heap.size, 0, none⟩) 1 1) := by simp [World.cell?, hh]
  have F0 := Lib.hid f0
  have F1 := Lib.hid f1
  have F2 := Lib.hid f2
  have HW5 := Lib.hid hw5
  clear f0 f1 f2 hw5 hc5 hh e14 hR e1 e2 e3 e4 b1 b2 b3 b4 s1 s2 s3 s4
  go_enter Tryz.func27, Tryz.ntmps27
  go_wp2_with fail
  rw [HW5.out]
  have f0 := F0.out
  have f1 := F1.out
  have f2 := F2.out
  exact bodyPost_ret (v := .agg #[.int .u64 ep, .slice (some ⟨w1.heap.size, 0, none⟩) 3 3, .slice (some ⟨w3.heap.size, 0, none⟩) 1 1]) (by simp [results, Tryz.results27, go_sem, f0, f1, f2]) rfl HD.out
end Go.Proofs.YthgnjojkncodeaaGreat
