/-
  TopoMay's words: between(nil), the topology and the configuration in their boxes.
-/
import Derived.Test.YtgfnlfkbbedkaaaTpN
namespace Go.Proofs.Ytgfnlfkbbedkaaa
open Go.RowKit
set_option linter.unusedVariables false
set_option linter.unusedSimpArgs false

def RetN (w : World) (e : Ending) (w' : World) : Prop := ∃ PU PH : Nat, e = .returned (.agg #[.int .u64 1, .slice (some ⟨PU, 0, none⟩) 10 10, .slice (some ⟨PH, 0, none⟩) 1 1]) ∧ w.heap.size < PU ∧ w.heap.size < PH ∧ PU ≠ PH ∧
    w'.heap[PU]? = some (.cells #[.bool false, .bool false, .bool false, .bool false, .bool false, .bool false, .bool false, .bool false, .bool false, .bool false] 4 (0, 0)) ∧ w'.heap[PH]? = some (.cells #[.slice none 0 0] 39 (0, 0)) ∧ Below w.heap.size w w'
set_option maxRecDepth 20000 in
set_option maxHeartbeats 4000000 in
theorem between_nil (w : World) : Calls Try.prog 9 #[.slice none 0 0] w (RetN w) := by
  have mk1 : ∀ W : World, (Instr.makeSlice 24 (.int .i64 10) (.int .i64 10)).run Try.prog W = .ok (.slice (some ⟨W.heap.size, 0, none⟩) 10 10) (W.alloc (.cells #[.bool false, .bool false, .bool false, .bool false, .bool false, .bool false, .bool false, .bool false, .bool false, .bool false] 4)) := fun W => by kernel_rfl
  have mk2 : ∀ W : World, (Instr.makeSlice 25 (.int .i64 1) (.int .i64 1)).run Try.prog W = .ok (.slice (some ⟨W.heap.size, 0, none⟩) 1 1) (W.alloc (.cells #[.slice none 0 0] 39)) := fun W => by kernel_rfl
  go_enter Try.func9, Try.ntmps9
  go_upto_region 1 with (fail)
  go_cut [3] (fun s3 wx => ∃ PT PU PH : Nat, s3 = .pointer (some ⟨PT, 0, none⟩) ∧ BT w wx PT PU PH (.slice none 0 0))
  case first =>
    go_region
    all_goals
      go_wp2_with fail
      go_meet
      obtain ⟨x0, x1, x2, x3, x4⟩ := al4 w (.cells #[.int .u64 0, .slice none 0 0, .slice none 0 0] 27) _ _ _
      first
        | exact ⟨_, w.heap.size + 1, w.heap.size + 1 + 1, rfl, ⟨x4, ⟨by omega, by omega, by omega⟩, ⟨by omega, by omega, by omega⟩, (by first | exact x1 | exact x2 | exact x3), (by first | exact x1 | exact x2 | exact x3), x0, (by first | exact x1 | exact x2 | exact x3)⟩⟩
        | exact ⟨_, w.heap.size + 1, w.heap.size + 1 + 1 + 1, rfl, ⟨x4, ⟨by omega, by omega, by omega⟩, ⟨by omega, by omega, by omega⟩, (by first | exact x1 | exact x2 | exact x3), (by first | exact x1 | exact x2 | exact x3), x0, (by first | exact x1 | exact x2 | exact x3)⟩⟩
        | exact ⟨_, w.heap.size + 1 + 1, w.heap.size + 1, rfl, ⟨x4, ⟨by omega, by omega, by omega⟩, ⟨by omega, by omega, by omega⟩, (by first | exact x1 | exact x2 | exact x3), (by first | exact x1 | exact x2 | exact x3), x0, (by first | exact x1 | exact x2 | exact x3)⟩⟩
        | exact ⟨_, w.heap.size + 1 + 1, w.heap.size + 1 + 1 + 1, rfl, ⟨x4, ⟨by omega, by omega, by omega⟩, ⟨by omega, by omega, by omega⟩, (by first | exact x1 | exact x2 | exact x3), (by first | exact x1 | exact x2 | exact x3), x0, (by first | exact x1 | exact x2 | exact x3)⟩⟩
        | exact ⟨_, w.heap.size + 1 + 1 + 1, w.heap.size + 1, rfl, ⟨x4, ⟨by omega, by omega, by omega⟩, ⟨by omega, by omega, by omega⟩, (by first | exact x1 | exact x2 | exact x3), (by first | exact x1 | exact x2 | exact x3), x0, (by first | exact x1 | exact x2 | exact x3)⟩⟩
        | exact ⟨_, w.heap.size + 1 + 1 + 1, w.heap.size + 1 + 1, rfl, ⟨x4, ⟨by omega, by omega, by omega⟩, ⟨by omega, by omega, by omega⟩, (by first | exact x1 | exact x2 | exact x3), (by first | exact x1 | exact x2 | exact x3), x0, (by first | exact x1 | exact x2 | exact x3)⟩⟩
  case rest =>
    obtain ⟨PT, PU, PH, rfl, hBT⟩ := hcut
    have HB0 := Lib.hid hBT
    clear mk1 mk2 hBT
    go_wp2_with fail
    go_loopg [4] 0 (fun gg s4 wr => gg = 0 ∧ s4 = .int .i64 0 ∧ Hid (BT w wr PT PU PH (.slice none 0 0)))
    case atStart => exact ⟨rfl, rfl, HB0⟩
    case round =>
      clear HB0
      obtain ⟨rfl, rfl, HB⟩ := hrel
      have hbt := HB.out.bt
      have hb0 := HB.out.b0
      have t0 : wr.cell? ⟨PT, 0, none⟩ = some (.int .u64 1) := by simp [World.cell?, hbt]
      have t1 : wr.cell? ⟨PT, 1, none⟩ = some (.slice (some ⟨PU, 0, none⟩) 10 10) := by simp [World.cell?, hbt]
      have t2 : wr.cell? ⟨PT, 2, none⟩ = some (.slice (some ⟨PH, 0, none⟩) 1 1) := by simp [World.cell?, hbt]
      have y0 : wr.cell? ⟨w.heap.size, 0, none⟩ = some (.int .u64 0) := by simp [World.cell?, hb0]
      have y1 : wr.cell? ⟨w.heap.size, 1, none⟩ = some (.slice none 0 0) := by simp [World.cell?, hb0]
      have y2 : wr.cell? ⟨w.heap.size, 2, none⟩ = some (.slice none 0 0) := by simp [World.cell?, hb0]
      have z0 : wr.frozen? ⟨w.heap.size, 0, none⟩ = false := by simp [World.frozen?, hb0]
      have z1 : wr.frozen? ⟨w.heap.size, 1, none⟩ = false := by simp [World.frozen?, hb0]
      have z2 : wr.frozen? ⟨w.heap.size, 2, none⟩ = false := by simp [World.frozen?, hb0]
      obtain ⟨w5, hw5⟩ : ∃ w5, ((wr.setCell ⟨w.heap.size, 0, none⟩ (.int .u64 1)).setCell ⟨w.heap.size, 1, none⟩ (.slice (some ⟨PU, 0, none⟩) 10 10)).setCell ⟨w.heap.size, 2, none⟩ (.slice (some ⟨PH, 0, none⟩) 1 1) = w5 := ⟨_, rfl⟩
      have hc5 : Chg (fun k => k = w.heap.size) wr w5 := by
        rw [← hw5]
        exact ((Chg.set wr ⟨w.heap.size, 0, none⟩ _).trans (Chg.set _ ⟨w.heap.size, 1, none⟩ _) fun _ _ h => h).trans (Chg.set _ ⟨w.heap.size, 2, none⟩ _) fun _ _ h => h
      have hbel5 : Below w.heap.size w w5 := hc5.below HB.out.bel HB.out.bel.size fun k hk => by omega
      have ht := HB.out.t
      have hn := HB.out.ne
      have hlU : PU < wr.heap.size := (Array.getElem?_eq_some_iff.1 HB.out.bu).1
      have hlH : PH < wr.heap.size := (Array.getElem?_eq_some_iff.1 HB.out.bh).1
      have hu5 := (hc5.block PU hlU (by omega)).trans HB.out.bu
      have hh5 := (hc5.block PH hlH (by omega)).trans HB.out.bh
      have F012 : w5.cell? ⟨w.heap.size, 0, none⟩ = some (.int .u64 1) ∧ w5.cell? ⟨w.heap.size, 1, none⟩ = some (.slice (some ⟨PU, 0, none⟩) 10 10) ∧ w5.cell? ⟨w.heap.size, 2, none⟩ = some (.slice (some ⟨PH, 0, none⟩) 1 1) := by
        have hh : w5.heap[w.heap.size]? = some (.cells #[.int .u64 1, .slice (some ⟨PU, 0, none⟩) 10 10, .slice (some ⟨PH, 0, none⟩) 1 1] 27 (0, 0)) := by rw [← hw5]; simp [World.setCell, Array.getElem?_modify, hb0]
        exact ⟨by simp [World.cell?, hh], by simp [World.cell?, hh], by simp [World.cell?, hh]⟩
      have F0 := Lib.hid F012.1
      have F1 := Lib.hid F012.2.1
      have F2 := Lib.hid F012.2.2
      have HW5 := Lib.hid hw5
      have HRN : Hid (RetN w (.returned (.agg #[.int .u64 1, .slice (some ⟨PU, 0, none⟩) 10 10, .slice (some ⟨PH, 0, none⟩) 1 1])) w5) := Lib.hid ⟨PU, PH, rfl, ht.2.1, ht.2.2, hn.2.2, hu5, hh5, hbel5⟩
      clear F012 hw5 hbel5 hc5 hu5 hh5 hbt hb0 HB
      go_wp2_with fail
      rw [HW5.out]
      have f0 : w5.cell? ⟨w.heap.size, 0, none⟩ = some (.int .u64 1) := F0.out
      have f1 : w5.cell? ⟨w.heap.size, 1, none⟩ = some (.slice (some ⟨PU, 0, none⟩) 10 10) := F1.out
      have f2 : w5.cell? ⟨w.heap.size, 2, none⟩ = some (.slice (some ⟨PH, 0, none⟩) 1 1) := F2.out
      exact bodyPost_ret (v := .agg #[.int .u64 1, .slice (some ⟨PU, 0, none⟩) 10 10, .slice (some ⟨PH, 0, none⟩) 1 1]) (by simp [results, Try.results9, go_sem, f0, f1, f2]) rfl HRN.out
end Go.Proofs.Ytgfnlfkbbedkaaa
