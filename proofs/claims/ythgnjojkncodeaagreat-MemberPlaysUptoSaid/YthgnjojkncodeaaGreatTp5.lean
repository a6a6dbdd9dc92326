/-
  slices.Concat of ints.
-/
import Derived.Test.YthgnjojkncodeaaGreatTp4
namespace Go.Proofs.YthgnjojkncodeaaGreat
open Go.RowKit
def flen (rows : List (List Int)) (k : Nat) : Nat := (rows.take k).flatten.length
set_option maxRecDepth 20000 in
set_option maxHeartbeats 1600000 in
theorem concat_calls (w : World) (A : Option Addr) (n c : Nat) (rows : List (List Int)) (hr : Rd elIs w (fun k => k < w.heap.size) A n rows) (hs : rows.flatten.length ≤ 4194304) :
    Calls Tryz.prog 80 #[.slice A n c] w (RetI w rows.flatten) := by
  have hl := hr.len
  have hm := hr.max
  go_enter Tryz.func80, Tryz.ntmps80
  go_wp2
  go_loop [3, 11] (fun s i => ∃ k : Nat, k ≤ n ∧ i = .int .i64 k ∧ s = .int .i64 (flen rows k : Nat)) (fun _ i => n - (intOf i).toNat)
  case atStart => exact ⟨0, Nat.zero_le _, rfl, by simp [flen]⟩
  case round =>
    obtain ⟨k, hk, rfl, rfl⟩ := hrel
    by_cases hlt : k < n
    · have hlti : (k : Int) < (n : Int) := by omega
      obtain ⟨x, hx⟩ : ∃ x, rows[k]? = some x := ⟨_, List.getElem?_eq_getElem (by omega)⟩
      obtain ⟨b, o, vs, rfl, hb1, hb2, hV, hcl⟩ := hr.at_ k x hx
      obtain ⟨C, p, q, rfl, hpq, hrd⟩ := hV
      have k0 : w.cell? ⟨b, o + k, none⟩ = some (.slice C p q) := by have := hcl 0 _ rfl; simpa [El.slice] using this
      have hft := flat_take rows k x hx
      have hfl := flat_le rows (k + 1)
      have hpl := hrd.len
      obtain ⟨L, hL⟩ : ∃ L, flen rows k = L := ⟨_, rfl⟩
      have hL2 : flen rows (k + 1) = L + p := by rw [← hL]; unfold flen; rw [hft, List.length_append, hpl]
      have hb3 : L + p ≤ 4194304 := by rw [← hL2]; unfold flen; omega
      have hneg : ¬ ((L : Int) + (p : Int) < 0) := by omega
      rw [hL]
      have HL2 := Lib.hid hL2
      clear hft hfl hpl hL hL2 hcl hrd hx hr hl
      go_wp2
      go_round
      case rel => exact ⟨k + 1, by omega, by go_num, by rw [HL2.out]; go_num⟩
      case measure => simp [intOf]; omega
    · have hlti : ¬ (k : Int) < (n : Int) := by omega
      obtain rfl : k = n := by omega
      have e : rows.take k = rows := List.take_of_length_le (by omega)
      obtain ⟨L, hL⟩ : ∃ L, flen rows k = L := ⟨_, rfl⟩
      have hL3 : L ≤ 4194304 := by rw [← hL]; unfold flen; rw [e]; exact hs
      rw [hL]
      have hgr := grow_calls w L (by omega)
      have HS := Lib.hid hs
      have HLL := Lib.hid hl
      clear e hk hL hs hl
      go_wp2_with (go_at_call 90; refine hgr.mono ?_; rintro e w1 ⟨v1, rfl, hO1, hb1⟩)
      have HR1 := Lib.hid hr
      have HO1 := Lib.hid hO1
      have HB1 := Lib.hid hb1
      clear hgr hr hO1 hb1
      go_loopg [6, 27] k (fun gg s6 s27 wr => ∃ j : Nat, j ≤ k ∧ k - j ≤ gg ∧ s27 = .int .i64 j ∧ Hid (OwnI wr w.heap.size s6 (rows.take j).flatten) ∧ Hid (Below w.heap.size w wr))
      case atStart => exact ⟨0, Nat.zero_le _, by omega, rfl, HO1, HB1⟩
      case round =>
        obtain ⟨j, hj, hgj, rfl, HO, HB⟩ := hrel
        by_cases hlt : j < k
        · have hltj : (j : Int) < (k : Int) := by omega
          have hl := HLL.out
          obtain ⟨x, hx⟩ : ∃ x, rows[j]? = some x := ⟨_, List.getElem?_eq_getElem (by omega)⟩
          obtain ⟨b, o, vs, rfl, hb1, hb2, hV, hcl⟩ := (HR1.out.below HB.out).at_ j x hx
          obtain ⟨C, p, q, rfl, hpq, hrd⟩ := hV
          have k0 : wr.cell? ⟨b, o + j, none⟩ = some (.slice C p q) := by have := hcl 0 _ rfl; simpa [El.slice] using this
          have hft := flat_take rows j x hx
          have hfl := flat_le rows (j + 1)
          have hpl := hrd.len
          have hb3 : (rows.take j).flatten.length + p ≤ 1099511627776 := by have hs := HS.out; rw [hft, List.length_append, hpl] at hfl; omega
          have HFT := Lib.hid hft
          have HX := Lib.hid (RdI.ofRd hrd)
          clear hft hfl hpl hcl hrd hx hl
          go_wp2_with (at_builtin; refine appIs w.heap.size w.heap.size rfl (.tmp 31) (.tmp 32) rfl u6 _ _ C p q rfl rfl HO.out HX.out HB.out HB.out.size (Nat.le_refl _) hb3 ?_; intro v3 w3 HO3 HB3; have HL3 := Lib.hid HO3; clear HO3)
          go_roundg (k - (j + 1))
          case measure => omega
          case rel => exact ⟨j + 1, by omega, by omega, by go_num, Lib.hid (by rw [HFT.out]; exact HL3.out), Lib.hid HB3⟩
        · have hltj : ¬ (j : Int) < (k : Int) := by omega
          have hl := HLL.out
          obtain rfl : j = k := by omega
          have e : rows.take j = rows := List.take_of_length_le (by omega)
          rw [e] at HO
          clear e hl
          go_wp2
          go_ret
          exact ⟨_, rfl, HO.out, HB.out⟩
end Go.Proofs.YthgnjojkncodeaaGreat
