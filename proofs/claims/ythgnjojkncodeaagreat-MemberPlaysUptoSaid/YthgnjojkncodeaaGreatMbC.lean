/-
  The ends of all flows' edges: Nexts, Prevs.
-/
import Derived.Test.YthgnjojkncodeaaGreatMbB
namespace Go.Proofs.YthgnjojkncodeaaGreat
open Go.RowKit
set_option linter.unusedVariables false
set_option linter.unusedSimpArgs false

def allF (F : Nat → List Int) (n : Nat) : List Int := ((List.range n).map F).flatten
theorem allF_succ (F : Nat → List Int) (n : Nat) : allF F (n + 1) = allF F n ++ F n := by simp [allF, List.range_succ]
theorem allF_le (F : Nat → List Int) (hF : ∀ i, (F i).length ≤ 1048576) : ∀ n, (allF F n).length ≤ n * 1048576
  | 0 => by simp [allF]
  | n + 1 => by rw [allF_succ, List.length_append]; have := allF_le F hF n; have := hF n; omega
def nextsOf (hops : List (List Ed)) (node : Int) : List Int := Lib.compact (sortI (allF (fun i => nextOf hops (i : Int) node) hops.length))
def prevsOf (hops : List (List Ed)) (node : Int) : List Int := Lib.compact (sortI (allF (fun i => prevOf hops (i : Int) node) hops.length))
theorem ends_few {hops : List (List Ed)} (h : Few hops) (f : Ed → Int × Bool) (flow : Int) : (endsOf f (edgesOf hops flow)).length ≤ 1048576 := by
  have h1 := Lib.compact_length_le (sortI (picks f (edgesOf hops flow)))
  have h2 := picks_len f (edgesOf hops flow)
  have h3 := h.edges flow
  rw [sortI_length] at h1
  unfold endsOf
  omega
set_option maxHeartbeats 1000000 in
theorem mall_calls (w : World) (M : Nat) (ok : Nat → Prop) (nodes : Int) (flows : List Flw) (win que node ep : Int) (up : List Bool) (hops : List (List Ed)) (h : MB w M ok nodes flows win que node ep up hops)
    (g : Nat) (F : Nat → List Int) (hF : ∀ i, (F i).length ≤ 1048576) (eg : ∀ args w, (callFunc g args).run Tryz.prog w = .ok (.enter g args) w)
    (hg : ∀ W i, i < hops.length → Below w.heap.size w W → Calls Tryz.prog g #[.pointer (some ⟨M, 0, none⟩), .int .i64 (i : Int)] W (RetI W (F i))) :
    Calls Tryz.prog 49 #[.pointer (some ⟨M, 0, none⟩), .func (.func g) #[.pointer (some ⟨M, 0, none⟩)] #[]] w (RetI w (Lib.compact (sortI (allF F hops.length)))) := by
  have hMl := h.lt
  have hbig := h.big.1
  obtain ⟨AF, nF, cF, AU, nU, cU, AH, nH, cH, hF7, b1, b2, b3, r1, r2, r3⟩ := h.facts
  have c7 := hF7.c7
  have his := is_calls w M hMl hF7.c8
  have hlH := r3.len
  rw [hlH] at hg hbig ⊢
  have hle := allF_le F hF
  have HLE := Lib.hid hle
  have HFL := Lib.hid hF
  clear h hF7 r1 r2 r3 hlH hle hF
  go_enter Tryz.func49, Tryz.ntmps49
  go_wp2_with (go_at_call 33; refine his.mono ?_; rintro e w1 ⟨rfl, rfl⟩)
  clear his c7
  go_loopg [5, 17] nH (fun gg s5 s17 wr => ∃ i : Nat, i ≤ nH ∧ nH - i ≤ gg ∧ s17 = .int .i64 (i : Int) ∧ Hid (OwnI wr w.heap.size s5 (allF F i)) ∧ Hid (Below w.heap.size w wr))
  case atStart => exact ⟨0, Nat.zero_le _, by omega, rfl, Lib.hid (OwnI.nil _ _), Lib.hid (Below.refl _ w)⟩
  case round =>
    obtain ⟨i, hi, hgi, rfl, HO, HB⟩ := hrel
    by_cases hlt : i < nH
    · have hlti : (i : Int) < (nH : Int) := by omega
      have hcall := hg wr i hlt HB.out
      have hl1 := HLE.out i
      have hl2 := HFL.out i
      have hb3 : (allF F i).length + (F i).length ≤ 1099511627776 := by omega
      have HS := Lib.hid (allF_succ F i)
      clear hg hl1 hl2
      go_upto_region 8 with (first
        | (go_at_fn g; refine hcall.mono ?_; rintro e w2 ⟨v2, rfl, hO2, b2⟩; obtain ⟨A2, c2, rfl, _, _, _, hR2⟩ := hO2.rd; have HX := Lib.hid hR2; have HB2 := Lib.hid (belowThen HB.out HB.out.size b2); have HO2 := Lib.hid (HO.out.below b2); clear hcall hO2 hR2 b2)
        | (at_builtin; refine appIs w.heap.size w.heap.size rfl (.tmp 20) (.tmp 23) rfl u5 _ _ A2 (F i).length c2 rfl rfl HO2.out HX.out HB2.out HB2.out.size (Nat.le_refl _) hb3 ?_; intro v3 w3 HO3 HB3; have HL3 := Lib.hid HO3; clear HO3))
      go_wp2_with fail
      go_roundg (nH - (i + 1))
      case measure => omega
      case rel => exact ⟨i + 1, by omega, by omega, by go_num, Lib.hid (by rw [HS.out]; exact HL3.out), Lib.hid HB3⟩
    · have hlti : ¬ (i : Int) < (nH : Int) := by omega
      obtain rfl : i = nH := by omega
      have hl1 := HLE.out i
      have hc1 := sort_calls HO.out HB.out (Nat.le_refl _) (by omega)
      clear hg HO hl1
      go_wp2_with fail
      refine hc1.mono ?_
      rintro e w2 ⟨rfl, hO2, hB2⟩
      have hc2 := compact_calls hO2 hB2 (Nat.le_refl _)
      clear hc1
      go_wp2_with fail
      refine hc2.mono ?_
      rintro e w3 ⟨v3, rfl, hO3, hB3⟩
      clear hc2
      go_wp2_with fail
      go_ret
      exact ⟨v3, rfl, hO3, hB3⟩
theorem mnexts_calls (w : World) (M : Nat) (ok : Nat → Prop) (nodes : Int) (flows : List Flw) (win que node ep : Int) (up : List Bool) (hops : List (List Ed)) (h : MB w M ok nodes flows win que node ep up hops) :
    Calls Tryz.prog 22 #[.pointer (some ⟨M, 0, none⟩)] w (RetI w (nextsOf hops node)) := by
  have hbig := h.big.1
  have hal := mall_calls w M ok nodes flows win que node ep up hops h 14 (fun i => nextOf hops (i : Int) node) (fun i => ends_few h.few _ _) (enters_of Tryz.func14 (by kernel_rfl) rfl)
    (fun W i hi hb => mnext_calls W M ok nodes flows win que node ep up hops (h.below hb) (i : Int) ⟨by omega, by omega⟩)
  clear h
  go_enter Tryz.func22, Tryz.ntmps22
  go_wp2_with (go_at_call 49; refine hal.mono ?_; rintro e w4 ⟨v4, rfl, hO4, b4⟩)
  go_ret
  exact ⟨v4, rfl, hO4, b4⟩
theorem mprevs_calls (w : World) (M : Nat) (ok : Nat → Prop) (nodes : Int) (flows : List Flw) (win que node ep : Int) (up : List Bool) (hops : List (List Ed)) (h : MB w M ok nodes flows win que node ep up hops) :
    Calls Tryz.prog 24 #[.pointer (some ⟨M, 0, none⟩)] w (RetI w (prevsOf hops node)) := by
  have hbig := h.big.1
  have hal := mall_calls w M ok nodes flows win que node ep up hops h 16 (fun i => prevOf hops (i : Int) node) (fun i => ends_few h.few _ _) (enters_of Tryz.func16 (by kernel_rfl) rfl)
    (fun W i hi hb => mprev_calls W M ok nodes flows win que node ep up hops (h.below hb) (i : Int) ⟨by omega, by omega⟩)
  clear h
  go_enter Tryz.func24, Tryz.ntmps24
  go_wp2_with (go_at_call 49; refine hal.mono ?_; rintro e w4 ⟨v4, rfl, hO4, b4⟩)
  go_ret
  exact ⟨v4, rfl, hO4, b4⟩
end Go.Proofs.YthgnjojkncodeaaGreat
