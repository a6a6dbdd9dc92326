/-
  The chapter's rows.
-/
import Derived.Test.YtmkmbnfmmibifaaNetH
namespace Go.Proofs.Ytmkmbnfmmibifaa
open Go.RowKit

/-- Behind a call: the net anew; what was free stays so. -/
theorem RetNet.step {w0 w w' : World} {S : Nat → Prop} {P : Nat} {N : Int} {L' : List Par} (h : RetNet TN TP w S P N L' w') (hb : Below w0.heap.size w0 w) (hS : ∀ k, S k → w0.heap.size ≤ k) :
    ∃ S' v', PNet w' S' P N v' L' ∧ Chg S w w' ∧ Below w0.heap.size w0 w' ∧ (∀ k, S' k → w0.heap.size ≤ k) ∧ ∀ k, k < w.heap.size → ¬ S k → ¬ S' k := by
  obtain ⟨S', v', h1, h2, h3⟩ := h
  refine ⟨S', v', h1, h2, h2.below hb hb.size hS, fun k hk => ?_, fun k hk hn hh => ?_⟩
  · rcases h3 k hk with h | h
    · exact hS k h
    · have := hb.size; omega
  · rcases h3 k hh with h | h
    · exact hn h
    · omega
def okS (v : Value) : Nat → Prop := fun k => v.ownBlock = some k
theorem FB.okS {w w' : World} {A : Option Addr} {n c : Nat} {xs : List UInt8} (h : FB w w' A n c xs) : RdB w' (okS (.slice A n c)) A n xs ∧ n ≤ c := by
  obtain ⟨A', c'', e, hc, _, hr⟩ := h.2.rd
  have hn := h.1
  rw [hn] at e hr hc
  injection e with e1 _ e2
  subst e1
  subst e2
  exact ⟨hr.mono fun k hk _ => hk.2, hc⟩
theorem rdKeep {w w' : World} {S ok : Nat → Prop} {A : Option Addr} {n : Nat} {xs : List UInt8} (h : RdB w ok A n xs) (hc : Chg S w w') (hf : ∀ k, ok k → ¬ S k) : RdB w' ok A n xs := h.keep hc.size fun k hk hl => hc.block k hl (hf k hk)
theorem litB (w : World) (x : UInt8) : RdB (w.alloc (.cells #[.int .u8 (x.toNat : Int)] 5 (1, 2))) (fun k => k = w.heap.size) (some ⟨w.heap.size, 0, none⟩) 1 [x] := rdLitN w w.heap.size rfl _ (1, 2) 1 [x] rfl rfl (by omega)
set_option maxRecDepth 100000 in
set_option maxHeartbeats 4000000 in
theorem wakes_calls (w : World) : Calls Try.prog 13 #[] w fun e w' => e = .returned (.bool true) ∧ Below w.heap.size w w' := by
  have kc := conv_const
  have hI : ∀ z : Int, 0 ≤ z → z ≤ 9 → inI z := fun z h1 h2 => by unfold inI; omega
  go_enter Try.func13, Try.ntmps13
  go_wp2_with fail
  refine (New_calls w 3 (by omega) (by omega)).mono ?_
  rintro e w1 ⟨rfl, h1, hb1⟩
  have r1 := litB w1 97
  have hb1a := stepBelow hb1 (allocBelow' w1 (.cells #[.int .u8 97] 5 (1, 2)))
  have h1a := h1.below (allocBelow' w1 (.cells #[.int .u8 97] 5 (1, 2)))
  clear h1
  go_wp2_with fail
  refine (Send_calls _ _ _ 3 _ [] h1a (by omega) 0 1 (hI _ (by omega) (by omega)) (hI _ (by omega) (by omega)) _ 1 1 [97] _ r1 0 [(0, 1, [97], true)] rfl).mono ?_
  rintro e w2 ⟨rfl, hr⟩
  obtain ⟨S2, v2, h2, _, hb2, hS2, _⟩ := hr.step hb1a (fun k hk => by rw [hk]; exact Nat.le_refl _)
  have r2 := litB w2 98
  have hb2a := stepBelow hb2 (allocBelow' w2 (.cells #[.int .u8 98] 5 (1, 2)))
  have h2a := h2.below (allocBelow' w2 (.cells #[.int .u8 98] 5 (1, 2)))
  clear hr h1a r1 hb1 hb1a h2
  go_wp2_with fail
  refine (Send_calls _ _ _ 3 _ _ h2a (by omega) 2 2 (hI _ (by omega) (by omega)) (hI _ (by omega) (by omega)) _ 1 1 [98] _ r2 0 [(0, 1, [97], true), (2, 2, [98], true)] rfl).mono ?_
  rintro e w3 ⟨rfl, hr⟩
  obtain ⟨S3, v3, h3, _, hb3, hS3, _⟩ := hr.step hb2a hS2
  clear hr h2a r2 hb2 hb2a hS2
  go_wp2_with fail
  refine (Double_calls w3 S3 _ 3 v3 _ h3 (by omega) (by intro p hp; simp at hp; rcases hp with rfl | rfl <;> simp) 0 (0, 1, [97], true) rfl 0 [(0, 1, [97], true), (2, 2, [98], true), (0, 1, [97], true)] (.inl ⟨by simp, rfl, rfl⟩)).mono ?_
  rintro e w4 ⟨rfl, hr⟩
  obtain ⟨S4, v4, h4, _, hb4, hS4, _⟩ := hr.step hb3 hS3
  clear hr h3 hb3 hS3
  go_wp2_with fail
  refine (Len_calls w4 S4 _ 3 v4 _ h4 (by omega)).mono ?_
  rintro e w' ⟨rfl, rfl⟩
  go_wp2_with fail
  refine (Deliver_calls w4 S4 _ 3 v4 _ h4 (by omega) (by intro p hp; simp at hp; rcases hp with rfl | rfl | rfl <;> simp) (by simp) 0 (0, 1, [97], true) rfl).mono ?_
  rintro e w5 ⟨A5, n5, c5, S5, v5, rfl, hfb5, h5, hc5, hs5, hd5⟩
  have hb5 := hc5.below hb4 hb4.size hS4
  have hS5 : ∀ k, S5 k → w.heap.size ≤ k := fun k hk => by
    rcases hs5 k hk with h | h
    · exact hS4 k h
    · have := hb4.size; omega
  have hl5 := h5.lt
  obtain ⟨w6, hw6⟩ : ∃ w6, w5.alloc (.cells #[.int .i64 0, .int .i64 1, .slice A5 n5 c5, .bool true] TP) = w6 := ⟨_, rfl⟩
  obtain ⟨k6, x6, _z6⟩ := boxT _ _ _ _ _ _ _ hw6
  clear _z6
  have hn5 : n5 = 1 := hfb5.1.symm
  subst hn5
  have y6 := hfb5.okS.1.below k6
  have hd6 : ∀ k, okS (.slice A5 1 c5) k → ¬ S5 k := hd5
  have hy6 : ∀ k, okS (.slice A5 1 c5) k → k < w6.heap.size := fun k hk => Nat.lt_of_lt_of_le (hfb5.2.lt k hk).2 k6.size
  have hx6 : ¬ S5 w5.heap.size := fun h => by have := hl5 _ h; omega
  have h6 := h5.below k6
  have hb6 := stepBelow hb5 k6
  have r6 := litB w6 120
  have hb6a := stepBelow hb6 (allocBelow' w6 (.cells #[.int .u8 120] 5 (1, 2)))
  have h6a := h6.below (allocBelow' w6 (.cells #[.int .u8 120] 5 (1, 2)))
  have x6a := x6.below (allocBelow' w6 (.cells #[.int .u8 120] 5 (1, 2)))
  have y6a := y6.below (allocBelow' w6 (.cells #[.int .u8 120] 5 (1, 2)))
  have z6a := heapAlloc w6 (.cells #[.int .u8 120] 5 (1, 2))
  have HW6 := Lib.hid hw6
  clear hw6 h4 hb4 hS4 hfb5 h5 hc5 hs5 hd5 hb5 hl5
  go_upto_region 5 with (fail)
  rw [HW6.out]
  go_wp2_with fail
  refine (Corrupt_calls _ S5 _ 3 v5 _ h6a (by omega) 0 (2, 2, [98], true) rfl _ 1 1 [120] _ r6 0 [(2, 2, [120], false), (0, 1, [97], true)] (.inl ⟨by omega, rfl, rfl⟩)).mono ?_
  rintro e w7 ⟨rfl, hr⟩
  obtain ⟨S7, v7, h7, hc7, hb7, hS7, hf7⟩ := hr.step hb6a hS5
  have x7 := x6a.chg hc7 hx6
  have hx7 := hf7 _ x6a.lt hx6
  have y7 := rdKeep y6a hc7 hd6
  have hd7 : ∀ k, okS (.slice A5 1 c5) k → ¬ S7 k := fun k hk => hf7 k (by have := hy6 k hk; omega) (hd6 k hk)
  have hy7 : ∀ k, okS (.slice A5 1 c5) k → k < w7.heap.size := fun k hk => by have h1 := hy6 k hk; have h2 := hc7.size; omega
  clear hr h6 h6a r6 hb6 hb6a x6 x6a y6 y6a hc7 hf7 hd6 hy6 hx6
  go_wp2_with fail
  refine (Deliver_calls w7 S7 _ 3 v7 _ h7 (by omega) (by intro p hp; simp at hp; rcases hp with rfl | rfl <;> simp) (by simp) 0 (2, 2, [120], false) rfl).mono ?_
  rintro e w8 ⟨A8, n8, c8, S8, v8, rfl, hfb8, h8, hc8, hs8, hd8⟩
  have hb8 := hc8.below hb7 hb7.size hS7
  obtain ⟨w9, hw9⟩ : ∃ w9, w8.alloc (.cells #[.int .i64 2, .int .i64 2, .slice A8 n8 c8, .bool false] TP) = w9 := ⟨_, rfl⟩
  obtain ⟨k9, x9, _z9⟩ := boxT _ _ _ _ _ _ _ hw9
  clear _z9
  have hn8 : n8 = 1 := hfb8.1.symm
  subst hn8
  have y9 := hfb8.okS.1.below k9
  have X9 := (x7.chg hc8 hx7).below k9
  have Y9 := (rdKeep y7 hc8 hd7).below k9
  have h9 := h8.below k9
  have hb9 := stepBelow hb8 k9
  have HW9 := Lib.hid hw9
  clear hw9 h7 hb7 hS7 hfb8 h8 hc8 hs8 hd8 hb8 x7 y7
  go_upto_region 7 with (fail)
  rw [HW9.out]
  go_wp2_with fail
  refine (At_none w9 S8 _ 3 v8 _ h9 (by omega) 1 (.inr (by simp))).mono ?_
  rintro e w10 ⟨A10, n10, c10, rfl, hfb10, hb10⟩
  obtain ⟨w11, hw11⟩ : ∃ w11, w10.alloc (.cells #[.int .i64 noPar.1, .int .i64 noPar.2.1, .slice A10 n10 c10, .bool noPar.2.2.2] TP) = w11 := ⟨_, rfl⟩
  have k11 : Below w10.heap.size w10 w11 := by rw [← hw11]; exact allocBelow' _ _
  have hb11 := stepBelow (stepBelow hb9 hb10) k11
  have x11 := (x9.below hb10).below k11
  have X11 := (X9.below hb10).below k11
  have y11 := conv_string ((y9.below hb10).below k11) c8
  have Y11 := conv_string ((Y9.below hb10).below k11) c5
  have e1 : strOf [120] = ⟨#[120]⟩ := rfl
  have e2 : strOf [97] = ⟨#[97]⟩ := rfl
  rw [e1] at y11
  rw [e2] at Y11
  obtain ⟨a0, a1, a2, a3, _⟩ := x11.cells
  obtain ⟨d0, d1, d2, d3, _⟩ := X11.cells
  have HW11 := Lib.hid hw11
  clear hw11 h9 hb9 x9 X9 y9 Y9 x11 X11 e1 e2 hfb10 hb10 k11
  go_upto_region 8 with (fail)
  rw [HW11.out]
  go_wp2_with fail
  go_ret
  exact ⟨rfl, hb11⟩
end Go.Proofs.Ytmkmbnfmmibifaa
