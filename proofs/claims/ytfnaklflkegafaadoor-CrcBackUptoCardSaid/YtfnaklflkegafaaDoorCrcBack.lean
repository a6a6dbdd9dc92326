/-
  The walk of CrcBack.
-/
import Derived.Test.YtfnaklflkegafaaDoorCrc5
namespace Go.Proofs.YtfnaklflkegafaaDoor
open Go.RowKit

set_option maxHeartbeats 800000 in
theorem crcBack_walk (w : World) (A : Option Addr) (n c : Nat) (xs : List UInt8) (hr : RdB w (fun k => k < w.heap.size) A n xs) (hc : n ≤ c) (hn : n ≤ 1048576) (ht : Tab w) :
    Calls Tryd.prog 5 #[.slice A n c] w fun e w' => e = .returned (.bool true) ∧ Below w.heap.size w w' := by
  by_cases h4 : n < 4
  · have h4' : ((4 : Int) == 4) = decide ((n : Int) < 4) := by simp; omega
    go_enter Tryd.func5, Tryd.ntmps5
    go_wp2_with fail
    refine (open_short A n c w h4).mono ?_
    rintro e w1 ⟨rfl, rfl⟩
    go_wp2_with fail
    refine (wakes_calls w ht).mono ?_
    rintro e w1 ⟨rfl, hb1⟩
    go_wp2
    go_ret
    exact ⟨rfl, hb1⟩
  · obtain ⟨m, rfl⟩ : ∃ m, n = m + 4 := ⟨n - 4, by omega⟩
    by_cases hs : Crc.le (xs.drop m) = Crc.sum (xs.take m)
    · have hseal := (Crc.sealed_iff xs m hr.len).2 hs
      have heq : ((strOf (Crc.sealed (xs.take m))).toList == (strOf xs).toList) = true := by rw [strOf_beq, hseal]; simp
      go_enter Tryd.func5, Tryd.ntmps5
      go_wp2_with fail
      refine (open_good A (m + 4) m c xs w _ hr rfl hc ht hs (by omega)).mono ?_
      rintro e w1 ⟨v1, rfl, ho1, hb1⟩
      obtain ⟨A1, c1, rfl, _, _, hr1⟩ := ho1.rd
      have hpre := conv_string (hr.below hb1).drew c
      have hl1 := hr1.len
      have hm1 : (xs.take m).length = m := by have := hr.len; simp; omega
      rw [hm1] at hr1
      rw [hm1]
      clear hl1 ho1 hseal hs
      go_wp2_with fail
      go_region_with ((first | (go_at_call 11; refine (seal_calls _ _ _ _ _ _ hr1.drew (ht.below hb1.drew) (by omega)).mono ?_; rintro e w2 ⟨v2, rfl, ho2, hb2⟩; obtain ⟨A2, c2, rfl, _, _, hr2⟩ := ho2.rd; have hcv := conv_string hr2 c2; have hpost := conv_string ((hr.below hb1).drew.below hb2) c) | (go_at_call 17; refine (wakes_calls _ (ht.below (belowThen hb1.drew hb1.size hb2))).mono ?_; rintro e w3 ⟨rfl, hb3⟩; have hpost3 := conv_string (((hr.below hb1).drew.below hb2).below hb3) c)))
      all_goals
        have hb12 := belowThen hb1 hb1.size ((Below.refl _ _).drew.trans hb2)
        have hb13 := belowThen hb12 hb12.size hb3
        go_wp2
        go_ret
        exact ⟨rfl, hb13⟩
    · go_enter Tryd.func5, Tryd.ntmps5
      go_wp2_with fail
      refine (weakD (open_bad A (m + 4) m c xs w _ hr rfl hc ht hs)).mono ?_
      rintro e w1 ⟨rfl, hb1⟩
      have h4' : ((20 : Int) == 4) = decide ((m : Int) + 4 < 4) := by simp; omega
      go_wp2_with fail
      refine (wakes_calls w1 (ht.below hb1)).mono ?_
      rintro e w2 ⟨rfl, hb2⟩
      have hb12 := belowThen hb1 hb1.size hb2
      go_wp2
      go_ret
      exact ⟨rfl, hb12⟩
end Go.Proofs.YtfnaklflkegafaaDoor
