/-
  The walk of TopoLess.
-/
import Derived.Test.YtgfnlfkbbedkaaaTpU
import Derived.Deep.CutBlock
namespace Go.Proofs.Ytgfnlfkbbedkaaa
open Go.RowKit
set_option linter.unusedVariables false
set_option linter.unusedSimpArgs false

set_option maxRecDepth 100000 in
set_option maxHeartbeats 16000000 in
theorem topoLess_walk (w : World) (A : Option Addr) (n c : Nat) (l : List (Nat × Nat)) (mm : Nat) (hr : Rd elU2 w (fun k => k < w.heap.size) A n l) (hc : n ≤ c) (hm : mm ≤ 255) :
    Calls Try.prog 5 #[.slice A n c, .int .u8 (mm : Int)] w fun e w' => e = .returned (.bool true) ∧ Below w.heap.size w w' := by
  have hbt := between_calls w A n c l hr
  have hfw := few_edges l
  have hel : (edgesB l).length ≤ 40 := by unfold edgesB; rw [List.length_map, List.length_take]; omega
  obtain ⟨es, hes⟩ : ∃ es, edgesB l = es := ⟨_, rfl⟩
  rw [hes] at hbt hfw hel
  have HFW := Lib.hid hfw
  clear hr hes hfw
  go_enter Try.func5, Try.ntmps5
  go_upto_region 2 with (go_at_call 9; refine hbt.mono ?_; rintro e w1 ⟨v1, rfl, hT1, b1⟩; obtain ⟨A1, n1, c1, B1, m1, d1, rfl, _, _, hTB⟩ := TBox.made hT1; have HB1 := Lib.hid b1; have HT1 := Lib.hid hTB; clear hT1 b1 hTB hbt)
  obtain ⟨w2, hw2⟩ : ∃ w2, w1.alloc (.cells #[.int .u64 1, .slice A1 n1 c1, .slice B1 m1 d1] 27) = w2 := ⟨_, rfl⟩
  have b2 : Below w1.heap.size w1 w2 := by rw [← hw2]; exact (Below.refl _ _).alloc (Nat.le_refl _) _
  have HB2 := Lib.hid (belowThen HB1.out HB1.out.size b2)
  rw [hw2] at HT1 ⊢
  obtain ⟨P, hP⟩ : ∃ P, w1.heap.size = P := ⟨_, rfl⟩
  rw [hP] at HT1 ⊢
  clear hP b2 hw2 HB1
  obtain ⟨b0, o0, C, p, q, rfl, rfl, hb0, hH0, hpq, hrd⟩ := HT1.out.first
  obtain ⟨c0, c1', c2⟩ := HT1.out.cells
  have hpl := hrd.len
  have HPL := Lib.hid hpl
  have hp40 : p ≤ 40 := by omega
  clear hpl hel
  rcases Nat.eq_zero_or_pos p with hp0 | hp0
  · subst hp0
    have hwk := wakes_calls w2
    clear hrd
    go_wp2_with fail
    refine hwk.mono ?_
    rintro e w8 ⟨rfl, b8⟩
    have HB8 := Lib.hid (belowThen HB2.out HB2.out.size b8)
    clear hwk b8
    go_wp2_with fail
    go_ret
    exact ⟨rfl, HB8.out⟩
  · have hpi : (p : Int) > 0 := by omega
    have hpe : ((p : Int) == 0) = false := by rw [beq_eq_false_iff_ne]; omega
    have hrem : (mm : Int) % (p : Int) = ((mm % p : Nat) : Int) := by omega
    obtain ⟨k, hk⟩ : ∃ k, mm % p = k := ⟨_, rfl⟩
    have hkp : k < p := by rw [← hk]; exact Nat.mod_lt _ hp0
    rw [hk] at hrem
    have hkpi : (k : Int) < (p : Int) := by omega
    have hk0 : (0 : Int) ≤ (k : Int) := by omega
    have hcp := copy_calls w2 _ 1 _ [es] HT1.out.tv HFW.out (by simp) (by simp)
    have HRD := Lib.hid hrd
    clear hk hrd
    go_upto_region 6 with (go_at_call 17; refine hcp.mono ?_; rintro e w3 ⟨v3, rfl, hT3, b3⟩; obtain ⟨AU, nU, cU, H, d, C2, p2, q2, rfl, hL1, _, _, hLH⟩ := T1.made hT3 (by simp) (by have := HPL.out; omega); have HB3 := Lib.hid b3; have HL1 := Lib.hid hL1; clear hT3 b3 hL1 hcp)
    obtain ⟨w4, hw4⟩ : ∃ w4, w3.alloc (.cells #[.int .u64 1, .slice AU nU cU, .slice (some ⟨H, 0, none⟩) 1 d] 27) = w4 := ⟨_, rfl⟩
    have b4 : Below w3.heap.size w3 w4 := by rw [← hw4]; exact (Below.refl _ _).alloc (Nat.le_refl _) _
    have HB4 := Lib.hid (belowThen HB3.out HB3.out.size b4)
    rw [hw4] at HL1 ⊢
    obtain ⟨P2, hP2⟩ : ∃ P2, w3.heap.size = P2 := ⟨_, rfl⟩
    rw [hP2] at HL1 ⊢
    clear hP2 b4 hw4 HB3
    obtain rfl : p2 = p := by have := HL1.out.re.len; have := HPL.out; omega
    obtain ⟨l0, l1, l2⟩ := HL1.out.cells
    have hle := HL1.out.edge
    have hlf := HL1.out.free
    have hleq := HL1.out.hpq
    have hlne := HL1.out.hne
    have hkf : decide ((p2 : Int) ≤ (k : Int)) = false := decide_eq_false (by omega)
    have hT4 : TBox w4 P A1 n1 c1 (some ⟨b0, o0, none⟩) 1 d1 1 (List.replicate 10 false) [es] := HT1.out.below HB4.out
    -- less.Hops[0] = append(less.Hops[0][:k:k], less.Hops[0][k+1:]...)
    obtain ⟨i0, hi0, hzz⟩ := Option.map_eq_some_iff.1 info_ed
    simp only [Prod.mk.injEq] at hzz
    obtain ⟨hz0, hz1, hz2⟩ := hzz
    have hA2 : C2 = none → p2 = 0 := fun e => by
      obtain ⟨b, o, e2, _⟩ := HL1.out.re.2.2 hp0
      rw [e] at e2; cases e2
    obtain ⟨D1, hD1, hN1, hR1⟩ := cutFullR (P := Try.prog) elEd 39 rfl (fun W => rfl) C2 p2 q2 k (by omega) hleq hA2
    obtain ⟨D2, hD2, hR2⟩ := cutFromR (P := Try.prog) elEd 39 rfl (fun W => rfl) C2 p2 q2 (k + 1) (by omega) hleq
    have hD2' : ∀ (kl : IntKind) (W' : World), (Instr.slice 39 (.slice C2 p2 q2) (some (.int kl ((k : Int) + 1))) none none).run Try.prog W' = .ok (.slice D2 (p2 - (k + 1)) (q2 - (k + 1))) W' := fun kl W' => hD2 kl W'
    have hw3 : IntKind.i64.wrap ((k : Int) + 1) = (k : Int) + 1 := IntWalk.i64_in _ ⟨by omega, by omega⟩
    have hre := HL1.out.re.below (Below.refl _ w4).drew
    obtain ⟨A3, c3, w5, hrun, hc3, hA3, hr3, hb5⟩ := run_app_full (E := elEd) (P := Try.prog) (W := w4.drew) 39 39 i0 _ 16 Try.underlying39 hi0 hz0 hz1 hz2 rfl (by decide) D1 k (hR1 _ _ _ hre) hN1 D2 (p2 - (k + 1)) (q2 - (k + 1)) (hR2 _ _ _ hre) (by unfold maxLen; omega) (by omega)
    have hb45 : Below w4.heap.size w4 w5 := stepB1 hb5
    have hL5 := HL1.out.below hb45
    have hlt4 := HL1.out.hlt
    have hL6 := hL5.put hc3 (hr3.mono fun x hx hl => by
      rcases hx with hx | hx
      · exact ⟨hl, hx.2⟩
      · have h4 : w4.drew.heap.size = w4.heap.size := rfl
        exact ⟨hl, by omega⟩)
    have x2 := hL5.cells.2.2
    have xf := hL5.free
    have xe := hL5.edge
    have y2 := hL6.cells.2.2
    obtain ⟨fs, hfs⟩ : ∃ fs, es.take k ++ es.drop (k + 1) = fs := ⟨_, rfl⟩
    obtain ⟨M, hM⟩ : ∃ M, k + (p2 - (k + 1)) = M := ⟨_, rfl⟩
    have hM40 : M ≤ 40 := by omega
    rw [hfs, hM] at hL6
    rw [hM] at hrun y2
    have HFS := Lib.hid hfs
    have HL6 := Lib.hid hL6
    have HRUN := Lib.hid hrun
    have hb6 : Below w4.heap.size w4 w5 := hb45
    have HB5 := Lib.hid hb45
    have HLH := Lib.hid hLH
    have HT4 := Lib.hid hT4
    have HIZ := Lib.hid hi0
    have HZ0 := Lib.hid hz0
    clear hL5 hL6 hr3 hb5 hre hR1 hR2 hrun hM hfs hD2 hb45 hb6 hT4 hLH hi0 hz0 c0 c1' l0 l1
    go_wp2_with fail
    go_cut [68] (fun s68 wx => wx = w5.setCell ⟨H, 0, none⟩ (.slice A3 M c3))
    case first =>
      refine wp_region_held_drew (S := fun w' => w'.cell? ⟨P2, 2, none⟩ = some (.slice (some ⟨H, 0, none⟩) 1 d)) (by kernel_rfl) (l2) (fun hHeld => ?_)
      refine wpAnyH_take (i := 0) (v := ?_) rfl (by kernel_rfl) (by kernel_rfl) (by kernel_rfl) (fun _ _ _ h => h) (Or.inl ⟨by rfl, ?_⟩) (by assumption) ?_
      rotate_left
      · (intro w hSw; (try dsimp only at hSw); go_simp; try with_reducible rfl)
      try simp only [Act.put, List.setIfInBounds_toArray, List.set_cons_zero, List.set_cons_succ]
      refine wpAnyH_take (i := 1) (v := ?_) rfl (by kernel_rfl) (by kernel_rfl) (by kernel_rfl) (fun _ _ _ h => h) (Or.inl ⟨by rfl, ?_⟩) (by assumption) ?_
      rotate_left
      · (intro w hSw; (try dsimp only at hSw); go_simp; try with_reducible rfl)
      try simp only [Act.put, List.setIfInBounds_toArray, List.set_cons_zero, List.set_cons_succ]
      refine wpAnyH_take (i := 2) (v := ?_) rfl (by kernel_rfl) (by kernel_rfl) (by kernel_rfl) (fun _ _ _ h => h) (Or.inl ⟨by rfl, ?_⟩) (by assumption) ?_
      rotate_left
      · (intro w hSw; (try dsimp only at hSw); go_simp; try with_reducible rfl)
      try simp only [Act.put, List.setIfInBounds_toArray, List.set_cons_zero, List.set_cons_succ]
      refine wpAnyH_take (i := 3) (v := ?_) rfl (by kernel_rfl) (by kernel_rfl) (by kernel_rfl) (fun _ _ _ h => h) (Or.inl ⟨by rfl, ?_⟩) (by assumption) ?_
      rotate_left
      · (intro w hSw; (try dsimp only at hSw); go_simp; try with_reducible rfl)
      try simp only [Act.put, List.setIfInBounds_toArray, List.set_cons_zero, List.set_cons_succ]
      refine wpAnyH_take (i := 4) (v := ?_) rfl (by kernel_rfl) (by kernel_rfl) (by kernel_rfl) (fun _ _ _ h => h) (Or.inl ⟨by rfl, ?_⟩) (by assumption) ?_
      rotate_left
      · (intro w hSw; (try dsimp only at hSw); go_simp; try with_reducible rfl)
      try simp only [Act.put, List.setIfInBounds_toArray, List.set_cons_zero, List.set_cons_succ]
      refine wpAnyH_take (i := 6) (v := ?_) rfl (by kernel_rfl) (by kernel_rfl) (by kernel_rfl) (fun _ _ _ h => h) (Or.inl ⟨by rfl, ?_⟩) (by assumption) ?_
      rotate_left
      · (intro w hSw; (try dsimp only at hSw); go_simp; try with_reducible rfl)
      try simp only [Act.put, List.setIfInBounds_toArray, List.set_cons_zero, List.set_cons_succ]
      refine wpAnyH_take (i := 7) (v := ?_) rfl (by kernel_rfl) (by kernel_rfl) (by kernel_rfl) (fun _ _ _ h => h) (Or.inl ⟨by rfl, ?_⟩) (by assumption) ?_
      rotate_left
      · (intro w hSw; (try dsimp only at hSw); go_simp; try with_reducible rfl)
      try simp only [Act.put, List.setIfInBounds_toArray, List.set_cons_zero, List.set_cons_succ]
      refine wpAnyH_take (i := 9) (v := ?_) rfl (by kernel_rfl) (by kernel_rfl) (by kernel_rfl) (fun _ _ _ h => h) (Or.inl ⟨by rfl, ?_⟩) (by assumption) ?_
      rotate_left
      · (intro w hSw; (try dsimp only at hSw); go_simp; try with_reducible rfl)
      try simp only [Act.put, List.setIfInBounds_toArray, List.set_cons_zero, List.set_cons_succ]
      refine wpAnyH_take (i := 10) (v := ?_) rfl (by kernel_rfl) (by kernel_rfl) (by kernel_rfl) (fun _ _ _ h => h) (Or.inl ⟨by rfl, ?_⟩) (by assumption) ?_
      rotate_left
      · (intro w hSw; (try dsimp only at hSw); go_simp; try with_reducible rfl)
      try simp only [Act.put, List.setIfInBounds_toArray, List.set_cons_zero, List.set_cons_succ]
      refine wpAnyH_take (i := 11) (v := ?_) rfl (by kernel_rfl) (by kernel_rfl) (by kernel_rfl) (fun _ _ _ h => h) (Or.inl ⟨by rfl, ?_⟩) (by assumption) ?_
      rotate_left
      · (intro w hSw; (try dsimp only at hSw); go_simp; try with_reducible rfl)
      try simp only [Act.put, List.setIfInBounds_toArray, List.set_cons_zero, List.set_cons_succ]
      refine wpAnyH_take (i := 13) (v := ?_) rfl (by kernel_rfl) (by kernel_rfl) (by kernel_rfl) (fun _ _ _ h => h) (Or.inl ⟨by rfl, ?_⟩) (by assumption) ?_
      rotate_left
      · (intro w hSw; (try dsimp only at hSw); go_simp; try with_reducible rfl)
      try simp only [Act.put, List.setIfInBounds_toArray, List.set_cons_zero, List.set_cons_succ]
      refine wpAnyH_take (i := 14) (v := ?_) rfl (by kernel_rfl) (by kernel_rfl) (by kernel_rfl) (fun _ _ _ h => h) (Or.inl ⟨by rfl, ?_⟩) (by assumption) ?_
      rotate_left
      · (intro w hSw; (try dsimp only at hSw); go_simp; try with_reducible rfl)
      try simp only [Act.put, List.setIfInBounds_toArray, List.set_cons_zero, List.set_cons_succ]
      refine wpAnyH_ready (rs := [5, 12]) (by kernel_rfl) (by simp) ?_
      refine (AllReadyH.cons rfl (fun K hK => ?_) (AllReadyH.cons rfl (fun K hK => ?_) AllReadyH.nil))
      · go_simp
        refine hK.out _ _ (l2) (fun hHeld => ?_)
        clear hK K
        try simp only [Act.put, List.setIfInBounds_toArray, List.set_cons_zero, List.set_cons_succ]
        refine wpAnyH_take (i := 8) (v := ?_) rfl (by kernel_rfl) (by kernel_rfl) (by kernel_rfl) (fun _ _ _ h => h) (Or.inl ⟨by rfl, ?_⟩) (by assumption) ?_
        rotate_left
        · (intro w hSw; (try dsimp only at hSw); go_simp; try with_reducible rfl)
        try simp only [Act.put, List.setIfInBounds_toArray, List.set_cons_zero, List.set_cons_succ]
        refine wpAnyH_ready (rs := [12]) (by kernel_rfl) (by simp) ?_
        refine (AllReadyH.cons rfl (fun K hK => ?_) AllReadyH.nil)
        go_simp
        refine hK.out _ _ (l2) (fun hHeld => ?_)
        clear hK K
        try simp only [Act.put, List.setIfInBounds_toArray, List.set_cons_zero, List.set_cons_succ]
        refine wpAnyH_take (i := 15) (v := ?_) rfl (by kernel_rfl) (by kernel_rfl) (by kernel_rfl) (fun _ _ _ h => h) (Or.inl ⟨by rfl, ?_⟩) (by assumption) ?_
        rotate_left
        · (intro w hSw; (try dsimp only at hSw); go_simp; try with_reducible rfl)
        try simp only [Act.put, List.setIfInBounds_toArray, List.set_cons_zero, List.set_cons_succ]
        refine wpAnyH_ready (rs := [16]) (by kernel_rfl) (by simp) ?_
        refine (AllReadyH.cons rfl (fun K hK => ?_) AllReadyH.nil)
        refine stepRunL (by rfl) _ _ 39 (by rfl) (.slice D1 k k) (.slice D2 (p2 - (k + 1)) (q2 - (k + 1))) (.slice A3 M c3) (by go_simp) (by go_simp) HRUN.out ?_
        refine hK.out _ _ (x2) (fun hHeld => ?_)
        clear hK K
        try simp only [Act.put, List.setIfInBounds_toArray, List.set_cons_zero, List.set_cons_succ]
        refine wpAnyH_ready (rs := [17]) (by kernel_rfl) (by simp) ?_
        refine (AllReadyH.cons rfl (fun K hK => ?_) AllReadyH.nil)
        go_simp
        refine hK.out _ _ (x2) (fun hHeld => ?_)
        clear hK K
        try simp only [Act.put, List.setIfInBounds_toArray, List.set_cons_zero, List.set_cons_succ]
        refine wpAnyH_ready (rs := [18]) (by kernel_rfl) (by simp) ?_
        refine (AllReadyH.cons rfl (fun K hK => ?_) AllReadyH.nil)
        go_simp
        refine hK.out _ _ (y2) (fun hHeld => ?_)
        clear hK K
        try simp only [Act.put, List.setIfInBounds_toArray, List.set_cons_zero, List.set_cons_succ]
        refine wpAnyH_done (by kernel_rfl) ?_ _
        go_wp2_with fail
        go_meet
        exact rfl
      · go_simp
        refine hK.out _ _ (l2) (fun hHeld => ?_)
        clear hK K
        try simp only [Act.put, List.setIfInBounds_toArray, List.set_cons_zero, List.set_cons_succ]
        refine wpAnyH_take (i := 15) (v := ?_) rfl (by kernel_rfl) (by kernel_rfl) (by kernel_rfl) (fun _ _ _ h => h) (Or.inl ⟨by rfl, ?_⟩) (by assumption) ?_
        rotate_left
        · (intro w hSw; (try dsimp only at hSw); go_simp; try with_reducible rfl)
        try simp only [Act.put, List.setIfInBounds_toArray, List.set_cons_zero, List.set_cons_succ]
        refine wpAnyH_ready (rs := [5]) (by kernel_rfl) (by simp) ?_
        refine (AllReadyH.cons rfl (fun K hK => ?_) AllReadyH.nil)
        go_simp
        refine hK.out _ _ (l2) (fun hHeld => ?_)
        clear hK K
        try simp only [Act.put, List.setIfInBounds_toArray, List.set_cons_zero, List.set_cons_succ]
        refine wpAnyH_take (i := 8) (v := ?_) rfl (by kernel_rfl) (by kernel_rfl) (by kernel_rfl) (fun _ _ _ h => h) (Or.inl ⟨by rfl, ?_⟩) (by assumption) ?_
        rotate_left
        · (intro w hSw; (try dsimp only at hSw); go_simp; try with_reducible rfl)
        try simp only [Act.put, List.setIfInBounds_toArray, List.set_cons_zero, List.set_cons_succ]
        refine wpAnyH_ready (rs := [16]) (by kernel_rfl) (by simp) ?_
        refine (AllReadyH.cons rfl (fun K hK => ?_) AllReadyH.nil)
        refine stepRunL (by rfl) _ _ 39 (by rfl) (.slice D1 k k) (.slice D2 (p2 - (k + 1)) (q2 - (k + 1))) (.slice A3 M c3) (by go_simp) (by go_simp) HRUN.out ?_
        refine hK.out _ _ (x2) (fun hHeld => ?_)
        clear hK K
        try simp only [Act.put, List.setIfInBounds_toArray, List.set_cons_zero, List.set_cons_succ]
        refine wpAnyH_ready (rs := [17]) (by kernel_rfl) (by simp) ?_
        refine (AllReadyH.cons rfl (fun K hK => ?_) AllReadyH.nil)
        go_simp
        refine hK.out _ _ (x2) (fun hHeld => ?_)
        clear hK K
        try simp only [Act.put, List.setIfInBounds_toArray, List.set_cons_zero, List.set_cons_succ]
        refine wpAnyH_ready (rs := [18]) (by kernel_rfl) (by simp) ?_
        refine (AllReadyH.cons rfl (fun K hK => ?_) AllReadyH.nil)
        go_simp
        refine hK.out _ _ (y2) (fun hHeld => ?_)
        clear hK K
        try simp only [Act.put, List.setIfInBounds_toArray, List.set_cons_zero, List.set_cons_succ]
        refine wpAnyH_done (by kernel_rfl) ?_ _
        go_wp2_with fail
        go_meet
        exact rfl
    case rest =>
      have hw6 : ∃ w6, w5.setCell ⟨H, 0, none⟩ (.slice A3 M c3) = w6 := ⟨_, rfl⟩
      have hchg : Chg (fun x => x = H) w5 (w5.setCell ⟨H, 0, none⟩ (.slice A3 M c3)) := Chg.set w5 ⟨H, 0, none⟩ _
      have hHl : w2.heap.size ≤ H := HLH.out
      have hb26 : Below w2.heap.size w2 (w5.setCell ⟨H, 0, none⟩ (.slice A3 M c3)) := (belowThen HB4.out HB4.out.size HB5.out).setCell (p := ⟨H, 0, none⟩) hHl _
      obtain ⟨w6, hw6⟩ := hw6
      rw [hw6] at hb26 HL6
      rw [hw6] at hcut
      subst hcut
      have HB26 := Lib.hid hb26
      have HLB := Lib.hid (HL6.out.box)
      have hfsub : ∀ e ∈ fs, e ∈ es := by rw [← HFS.out]; exact less_mem es k
      have HSUB := Lib.hid hfsub
      have HFF : Hid (Few [fs]) := Lib.hid (few_one (by
        have h1 := HL6.out.re.len
        omega))
      have HH0 := Lib.hid hH0
      clear hw6 hchg hb26 hfsub x2 xf xe y2 hrem hle hlf l2 hN1 hA3 hA2 hD1 hD2' hw3 c2 hH0
      go_wp2_with fail
      have hw2c : w2.heap.size ≤ wc.heap.size := HB26.out.size
      go_loopg [8] 10 (fun gg s8 wx => ∃ a : Nat, a ≤ 10 ∧ 10 - a ≤ gg ∧ s8 = .int .i64 (a : Int) ∧ Hid (Below wc.heap.size wc wx))
      case atStart => exact ⟨0, by omega, by omega, rfl, Lib.hid (Below.refl _ _)⟩
      case round =>
        obtain ⟨a, ha, hga, rfl, HX⟩ := hrel
        have HTr := Lib.hid (HT1.out.below (belowThen HB26.out HB26.out.size HX.out))
        have HLr := Lib.hid (HLB.out.below HX.out)
        by_cases hlt : a < 10
        · have hlti : (a : Int) < 10 := by omega
          obtain ⟨t0, t1, t2⟩ := HTr.out.cells
          obtain ⟨l0, l1, l2⟩ := HLr.out.cells
          have hr1 := HTr.out.drew.reach HFW.out 0 (a : Int) (by decide)
          go_wp2_with fail
          go_region_held3 (fun w' => w'.cell? ⟨P, 0, none⟩ = some (.int .u64 1) ∧ w'.cell? ⟨P, 1, none⟩ = some (.slice A1 n1 c1) ∧ w'.cell? ⟨P, 2, none⟩ = some (.slice (some ⟨b0, o0, none⟩) 1 d1) ∧ w'.cell? ⟨P2, 0, none⟩ = some (.int .u64 1) ∧ w'.cell? ⟨P2, 1, none⟩ = some (.slice AU nU cU) ∧ w'.cell? ⟨P2, 2, none⟩ = some (.slice (some ⟨H, 0, none⟩) 1 d))
            (first | exact ⟨t0, t1, t2, l0, l1, l2⟩ | exact ⟨HT8.out.cells.1, HT8.out.cells.2.1, HT8.out.cells.2.2, HL8.out.cells.1, HL8.out.cells.2.1, HL8.out.cells.2.2⟩ | exact ⟨HT9.out.cells.1, HT9.out.cells.2.1, HT9.out.cells.2.2, HL9.out.cells.1, HL9.out.cells.2.1, HL9.out.cells.2.2⟩)
            (first
            | (go_at_call 12; (with_reducible refine hr1.mono ?_); rintro e w8 ⟨rl, hx1, hx2, v8, rfl, hO8, b8⟩; obtain ⟨A8, N8, c8, rfl, hc8, hR8, hm8⟩ := hO8.row; have HT8 := Lib.hid (HTr.out.drew.below b8); have HL8 := Lib.hid (HLr.out.drew.below b8); have hr2 := HL8.out.reach HFF.out 0 (a : Int) (by decide); have HR8 := Lib.hid hR8; have B8 := Lib.hid (stepB1 b8); have HX2 := Lib.hid hx2; clear hO8 hR8 b8 hx1 hx2)
            | (go_at_call 12; (with_reducible refine hr2.mono ?_); rintro e w9 ⟨rl2, hy1, hy2, v9, rfl, hO9, b9⟩; obtain ⟨A9, N9, c9, rfl, hc9, hR9, hm9⟩ := hO9.row; have HT9 := Lib.hid (HT8.out.below b9); have HL9 := Lib.hid (HL8.out.below b9); have HR9 := Lib.hid hR9; have B9 := Lib.hid b9; have HY2 := Lib.hid hy2; clear hO9 hR9 b9 hy1 hy2))
          clear hr1 hr2
          have HR89 := Lib.hid (HR8.out.below B9.out)
          have HX9 := Lib.hid (belowThen (belowThen HX.out HX.out.size B8.out) (by have := HX.out.size; have := B8.out.size; omega) B9.out)
          clear t0 t1 t2 l0 l1 l2
          go_wp2_with fail
          go_loopg [11] N9 (fun g2 s11 wi => ∃ i : Nat, i ≤ N9 ∧ N9 - i ≤ g2 ∧ s11 = .int .i64 (i : Int) ∧ wi = w9)
          case atStart => exact ⟨0, by omega, by omega, rfl, rfl⟩
          case round =>
            obtain ⟨i, hi, hgi, rfl, rfl⟩ := hrel
            by_cases hil : i < N9
            · have hili : (i : Int) < (N9 : Int) := by omega
              have hi0 : (0 : Int) ≤ (i : Int) := by omega
              obtain ⟨bx, ox, rfl, hbx, hcx⟩ := HR9.out.at_ i hil
              obtain ⟨x, hx⟩ : ∃ x, rl2[i]?.getD 0 = x := ⟨_, rfl⟩
              rw [hx] at hcx
              have hxm : x ∈ rl2 := by
                have : i < rl2.length := by rw [HR9.out.len]; exact hil
                rw [List.getElem?_eq_getElem this] at hx
                rw [← hx]
                exact List.getElem_mem this
              have hh := RowI.has HR89.out c8 x true (decide_eq_true ((HX2.out x).2 (reach_sub HSUB.out ((HY2.out x).1 hxm))))
              have hh2 := has_calls _ _ A8 N8 c8 rl x HR89.out
              rw [decide_eq_true ((HX2.out x).2 (reach_sub HSUB.out ((HY2.out x).1 hxm)))] at hh2
              clear hx hxm hh
              go_wp2_with fail
              refine hh2.mono ?_
              rintro e wk ⟨rfl, rfl⟩
              clear hh2
              go_wp2_with fail
              go_roundg (N9 - (i + 1))
              case measure => omega
              case rel => exact ⟨i + 1, by omega, by omega, by go_num, rfl⟩
            · have hili : ¬ ((i : Int) < (N9 : Int)) := by omega
              go_wp2_with fail
              go_roundg (10 - (a + 1))
              case measure => omega
              case rel => exact ⟨a + 1, by omega, by omega, by go_num, HX9⟩
        · have hlti : ¬ ((a : Int) < 10) := by omega
          obtain ⟨t0, t1, t2⟩ := HTr.out.cells
          obtain ⟨ro, hro⟩ : ∃ ro, orderOf es = ro := ⟨_, rfl⟩
          obtain ⟨rf, hrf⟩ : ∃ rf, orderOf fs = rf := ⟨_, rfl⟩
          have hcase : (errOf ro = 0 ∧ errOf rf = 0) ∨ errOf ro = 1 := by
            cases ro with
            | none => exact .inr rfl
            | some o =>
              obtain ⟨o', ho'⟩ := order_less HSUB.out hro
              rw [hrf] at ho'
              subst ho'
              exact .inl ⟨rfl, rfl⟩
          have ho1 := HTr.out.orderX HFW.out ro hro
          have HRO := Lib.hid hro
          have HRF := Lib.hid hrf
          obtain ⟨x1, hx1⟩ : ∃ x1, errOf ro = x1 := ⟨_, rfl⟩
          obtain ⟨x2, hx2⟩ : ∃ x2, errOf rf = x2 := ⟨_, rfl⟩
          have HX1 := Lib.hid hx1
          have HX2 := Lib.hid hx2
          rw [hx1, hx2] at hcase
          clear hro hrf hx1 hx2
          go_wp2_with fail
          refine ho1.mono ?_
          rintro e w8 ⟨A8, N8, c8, rfl, hR8, b8⟩
          rw [HX1.out]
          have HB8 := Lib.hid (belowThen HX.out HX.out.size b8)
          have HL8 := Lib.hid (HLr.out.below b8)
          obtain ⟨l0, l1, l2⟩ := HL8.out.cells
          have ho2 := HL8.out.orderX HFF.out rf HRF.out
          clear ho1 t0 t1 t2 b8 hR8
          go_wp2_with fail
          refine ho2.mono ?_
          rintro e w9 ⟨A9, N9, c9, rfl, hR9, b9⟩
          rw [HX2.out]
          have HB9 := Lib.hid (belowThen HB8.out HB8.out.size b9)
          have HL9 := Lib.hid (HL8.out.below b9)
          have HLX := Lib.hid (HL6.out.below HB9.out)
          clear ho2 l0 l1 l2 b9 hR9 HL8 HB8
          obtain ⟨l0, l1, l2⟩ := HL9.out.cells
          have hcp2 := copy_calls w9 _ 1 _ [fs] HL9.out.tv HFF.out (by simp) (by simp)
          have HCP2 := Lib.hid hcp2
          clear hcp2
          rcases hcase with ⟨rfl, rfl⟩ | rfl
          all_goals
            have hcp2 := HCP2.out
            go_upto_region 23 with (go_at_call 17; refine hcp2.mono ?_; rintro e w10 ⟨v10, rfl, hT10, b10⟩; obtain ⟨AV, nV, cV, H3, d3, C3, p3, q3, rfl, hL3, hE3, hU3, hH3⟩ := T1.made hT10 (by simp) (by have := HLX.out.re.len; omega); have HB10 := Lib.hid b10; have HL3 := Lib.hid hL3; have HE3 := Lib.hid hE3; have HU3 := Lib.hid hU3; clear hT10 b10 hL3 hE3 hU3 hcp2)
            obtain ⟨w11, hw11⟩ : ∃ w11, w10.alloc (.cells #[.int .u64 1, .slice AV nV cV, .slice (some ⟨H3, 0, none⟩) 1 d3] 27) = w11 := ⟨_, rfl⟩
            have b11 : Below w10.heap.size w10 w11 := by rw [← hw11]; exact (Below.refl _ _).alloc (Nat.le_refl _) _
            have hs11 : w11.heap.size = w10.heap.size + 1 := by rw [← hw11]; simp
            have hb911 := belowThen HB10.out HB10.out.size b11
            rw [hw11] at HL3 HE3 HU3 ⊢
            obtain ⟨P3, hP3⟩ : ∃ P3, w10.heap.size = P3 := ⟨_, rfl⟩
            rw [hP3] at HL3 HE3 HU3 ⊢
            have HP3 := Lib.hid hP3
            have hwc9 := HB9.out.size
            have hb211 := belowThen (belowThen HB26.out HB26.out.size HB9.out) (by omega) hb911
            have HT11 := Lib.hid (HT1.out.below hb211)
            obtain ⟨t0, t1, t2⟩ := HT11.out.cells
            obtain ⟨g0, g1, g2⟩ := HL3.out.cells
            have hge := HL3.out.edge
            have hgf := HL3.out.free
            have hgne := HL3.out.hne
            have hgl := HL3.out.lt
            have hghl := HL3.out.hlt
            have hfl := HLX.out.re.len
            have h3l := HL3.out.re.len
            have hHz : w11.cell? ⟨b0, o0, none⟩ = some (.slice C p2 q) := cellBelow hb211 HH0.out
            have hrdz := HRD.out.below hb211
            have hpl2 := HPL.out
            obtain ⟨u, hu⟩ : ∃ u, es[k]? = some u := ⟨_, List.getElem?_eq_getElem (by omega)⟩
            obtain ⟨u1, u2⟩ := u
            obtain ⟨be, oe, vse, rfl, hbe, _, hVe, hcle⟩ := hrdz.at_ k _ hu
            obtain ⟨rfl, hin1, hin2⟩ := ed_open hVe
            have e0 : w11.cell? ⟨be, oe + k * 2, none⟩ = some (.int .i64 u1) := hcle 0 _ rfl
            have e1 : w11.cell? ⟨be, oe + k * 2 + 1, none⟩ = some (.int .i64 u2) := hcle 1 _ rfl
            simp only at hin1 hin2
            obtain ⟨W, hW⟩ : ∃ W, (w11.alloc (.cells #[.int .i64 u1, .int .i64 u2] 42)).drew = W := ⟨_, rfl⟩
            have hbW : Below w11.heap.size w11 W := by rw [← hW]; exact ((Below.refl _ _).alloc (Nat.le_refl _) _).drew
            have hsW : W.heap.size = w11.heap.size + 1 := by rw [← hW]; show (w11.alloc _).heap.size = _; simp
            have hcW : ∀ j u, [Value.int .i64 u1, .int .i64 u2][j]? = some u → W.cell? ((⟨w11.heap.size, 0, none⟩ : Addr).add j) = some u := by rw [← hW]; exact newCells w11 #[.int .i64 u1, .int .i64 u2] 42 (0, 0)
            obtain ⟨v12, w12, hrun2, ho12, hg12, hv12⟩ := Own.app (E := elEd) (P := Try.prog) 39 39 i0 _ 16 Try.underlying39 HIZ.out HZ0.out hz1 hz2 rfl (by decide) (HE3.out.below hbW) ⟨w11.heap.size, 0, none⟩ _ (u1, u2) (ed_mk _ _ hin1 hin2) hcW (by unfold maxLen; omega) (by omega) 1
            have hel12 := HE3.out.lt
            have hD : Chg (fun x => some x = (Value.slice C3 p3 q3).ownBlock) w11 w12 := (Chg.ofBelow (S := fun x => some x = (Value.slice C3 p3 q3).ownBlock) hbW).trans (Chg.ofGrown hg12) fun _ _ h => h
            have hgl12 : (fs ++ [(u1, u2)]).length ≤ 41 := by rw [List.length_append, List.length_singleton]; omega
            obtain ⟨A12, c12, e12, hc12, hr12⟩ := ho12.rd (by omega)
            obtain ⟨N12, hN12⟩ : ∃ N12, (fs ++ [(u1, u2)]).length = N12 := ⟨_, rfl⟩
            rw [hN12] at e12 hc12 hr12
            subst e12
            have hDP : ∀ x, some x = (Value.slice C3 p3 q3).ownBlock → x ≠ P3 ∧ x ≠ H3 ∧ ¬ (w9.heap.size ≤ x ∧ x < P3 ∧ x ≠ H3 ∧ (Value.slice AV nV cV).ownBlock = some x) := fun x hx => by
              have h1 := (hel12 x hx.symm).1
              exact ⟨by omega, h1.2.2.1, fun hh => h1.2.2.2 hh.2.2.2⟩
            have hG : T1 (w12.setCell ⟨H3, 0, none⟩ (.slice A12 N12 c12)) P3 AV nV cV H3 d3 A12 N12 c12 1 (List.replicate 10 false) (fs ++ [(u1, u2)]) :=
              HL3.out.chg HU3.out (fun x hx => hx.2.2.1) (by simp) hD hDP hc12 (hr12.mono fun x hx hl => by
                rcases hx with hx | hx
                · exact ⟨hl, hx.2.2.1⟩
                · exact ⟨hl, by omega⟩)
            have hold : ∀ (a : Addr) (v : Value), a.block < w9.heap.size → w11.cell? a = some v → w12.cell? a = some v := fun a v ha hv => hD.cell hv fun hx => by have := (hel12 a.block hx.symm).1.1; omega
            have hsub9 : w2.heap.size ≤ w9.heap.size := by omega
            have hb212 : Below w2.heap.size w2 (w12.setCell ⟨H3, 0, none⟩ (.slice A12 N12 c12)) := (hD.below hb211 hb211.size fun x hx => by have := (hel12 x hx.symm).1.1; omega).setCell (p := ⟨H3, 0, none⟩) (by show w2.heap.size ≤ H3; omega) _
            have n2 : w12.cell? ⟨P3, 2, none⟩ = some (.slice (some ⟨H3, 0, none⟩) 1 d3) := hD.cell g2 fun hx => (hDP P3 hx).1 rfl
            have nt : w12.cell? ⟨P, 2, none⟩ = some (.slice (some ⟨b0, o0, none⟩) 1 d1) := hold _ _ (by have := HT1.out.lt; show P < _; omega) t2
            have hbo0 : b0 < w9.heap.size := by omega
            have nh : w12.cell? ⟨b0, o0, none⟩ = some (.slice (some ⟨be, oe, none⟩) p2 q) := hold _ _ hbo0 hHz
            have hbe9 : be < w9.heap.size := by omega
            have n0 : w12.cell? ⟨be, oe + k * 2, none⟩ = some (.int .i64 u1) := hold _ _ hbe9 e0
            have n1 : w12.cell? ⟨be, oe + k * 2 + 1, none⟩ = some (.int .i64 u2) := hold _ _ hbe9 e1
            have hne0 : w12.cell? ⟨H3, 0, none⟩ = some (.slice C3 p3 q3) := hD.cell hge fun hx => (hDP H3 hx).2.1 rfl
            have hnf : w12.frozen? ⟨H3, 0, none⟩ = false := by
              unfold World.frozen? at hgf ⊢
              rw [hD.block H3 hghl fun hx => (hDP H3 hx).2.1 rfl]
              exact hgf
            have HS := Chg.set w12 ⟨H3, 0, none⟩ (.slice A12 N12 c12)
            have s2 := HS.cell n2 fun hx => hgne (Eq.symm hx)
            have st := HS.cell nt fun hx => by have e : P = H3 := hx; have := HT1.out.lt; omega
            have sh := HS.cell nh fun hx => by have e : b0 = H3 := hx; omega
            have s0 := HS.cell n0 fun hx => by have e : be = H3 := hx; omega
            have s1 := HS.cell n1 fun hx => by have e : be = H3 := hx; omega
            obtain ⟨gs, hgs⟩ : ∃ gs, fs ++ [(u1, u2)] = gs := ⟨_, rfl⟩
            have hgm : ∀ e, e ∈ gs ↔ e ∈ es := by rw [← hgs, ← HFS.out]; exact again_mem es k _ hu
            rw [hgs] at hG hgl12
            have HG := Lib.hid hG
            have HGM := Lib.hid hgm
            have HGF : Hid (Few [gs]) := Lib.hid (few_one (by omega))
            have HRUN2 := Lib.hid hrun2
            have HWW := Lib.hid hW
            have HB212 := Lib.hid hb212
            have hkl2 : (k : Int) < (p2 : Int) := by omega
            have f0 := cellBelow hbW g2
            have f1 := cellBelow hbW t2
            have f2 := cellBelow hbW hHz
            have f3 := cellBelow hbW e0
            have f4 := cellBelow hbW e1
            have f5 := cellBelow hbW hge
            clear hG hgm hgs hrun2 hW hb212 hu hcle hVe hrdz hpl2 hfl h3l hDP hold hN12 ho12 hg12 hv12 hr12 hel12 hD HS hcW hbW hsW hs11 hgl12 b11 hw11 hP3 hb911 hb211
            go_cut [125] (fun s125 wx => wx = w12.setCell ⟨H3, 0, none⟩ (.slice A12 N12 c12))
            case first =>
              go_wp2_with fail
              refine wp_region_held_drew (S := fun w' => w'.cell? ⟨P3, 2, none⟩ = some (.slice (some ⟨H3, 0, none⟩) 1 d3) ∧ w'.cell? ⟨P, 2, none⟩ = some (.slice (some ⟨b0, o0, none⟩) 1 d1) ∧ w'.cell? ⟨b0, o0, none⟩ = some (.slice (some ⟨be, oe, none⟩) p2 q) ∧ w'.cell? ⟨be, oe + k * 2, none⟩ = some (.int .i64 u1) ∧ w'.cell? ⟨be, oe + k * 2 + 1, none⟩ = some (.int .i64 u2)) (by kernel_rfl) (⟨g2, t2, hHz, e0, e1⟩) (fun hHeld => ?_)
              refine wpAnyH_take (i := 0) (v := ?_) rfl (by kernel_rfl) (by kernel_rfl) (by kernel_rfl) (fun _ _ _ h => h) (Or.inl ⟨by rfl, ?_⟩) (by assumption) ?_
              rotate_left
              · (intro w hSw; (try dsimp only at hSw); go_simp; try with_reducible rfl)
              try simp only [Act.put, List.setIfInBounds_toArray, List.set_cons_zero, List.set_cons_succ]
              refine wpAnyH_take (i := 1) (v := ?_) rfl (by kernel_rfl) (by kernel_rfl) (by kernel_rfl) (fun _ _ _ h => h) (Or.inl ⟨by rfl, ?_⟩) (by assumption) ?_
              rotate_left
              · (intro w hSw; (try dsimp only at hSw); go_simp; try with_reducible rfl)
              try simp only [Act.put, List.setIfInBounds_toArray, List.set_cons_zero, List.set_cons_succ]
              refine wpAnyH_take (i := 2) (v := ?_) rfl (by kernel_rfl) (by kernel_rfl) (by kernel_rfl) (fun _ _ _ h => h) (Or.inl ⟨by rfl, ?_⟩) (by assumption) ?_
              rotate_left
              · (intro w hSw; (try dsimp only at hSw); go_simp; try with_reducible rfl)
              try simp only [Act.put, List.setIfInBounds_toArray, List.set_cons_zero, List.set_cons_succ]
              refine wpAnyH_take (i := 3) (v := ?_) rfl (by kernel_rfl) (by kernel_rfl) (by kernel_rfl) (fun _ _ _ h => h) (Or.inl ⟨by rfl, ?_⟩) (by assumption) ?_
              rotate_left
              · (intro w hSw; (try dsimp only at hSw); go_simp; try with_reducible rfl)
              try simp only [Act.put, List.setIfInBounds_toArray, List.set_cons_zero, List.set_cons_succ]
              refine wpAnyH_take (i := 4) (v := ?_) rfl (by kernel_rfl) (by kernel_rfl) (by kernel_rfl) (fun _ _ _ h => h) (Or.inl ⟨by rfl, ?_⟩) (by assumption) ?_
              rotate_left
              · (intro w hSw; (try dsimp only at hSw); go_simp; try with_reducible rfl)
              try simp only [Act.put, List.setIfInBounds_toArray, List.set_cons_zero, List.set_cons_succ]
              refine wpAnyH_take (i := 6) (v := ?_) rfl (by kernel_rfl) (by kernel_rfl) (by kernel_rfl) (fun _ _ _ h => h) (Or.inl ⟨by rfl, ?_⟩) (by assumption) ?_
              rotate_left
              · (intro w hSw; (try dsimp only at hSw); go_simp; try with_reducible rfl)
              try simp only [Act.put, List.setIfInBounds_toArray, List.set_cons_zero, List.set_cons_succ]
              refine wpAnyH_take (i := 7) (v := ?_) rfl (by kernel_rfl) (by kernel_rfl) (by kernel_rfl) (fun _ _ _ h => h) (Or.inl ⟨by rfl, ?_⟩) (by assumption) ?_
              rotate_left
              · (intro w hSw; (try dsimp only at hSw); go_simp; try with_reducible rfl)
              try simp only [Act.put, List.setIfInBounds_toArray, List.set_cons_zero, List.set_cons_succ]
              refine wpAnyH_take (i := 8) (v := ?_) rfl (by kernel_rfl) (by kernel_rfl) (by kernel_rfl) (fun _ _ _ h => h) (Or.inl ⟨by rfl, ?_⟩) (by assumption) ?_
              rotate_left
              · (intro w hSw; (try dsimp only at hSw); go_simp; try with_reducible rfl)
              try simp only [Act.put, List.setIfInBounds_toArray, List.set_cons_zero, List.set_cons_succ]
              refine wpAnyH_take (i := 9) (v := ?_) rfl (by kernel_rfl) (by kernel_rfl) (by kernel_rfl) (fun _ _ _ h => h) (Or.inl ⟨by rfl, ?_⟩) (by assumption) ?_
              rotate_left
              · (intro w hSw; (try dsimp only at hSw); go_simp; try with_reducible rfl)
              try simp only [Act.put, List.setIfInBounds_toArray, List.set_cons_zero, List.set_cons_succ]
              refine wpAnyH_take (i := 10) (v := ?_) rfl (by kernel_rfl) (by kernel_rfl) (by kernel_rfl) (fun _ _ _ h => h) (Or.inl ⟨by rfl, ?_⟩) (by assumption) ?_
              rotate_left
              · (intro w hSw; (try dsimp only at hSw); go_simp; try with_reducible rfl)
              try simp only [Act.put, List.setIfInBounds_toArray, List.set_cons_zero, List.set_cons_succ]
              refine wpAnyH_take (i := 11) (v := ?_) rfl (by kernel_rfl) (by kernel_rfl) (by kernel_rfl) (fun _ _ _ h => h) (Or.inl ⟨by rfl, ?_⟩) (by assumption) ?_
              rotate_left
              · (intro w hSw; (try dsimp only at hSw); go_simp; try with_reducible rfl)
              try simp only [Act.put, List.setIfInBounds_toArray, List.set_cons_zero, List.set_cons_succ]
              refine wpAnyH_take (i := 12) (v := ?_) rfl (by kernel_rfl) (by kernel_rfl) (by kernel_rfl) (fun _ _ _ h => h) (Or.inl ⟨by rfl, ?_⟩) (by assumption) ?_
              rotate_left
              · (intro w hSw; (try dsimp only at hSw); go_simp; try with_reducible rfl)
              try simp only [Act.put, List.setIfInBounds_toArray, List.set_cons_zero, List.set_cons_succ]
              refine wpAnyH_ready (rs := [5, 13]) (by kernel_rfl) (by simp) ?_
              refine (AllReadyH.cons rfl (fun K hK => ?_) (AllReadyH.cons rfl (fun K hK => ?_) AllReadyH.nil))
              · go_simp
                refine hK.out _ _ (⟨g2, t2, hHz, e0, e1⟩) (fun hHeld => ?_)
                clear hK K
                try simp only [Act.put, List.setIfInBounds_toArray, List.set_cons_zero, List.set_cons_succ]
                refine wpAnyH_ready (rs := [13]) (by kernel_rfl) (by simp) ?_
                refine (AllReadyH.cons rfl (fun K hK => ?_) AllReadyH.nil)
                go_simp
                refine hK.out _ _ (by rw [HWW.out]; exact ⟨f0, f1, f2, f3, f4⟩) (fun hHeld => ?_)
                clear hK K
                try simp only [Act.put, List.setIfInBounds_toArray, List.set_cons_zero, List.set_cons_succ]
                refine wpAnyH_ready (rs := [14]) (by kernel_rfl) (by simp) ?_
                refine (AllReadyH.cons rfl (fun K hK => ?_) AllReadyH.nil)
                refine stepRunL (by rfl) _ _ 39 (by rfl) (.slice C3 p3 q3) (.slice (some ⟨w11.heap.size, 0, none⟩) 1 1) (.slice A12 N12 c12) (by go_simp) (by go_simp) (by rw [HWW.out]; exact HRUN2.out) ?_
                refine hK.out _ _ (⟨n2, nt, nh, n0, n1⟩) (fun hHeld => ?_)
                clear hK K
                try simp only [Act.put, List.setIfInBounds_toArray, List.set_cons_zero, List.set_cons_succ]
                refine wpAnyH_ready (rs := [15]) (by kernel_rfl) (by simp) ?_
                refine (AllReadyH.cons rfl (fun K hK => ?_) AllReadyH.nil)
                go_simp
                refine hK.out _ _ (⟨n2, nt, nh, n0, n1⟩) (fun hHeld => ?_)
                clear hK K
                try simp only [Act.put, List.setIfInBounds_toArray, List.set_cons_zero, List.set_cons_succ]
                refine wpAnyH_ready (rs := [16]) (by kernel_rfl) (by simp) ?_
                refine (AllReadyH.cons rfl (fun K hK => ?_) AllReadyH.nil)
                go_simp
                refine hK.out _ _ (⟨s2, st, sh, s0, s1⟩) (fun hHeld => ?_)
                clear hK K
                try simp only [Act.put, List.setIfInBounds_toArray, List.set_cons_zero, List.set_cons_succ]
                refine wpAnyH_done (by kernel_rfl) ?_ _
                go_wp2_with fail
                go_meet
                exact rfl
              · go_simp
                refine hK.out _ _ (by rw [HWW.out]; exact ⟨f0, f1, f2, f3, f4⟩) (fun hHeld => ?_)
                clear hK K
                try simp only [Act.put, List.setIfInBounds_toArray, List.set_cons_zero, List.set_cons_succ]
                refine wpAnyH_ready (rs := [5]) (by kernel_rfl) (by simp) ?_
                refine (AllReadyH.cons rfl (fun K hK => ?_) AllReadyH.nil)
                go_simp
                refine hK.out _ _ (by rw [HWW.out]; exact ⟨f0, f1, f2, f3, f4⟩) (fun hHeld => ?_)
                clear hK K
                try simp only [Act.put, List.setIfInBounds_toArray, List.set_cons_zero, List.set_cons_succ]
                refine wpAnyH_ready (rs := [14]) (by kernel_rfl) (by simp) ?_
                refine (AllReadyH.cons rfl (fun K hK => ?_) AllReadyH.nil)
                refine stepRunL (by rfl) _ _ 39 (by rfl) (.slice C3 p3 q3) (.slice (some ⟨w11.heap.size, 0, none⟩) 1 1) (.slice A12 N12 c12) (by go_simp) (by go_simp) (by rw [HWW.out]; exact HRUN2.out) ?_
                refine hK.out _ _ (⟨n2, nt, nh, n0, n1⟩) (fun hHeld => ?_)
                clear hK K
                try simp only [Act.put, List.setIfInBounds_toArray, List.set_cons_zero, List.set_cons_succ]
                refine wpAnyH_ready (rs := [15]) (by kernel_rfl) (by simp) ?_
                refine (AllReadyH.cons rfl (fun K hK => ?_) AllReadyH.nil)
                go_simp
                refine hK.out _ _ (⟨n2, nt, nh, n0, n1⟩) (fun hHeld => ?_)
                clear hK K
                try simp only [Act.put, List.setIfInBounds_toArray, List.set_cons_zero, List.set_cons_succ]
                refine wpAnyH_ready (rs := [16]) (by kernel_rfl) (by simp) ?_
                refine (AllReadyH.cons rfl (fun K hK => ?_) AllReadyH.nil)
                go_simp
                refine hK.out _ _ (⟨s2, st, sh, s0, s1⟩) (fun hHeld => ?_)
                clear hK K
                try simp only [Act.put, List.setIfInBounds_toArray, List.set_cons_zero, List.set_cons_succ]
                refine wpAnyH_done (by kernel_rfl) ?_ _
                go_wp2_with fail
                go_meet
                exact rfl
            case rest =>
              clear g0 g1 g2 t0 t1 t2 hHz e0 e1 f0 f1 f2 f3 f4 f5 n2 nt nh n0 n1 hne0 hnf s2 st sh s0 s1 hge hgf HRUN2 HWW
              obtain ⟨wd, hwd⟩ : ∃ wd, w12.setCell ⟨H3, 0, none⟩ (.slice A12 N12 c12) = wd := ⟨_, rfl⟩
              rw [hwd] at hcut HG HB212
              obtain ⟨wz, hwz⟩ : ∃ wz, wz = wd := ⟨_, rfl⟩
              rw [← hwz] at hcut HG HB212
              clear hwd hwz
              subst hcut
              have HTd := Lib.hid (HT1.out.below HB212.out)
              have HGd := Lib.hid (HG.out.box)
              obtain ⟨t0, t1, t2⟩ := HTd.out.cells
              have ho3 := HTd.out.orderX HFW.out ro HRO.out
              go_wp2_with fail
              refine ho3.mono ?_
              rintro e w14 ⟨A14, N14, c14, rfl, hR14, b14⟩
              rw [HX1.out]
              have HG14 := Lib.hid (HGd.out.below b14)
              have HT14 := Lib.hid (HTd.out.below b14)
              have HR14 := Lib.hid hR14
              have HB14 := Lib.hid (belowThen HB212.out HB212.out.size b14)
              have ho4 := HG14.out.orderX HGF.out ro (by rw [order_ext HGM.out]; exact HRO.out)
              clear ho3 t0 t1 t2 b14 hR14
              obtain ⟨g0, g1, g2⟩ := HG14.out.cells
              go_wp2_with fail
              refine ho4.mono ?_
              rintro e w15 ⟨A15, N15, c15, rfl, hR15, b15⟩
              rw [HX1.out]
              have HG15 := Lib.hid (HG14.out.below b15)
              have HT15 := Lib.hid (HT14.out.below b15)
              have HR15 := Lib.hid hR15
              have HR145 := Lib.hid (HR14.out.below b15)
              have HB15 := Lib.hid (belowThen HB14.out HB14.out.size b15)
              clear ho4 g0 g1 g2 b15 hR15
              go_wp2_with fail
              go_loopg [19] 10 (fun gg s19 wx => ∃ a : Nat, a ≤ 10 ∧ 10 - a ≤ gg ∧ s19 = .int .i64 (a : Int) ∧ Hid (Below w15.heap.size w15 wx))
              case atStart => exact ⟨0, by omega, by omega, rfl, Lib.hid (Below.refl _ _)⟩
              case round =>
                obtain ⟨a, ha, hga, rfl, HY⟩ := hrel
                have HTy := Lib.hid (HT15.out.below HY.out)
                have HGy := Lib.hid (HG15.out.below HY.out)
                by_cases hlt : a < 10
                · have hlti : (a : Int) < 10 := by omega
                  obtain ⟨t0, t1, t2⟩ := HTy.out.cells
                  obtain ⟨g0, g1, g2⟩ := HGy.out.cells
                  have hr1 := HGy.out.drew.reach HGF.out 0 (a : Int) (by decide)
                  go_wp2_with fail
                  go_region_held3 (fun w' => w'.cell? ⟨P3, 0, none⟩ = some (.int .u64 1) ∧ w'.cell? ⟨P3, 1, none⟩ = some (.slice AV nV cV) ∧ w'.cell? ⟨P3, 2, none⟩ = some (.slice (some ⟨H3, 0, none⟩) 1 d3) ∧ w'.cell? ⟨P, 0, none⟩ = some (.int .u64 1) ∧ w'.cell? ⟨P, 1, none⟩ = some (.slice A1 n1 c1) ∧ w'.cell? ⟨P, 2, none⟩ = some (.slice (some ⟨b0, o0, none⟩) 1 d1))
                    (first | exact ⟨g0, g1, g2, t0, t1, t2⟩ | exact ⟨HG16.out.cells.1, HG16.out.cells.2.1, HG16.out.cells.2.2, HT16.out.cells.1, HT16.out.cells.2.1, HT16.out.cells.2.2⟩ | exact ⟨HG17.out.cells.1, HG17.out.cells.2.1, HG17.out.cells.2.2, HT17.out.cells.1, HT17.out.cells.2.1, HT17.out.cells.2.2⟩ | exact ⟨HG18.out.cells.1, HG18.out.cells.2.1, HG18.out.cells.2.2, HT18.out.cells.1, HT18.out.cells.2.1, HT18.out.cells.2.2⟩)
                    (first
                    | (go_at_call 12; (with_reducible refine hr1.mono ?_); rintro e w16 ⟨rl, hx1, hx2, v16, rfl, hO16, b16⟩; obtain ⟨A16, N16, c16, rfl, hc16, hR16, hm16⟩ := hO16.row; have HT16 := Lib.hid (HTy.out.drew.below b16); have HG16 := Lib.hid (HGy.out.drew.below b16); have hr2 := HT16.out.reach HFW.out 0 (a : Int) (by decide); have HR16 := Lib.hid hR16; have B16 := Lib.hid (stepB1 b16); have HX3 := Lib.hid hx1; have HX4 := Lib.hid hx2; clear hO16 hR16 b16 hx1 hx2)
                    | (go_at_call 12; (with_reducible refine hr2.mono ?_); rintro e w17 ⟨rl2, hy1, hy2, v17, rfl, hO17, b17⟩; obtain rfl := rows_ext HGM.out HX3.out HX4.out hy1 hy2; obtain ⟨A17, N17, c17, rfl, hc17, hR17, hm17⟩ := hO17.row; have HT17 := Lib.hid (HT16.out.below b17); have HG17 := Lib.hid (HG16.out.below b17); have hsm := weakD (same_calls w17 (fun _ => True) (fun _ => True) A16 A17 N16 c16 N17 c17 rl rl (HR16.out.below b17) hR17); rw [decide_eq_true rfl] at hsm; have B17 := Lib.hid b17; clear hO17 hR17 b17 hy1 hy2)
                    | (go_at_call 18; (with_reducible refine hsm.mono ?_); rintro e w18 ⟨rfl, b18⟩; have HT18 := Lib.hid (HT17.out.below b18); have HG18 := Lib.hid (HG17.out.below b18); have B18 := Lib.hid b18; clear b18))
                  clear hr1 hr2 hsm
                  have HY8 := Lib.hid (belowThen (belowThen (belowThen HY.out HY.out.size B16.out) (by have := HY.out.size; have := B16.out.size; omega) B17.out) (by have := HY.out.size; have := B16.out.size; have := B17.out.size; omega) B18.out)
                  go_wp2_with fail
                  go_roundg (10 - (a + 1))
                  case measure => omega
                  case rel => exact ⟨a + 1, by omega, by omega, by go_num, HY8⟩
                · have hlti : ¬ ((a : Int) < 10) := by omega
                  have hsm := weakD (same_calls wr (fun _ => True) (fun _ => True) A14 A15 N14 c14 N15 c15 _ _ (HR145.out.below HY.out) (HR15.out.below HY.out))
                  rw [decide_eq_true rfl] at hsm
                  go_wp2_with fail
                  refine hsm.mono ?_
                  rintro e w16 ⟨rfl, b16⟩
                  have hwk := wakes_calls w16
                  have HY16 := Lib.hid (belowThen HY.out HY.out.size b16)
                  clear hsm b16
                  go_wp2_with fail
                  refine hwk.mono ?_
                  rintro e w17 ⟨rfl, b17⟩
                  have HY17 := Lib.hid (belowThen HY16.out HY16.out.size b17)
                  clear hwk b17
                  go_wp2_with fail
                  go_ret
                  exact ⟨rfl, belowThen HB2.out HB2.out.size (belowThen HB15.out HB15.out.size HY17.out)⟩
end Go.Proofs.Ytgfnlfkbbedkaaa
