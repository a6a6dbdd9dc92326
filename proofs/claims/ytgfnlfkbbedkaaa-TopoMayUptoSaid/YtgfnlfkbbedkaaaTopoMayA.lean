/-
  TopoMay cut into declarations: the joint: its loops.
-/
import Derived.Test.YtgfnlfkbbedkaaaTpAd
import Derived.Deep.CutBlock
namespace Go.Proofs.Ytgfnlfkbbedkaaa
open Go.RowKit
set_option linter.unusedVariables false
set_option linter.unusedSimpArgs false

def TMSaid : Prop := ∀ (w : World) (A : Option Addr) (n c : Nat) (l : List (Nat × Nat)) (mm ep : Nat) (hr : Rd elU2 w (fun k => k < w.heap.size) A n l) (hc : n ≤ c) (hm : mm ≤ 255) (hep : ep ≤ 18446744073709551615),
  Calls Try.prog 7 #[.slice A n c, .int .u8 (mm : Int), .int .u64 (ep : Int)] w fun e w' => e = .returned (.bool true) ∧ Below w.heap.size w w'
set_option maxRecDepth 100000 in
set_option maxHeartbeats 16000000 in
noncomputable def cutTMA : PSigma fun p : Nat → Prop => (∀ i, p i) → TMSaid := by
  apply PSigma.mk
  case snd =>
    intro hCutP w A n c l mm ep hr hc hm hep
    have hln := hr.len
    have hmx := hr.max
    have HR := Lib.hid hr
    clear hr
    go_enter Try.func7, Try.ntmps7
    go_upto_region 2 with (fail)
    obtain ⟨w1, hw1⟩ : ∃ w1, ((w.alloc (.cells #[.int .i64 9] 3)).alloc (.cells #[.int .i64 2, .int .i64 3, .int .i64 0, .slice (some ⟨w.heap.size, 0, none⟩) 1 1] 46)).alloc (.cells #[.int .i64 10, .slice (some ⟨w.heap.size + 1, 0, none⟩) 1 1, .int .i64 4, .int .i64 4] 49) = w1 := ⟨_, rfl⟩
    obtain ⟨hCB, hb1⟩ := CBox.made w w1 hw1
    rw [hw1]
    have HCB := Lib.hid hCB
    have HB1 := Lib.hid hb1
    have hbt := between_nil w1
    clear hw1 hCB hb1
    go_upto_region 3 with (go_at_call 9; refine hbt.mono ?_; rintro e w2 ⟨PU, PH, rfl, hPU, hPH, hne, hbu, hbh, b2⟩)
    obtain ⟨w3, hw3⟩ : ∃ w3, w2.alloc (.cells #[.int .u64 1, .slice (some ⟨PU, 0, none⟩) 10 10, .slice (some ⟨PH, 0, none⟩) 1 1] 27) = w3 := ⟨_, rfl⟩
    have b3 : Below w2.heap.size w2 w3 := by rw [← hw3]; exact (Below.refl _ _).alloc (Nat.le_refl _) _
    have hlu := (Array.getElem?_eq_some_iff.1 hbu).1
    have hlh := (Array.getElem?_eq_some_iff.1 hbh).1
    have hs2 := b2.size
    have hbt3 : w3.heap[w2.heap.size]? = some (.cells #[.int .u64 1, .slice (some ⟨PU, 0, none⟩) 10 10, .slice (some ⟨PH, 0, none⟩) 1 1] 27 (0, 0)) := by rw [← hw3]; exact heap_alloc_new w2 _
    have hMT : MT w1 w3 w2.heap.size PU PH (.slice none 0 0) (upN 0) := ⟨belowThen b2 b2.size b3, ⟨hs2, by omega, by omega⟩, ⟨by omega, by omega, hne⟩, hbt3, (b3.block _ hlu).trans hbu, (b3.block _ hlh).trans hbh⟩
    rw [hw3]
    obtain ⟨P, hP⟩ : ∃ P, w2.heap.size = P := ⟨_, rfl⟩
    rw [hP] at hMT ⊢
    have HMT := Lib.hid hMT
    obtain ⟨Q, hQ⟩ : ∃ Q, w.heap.size + 2 = Q := ⟨_, rfl⟩
    obtain ⟨F, hF⟩ : ∃ F, w.heap.size + 1 = F := ⟨_, rfl⟩
    try rw [hQ] at HCB ⊢
    rw [hF] at HCB
    obtain ⟨i0, hi0, hzz⟩ := Option.map_eq_some_iff.1 info_ed
    simp only [Prod.mk.injEq] at hzz
    obtain ⟨hz0, hz1, hz2⟩ := hzz
    have HIZ := Lib.hid hi0
    have HZ0 := Lib.hid hz0
    have HW1 : Hid (w.heap.size ≤ w1.heap.size) := Lib.hid HB1.out.size
    clear hi0 hz0 hbt hPU hPH hne hbu hbh b2 hw3 b3 hlu hlh hs2 hbt3 hMT hP hQ hF
    go_wp2_with fail
    go_loopg [9] 10 (fun gg s9 wx => ∃ (a : Nat) (ev : Value) (L : List Ed), a ≤ 10 ∧ 10 - a ≤ gg ∧ s9 = .int .i64 (a : Int) ∧ Hid (MT w1 wx P PU PH ev (upN a)) ∧ Hid (Own elEd 42 wx (fun k => w1.heap.size ≤ k ∧ k ≠ P ∧ k ≠ PU ∧ k ≠ PH) ev L) ∧ Hid (MInv L a (a + 1)))
    case atStart => exact ⟨0, .slice none 0 0, [], by omega, by omega, rfl, HMT, Lib.hid (Own.nil _ _ _ _), Lib.hid MInv.init⟩
    case round =>
      clear HMT
      obtain ⟨a, ev, L, ha, hga, rfl, HT, HO, HI⟩ := hrel
      by_cases hlt : a < 10
      · have hlti : (a : Int) < 10 := by omega
        have ha0 : (0 : Int) ≤ (a : Int) := by omega
        obtain ⟨f0, f1, f2, f3, f4, f5⟩ := HT.out.facts
        have fz := f5 a
        have fu := HT.out.node a (by rw [upN_len a ha]; exact hlt)
        have hMT2 := HT.out.up a true
        rw [upN_set a hlt] at hMT2
        have hO2 : Own elEd 42 (wr.setCell ⟨PU, a, none⟩ (.bool true)) (fun k => w1.heap.size ≤ k ∧ k ≠ P ∧ k ≠ PU ∧ k ≠ PH) ev L := HO.out.chg (Chg.set wr ⟨PU, a, none⟩ _) fun k _ hk e => hk.2.2.1 e
        have HT2 := Lib.hid hMT2
        have HO2 := Lib.hid hO2
        clear hMT2 hO2 f5
        go_wp2_with fail
        go_loopg [10] 10 (fun g2 s10 wx => ∃ (m : Nat) (ev : Value) (L : List Ed), a + 1 ≤ m ∧ m ≤ 10 ∧ 10 - m ≤ g2 ∧ s10 = .int .i64 (m : Int) ∧ Hid (MT w1 wx P PU PH ev (upN (a + 1))) ∧ Hid (Own elEd 42 wx (fun k => w1.heap.size ≤ k ∧ k ≠ P ∧ k ≠ PU ∧ k ≠ PH) ev L) ∧ Hid (MInv L a m))
        case atStart => exact ⟨a + 1, ev, L, by omega, by omega, by omega, by go_num, HT2, HO2, HI⟩
        case round =>
          clear HT HO HI HT2 HO2 f0 f1 f2 f3 f4 fz fu
          obtain ⟨m, ev, L, ham, hm10, hgm, rfl, HT, HO, HI⟩ := hrel
          by_cases hmt : m < 10
          · have hmti : (m : Int) < 10 := by omega
            go_wp2_with fail
            go_loopg [12, 11] n (fun g3 s12 s11 wi => ∃ (i : Nat) (b : Bool), i ≤ n ∧ i ≤ 40 ∧ n - i ≤ g3 ∧ s12 = .int .i64 (i : Int) ∧ s11 = .bool b ∧ wi = wr)
            case atStart => exact ⟨0, false, by omega, by omega, by omega, rfl, rfl, rfl⟩
            case round =>
              obtain ⟨i, b, hin, hi40, hg3, rfl, rfl, hwi⟩ := hrel
              subst hwi
              by_cases hgo : i < n ∧ i < 40
              · obtain ⟨hil, hil4⟩ := hgo
                have hili : (i : Int) < (n : Int) := by omega
                have hili4 : (i : Int) < 40 := by omega
                have hi0' : (0 : Int) ≤ (i : Int) := by omega
                cases b with
                | true =>
                  go_wp2_with fail
                  go_roundg (n - (i + 1))
                  case measure => omega
                  case rel => exact ⟨i + 1, true, by omega, by omega, by omega, by go_num, rfl, rfl⟩
                | false =>
                  obtain ⟨x, hx⟩ : ∃ x, l[i]? = some x := ⟨_, List.getElem?_eq_getElem (by omega)⟩
                  have hwb := (belowThen HB1.out HB1.out.size HT.out.bel)
                  have hrr : Rd elU2 wr (fun k => k < w.heap.size) A n l := HR.out.keep hwb.size fun k hk _ => hwb.block k hk
                  obtain ⟨bb, oo, vs, rfl, hbb, _, hV, hcl⟩ := hrr.at_ i x hx
                  obtain ⟨x1, x2⟩ := x
                  obtain ⟨us, ws, rfl, ⟨rfl, hx1⟩, rfl, hx2⟩ := hV
                  have k0 : wr.cell? ⟨bb, oo + i * 2, none⟩ = some (.int .u8 (x1 : Int)) := hcl 0 _ rfl
                  have k1 : wr.cell? ⟨bb, oo + i * 2 + 1, none⟩ = some (.int .u8 (x2 : Int)) := hcl 1 _ rfl
                  simp only at hx1 hx2
                  obtain ⟨y1, hy1⟩ : ∃ y1, x1 % 10 = y1 := ⟨_, rfl⟩
                  obtain ⟨y2, hy2⟩ : ∃ y2, x2 % 10 = y2 := ⟨_, rfl⟩
                  have m1 : (x1 : Int) % 10 = (y1 : Int) := by omega
                  have m2 : (x2 : Int) % 10 = (y2 : Int) := by omega
                  have m3 : (x1 : Int).tmod 10 = (y1 : Int) := by rw [Int.tmod_eq_emod_of_nonneg (by omega)]; exact m1
                  have m4 : (x2 : Int).tmod 10 = (y2 : Int) := by rw [Int.tmod_eq_emod_of_nonneg (by omega)]; exact m2
                  have u1 : IntKind.i64.wrap (y1 : Int) = (y1 : Int) := IntWalk.i64_in _ ⟨by omega, by omega⟩
                  have u2 : IntKind.i64.wrap (y2 : Int) = (y2 : Int) := IntWalk.i64_in _ ⟨by omega, by omega⟩
                  obtain ⟨r1, hr1⟩ : ∃ r1, ((y1 : Int) == (a : Int)) = r1 := ⟨_, rfl⟩
                  obtain ⟨r2, hr2⟩ : ∃ r2, ((y2 : Int) == (m : Int)) = r2 := ⟨_, rfl⟩
                  clear hcl hrr hwb hy1 hy2 hx
                  cases r1 with
                  | false =>
                    go_wp2_with fail
                    go_roundg (n - (i + 1))
                    case measure => omega
                    case rel => exact ⟨i + 1, _, by omega, by omega, by omega, by go_num, rfl, rfl⟩
                  | true =>
                    go_wp2_with fail
                    go_roundg (n - (i + 1))
                    case measure => omega
                    case rel => exact ⟨i + 1, _, by omega, by omega, by omega, by go_num, rfl, rfl⟩
              · have hcases : i = n ∨ (i < n ∧ i = 40) := by omega
                have hL := HI.out.len
                have HFW : Hid (Few [L]) := Lib.hid (few_one (by omega))
                obtain ⟨A1, c1, e1, hc1, hR1⟩ := HO.out.rd (by omega)
                obtain ⟨N1, hN1⟩ : ∃ N1, L.length = N1 := ⟨_, rfl⟩
                rw [hN1] at e1 hc1 hR1
                subst e1
                have HN1 := Lib.hid hN1
                have HTB := Lib.hid (HT.out.box (upN_len (a + 1) (by omega)) hc1 hR1)
                obtain ⟨f0, f1, f2, f3, f4, f5⟩ := HT.out.facts
                have hnx := HTB.out.next HFW.out 0 (a : Int) (by decide)
                have HNX := Lib.hid hnx
                clear f5 hN1 hR1 hL hnx
                obtain ⟨X, hX⟩ : ∃ X : Prop, X = ((i : Int) < (n : Int) ∧ (i : Int) < 40) := ⟨_, rfl⟩
                clear hX X
                rcases hcases with rfl | ⟨hil, rfl⟩
                all_goals
                  cases b with
                  | false =>
                    go_wp2_with fail
                    go_roundg (10 - (m + 1))
                    case measure => omega
                    case rel => exact ⟨m + 1, _, L, by omega, by omega, by omega, by go_num, HT, HO, Lib.hid HI.out.skip⟩
                  | true =>
                    have hnx := HNX.out
                    go_wp2_with fail
                    refine hnx.mono ?_
                    rintro e w8 ⟨v8, rfl, hO8, b8⟩
                    have hle8 := hO8
                    obtain ⟨A8, N8, c8, rfl, hc8, hR8, hm8⟩ := hO8.row
                    have hl8 := hR8.len
                    have HT8 := Lib.hid (HT.out.below b8)
                    have HO8 := Lib.hid (HO.out.below b8)
                    have H8L := Lib.hid hl8
                    clear hnx hR8 hle8 b8 hl8
                    by_cases h8 : N8 < 8
                    · have h8i : (N8 : Int) < 8 := by omega
                      go_upto_region 16 with (fail)
                      obtain ⟨f0, f1, f2, f3, f4, f5⟩ := HT8.out.facts
                      obtain ⟨W, hW⟩ : ∃ W, (w8.alloc (.cells #[.int .i64 (a : Int), .int .i64 (m : Int)] 42)).drew = W := ⟨_, rfl⟩
                      have hbW : Below w8.heap.size w8 W := by rw [← hW]; exact ((Below.refl _ _).alloc (Nat.le_refl _) _).drew
                      have hsW : W.heap.size = w8.heap.size + 1 := by rw [← hW]; show (w8.alloc _).heap.size = _; simp
                      have hcW : ∀ j u, [Value.int .i64 (a : Int), .int .i64 (m : Int)][j]? = some u → W.cell? ((⟨w8.heap.size, 0, none⟩ : Addr).add j) = some u := by rw [← hW]; exact newCells w8 #[.int .i64 (a : Int), .int .i64 (m : Int)] 42 (0, 0)
                      have hL := HI.out.len
                      have hNL := HN1.out
                      obtain ⟨v12, w12, hrun2, ho12, hg12, hv12⟩ := Own.app (E := elEd) (P := Try.prog) 39 39 i0 _ 16 Try.underlying39 HIZ.out HZ0.out hz1 hz2 rfl (by decide) (HO8.out.below hbW) ⟨w8.heap.size, 0, none⟩ _ ((a : Int), (m : Int)) (ed_mk _ _ ⟨by omega, by omega⟩ ⟨by omega, by omega⟩) hcW (by unfold maxLen; omega) (by omega) 1
                      have hel := HO8.out.lt
                      have hsz8 := HT8.out.bel.size
                      have hMT12 : MT w1 w12 P PU PH (.slice A1 N1 c1) (upN (a + 1)) := (HT8.out.below hbW).chg (Chg.ofGrown hg12) fun k hk => (hel k hk.symm).1
                      obtain ⟨A12, c12, e12, hc12, hr12⟩ := ho12.rd (by rw [List.length_append, List.length_singleton]; omega)
                      obtain ⟨N12, hN12⟩ : ∃ N12, (L ++ [((a : Int), (m : Int))]).length = N12 := ⟨_, rfl⟩
                      rw [hN12] at e12
                      subst e12
                      obtain ⟨q0, q1, q2, q3, q4, q5⟩ := hMT12.facts
                      have hput := hMT12.put (.slice A12 N12 c12)
                      obtain ⟨s0, s1, s2, s3, s4, s5⟩ := hput.facts
                      have hown : Own elEd 42 (w12.setCell ⟨PH, 0, none⟩ (.slice A12 N12 c12)) (fun k => w1.heap.size ≤ k ∧ k ≠ P ∧ k ≠ PU ∧ k ≠ PH) (.slice A12 N12 c12) (L ++ [((a : Int), (m : Int))]) := by
                        have hpt := (Array.getElem?_eq_some_iff.1 (HT8.out.below hbW).bt).1
                        have hpu := (Array.getElem?_eq_some_iff.1 (HT8.out.below hbW).bu).1
                        have hph := (Array.getElem?_eq_some_iff.1 (HT8.out.below hbW).bh).1
                        have ho2 : Own elEd 42 w12 (fun k => w1.heap.size ≤ k ∧ k ≠ P ∧ k ≠ PU ∧ k ≠ PH) (.slice A12 N12 c12) (L ++ [((a : Int), (m : Int))]) := ho12.mono fun k hl hk => by
                          rcases hk with hk | hk
                          · exact hk
                          · omega
                        exact ho2.chg (Chg.set w12 ⟨PH, 0, none⟩ _) fun k _ hk e => hk.2.2.2 e
                      have hinv := HI.out.add (by omega) (by omega) (by rw [H8L.out]; exact h8)
                      have HPUT := Lib.hid hput
                      have HOWN := Lib.hid hown
                      have HINV := Lib.hid hinv
                      have HRUN2 := Lib.hid hrun2
                      have HWW := Lib.hid hW
                      have F2 := cellBelow hbW f2
                      have hPl := (Array.getElem?_eq_some_iff.1 HT8.out.bt).1
                      have hPHl := (Array.getElem?_eq_some_iff.1 HT8.out.bh).1
                      clear hput hown hinv hrun2 hW ho12 hg12 hv12 hel hMT12 hr12 hN12 hcW hsW hbW hL hNL q5 s5 f5 s0 s1 s3 s4 q0 q1
                      go_wp2_with fail
                      refine wp_region_held_drew (S := fun w' => w'.cell? ⟨P, 2, none⟩ = some (.slice (some ⟨PH, 0, none⟩) 1 1)) (by kernel_rfl) (f2) (fun hHeld => ?_)
                      refine wpAnyH_take (i := 0) (v := ?_) rfl (by kernel_rfl) (by kernel_rfl) (by kernel_rfl) (fun _ _ _ h => h) (Or.inl ⟨by rfl, ?_⟩) (by assumption) ?_
                      rotate_left
                      · (intro w hSw; (try dsimp only at hSw); go_simp; try with_reducible rfl)
                      try simp only [Act.put, List.setIfInBounds_toArray, List.set_cons_zero, List.set_cons_succ]
                      refine wpAnyH_take (i := 1) (v := ?_) rfl (by kernel_rfl) (by kernel_rfl) (by kernel_rfl) (fun _ _ _ h => h) (Or.inl ⟨by rfl, ?_⟩) (by assumption) ?_
                      rotate_left
                      · (intro w hSw; (try dsimp only at hSw); go_simp; try with_reducible rfl)
                      try simp only [Act.put, List.setIfInBounds_toArray, List.set_cons_zero, List.set_cons_succ]
                      refine wpAnyH_take (i := 2) (v := ?_) rfl (by kernel_rfl) (by kernel_rfl) (by kernel_rfl) (fun _ _ _ h => h) (Or.inl ⟨by rfl, ?_⟩) (by assumption) ?_
                      rotate_left
                      · (intro w hSw; (try dsimp only at hSw); go_simp; try with_reducible rfl)
                      try simp only [Act.put, List.setIfInBounds_toArray, List.set_cons_zero, List.set_cons_succ]
                      refine wpAnyH_take (i := 3) (v := ?_) rfl (by kernel_rfl) (by kernel_rfl) (by kernel_rfl) (fun _ _ _ h => h) (Or.inl ⟨by rfl, ?_⟩) (by assumption) ?_
                      rotate_left
                      · (intro w hSw; (try dsimp only at hSw); go_simp; try with_reducible rfl)
                      try simp only [Act.put, List.setIfInBounds_toArray, List.set_cons_zero, List.set_cons_succ]
                      refine wpAnyH_take (i := 4) (v := ?_) rfl (by kernel_rfl) (by kernel_rfl) (by kernel_rfl) (fun _ _ _ h => h) (Or.inl ⟨by rfl, ?_⟩) (by assumption) ?_
                      rotate_left
                      · (intro w hSw; (try dsimp only at hSw); go_simp; try with_reducible rfl)
                      try simp only [Act.put, List.setIfInBounds_toArray, List.set_cons_zero, List.set_cons_succ]
                      refine wpAnyH_take (i := 6) (v := ?_) rfl (by kernel_rfl) (by kernel_rfl) (by kernel_rfl) (fun _ _ _ h => h) (Or.inl ⟨by rfl, ?_⟩) (by assumption) ?_
                      rotate_left
                      · (intro w hSw; (try dsimp only at hSw); go_simp; try with_reducible rfl)
                      try simp only [Act.put, List.setIfInBounds_toArray, List.set_cons_zero, List.set_cons_succ]
                      refine wpAnyH_take (i := 7) (v := ?_) rfl (by kernel_rfl) (by kernel_rfl) (by kernel_rfl) (fun _ _ _ h => h) (Or.inl ⟨by rfl, ?_⟩) (by assumption) ?_
                      rotate_left
                      · (intro w hSw; (try dsimp only at hSw); go_simp; try with_reducible rfl)
                      try simp only [Act.put, List.setIfInBounds_toArray, List.set_cons_zero, List.set_cons_succ]
                      refine wpAnyH_take (i := 8) (v := ?_) rfl (by kernel_rfl) (by kernel_rfl) (by kernel_rfl) (fun _ _ _ h => h) (Or.inl ⟨by rfl, ?_⟩) (by assumption) ?_
                      rotate_left
                      · (intro w hSw; (try dsimp only at hSw); go_simp; try with_reducible rfl)
                      try simp only [Act.put, List.setIfInBounds_toArray, List.set_cons_zero, List.set_cons_succ]
                      refine wpAnyH_ready (rs := [5, 9]) (by kernel_rfl) (by simp) ?_
                      refine (AllReadyH.cons rfl (fun K hK => ?_) (AllReadyH.cons rfl (fun K hK => ?_) AllReadyH.nil))
                      · go_simp
                        refine hK.out _ _ (f2) (fun hHeld => ?_)
                        clear hK K
                        try simp only [Act.put, List.setIfInBounds_toArray, List.set_cons_zero, List.set_cons_succ]
                        refine wpAnyH_ready (rs := [9]) (by kernel_rfl) (by simp) ?_
                        refine (AllReadyH.cons rfl (fun K hK => ?_) AllReadyH.nil)
                        go_simp
                        refine hK.out _ _ (by rw [HWW.out]; exact F2) (fun hHeld => ?_)
                        clear hK K
                        try simp only [Act.put, List.setIfInBounds_toArray, List.set_cons_zero, List.set_cons_succ]
                        refine wpAnyH_ready (rs := [10]) (by kernel_rfl) (by simp) ?_
                        refine (AllReadyH.cons rfl (fun K hK => ?_) AllReadyH.nil)
                        refine stepRunL (by rfl) _ _ 39 (by rfl) (.slice A1 N1 c1) (.slice (some ⟨w8.heap.size, 0, none⟩) 1 1) (.slice A12 N12 c12) (by go_simp) (by go_simp) (by rw [HWW.out]; exact HRUN2.out) ?_
                        refine hK.out _ _ (q2) (fun hHeld => ?_)
                        clear hK K
                        try simp only [Act.put, List.setIfInBounds_toArray, List.set_cons_zero, List.set_cons_succ]
                        refine wpAnyH_ready (rs := [11]) (by kernel_rfl) (by simp) ?_
                        refine (AllReadyH.cons rfl (fun K hK => ?_) AllReadyH.nil)
                        go_simp
                        refine hK.out _ _ (q2) (fun hHeld => ?_)
                        clear hK K
                        try simp only [Act.put, List.setIfInBounds_toArray, List.set_cons_zero, List.set_cons_succ]
                        refine wpAnyH_ready (rs := [12]) (by kernel_rfl) (by simp) ?_
                        refine (AllReadyH.cons rfl (fun K hK => ?_) AllReadyH.nil)
                        go_simp
                        refine hK.out _ _ (s2) (fun hHeld => ?_)
                        clear hK K
                        try simp only [Act.put, List.setIfInBounds_toArray, List.set_cons_zero, List.set_cons_succ]
                        refine wpAnyH_done (by kernel_rfl) ?_ _
                        go_wp2_with fail
                        go_roundg (10 - (m + 1))
                        case measure => omega
                        case rel => exact ⟨m + 1, _, _, by omega, by omega, by omega, by go_num, HPUT, HOWN, HINV⟩
                      · go_simp
                        refine hK.out _ _ (by rw [HWW.out]; exact F2) (fun hHeld => ?_)
                        clear hK K
                        try simp only [Act.put, List.setIfInBounds_toArray, List.set_cons_zero, List.set_cons_succ]
                        refine wpAnyH_ready (rs := [5]) (by kernel_rfl) (by simp) ?_
                        refine (AllReadyH.cons rfl (fun K hK => ?_) AllReadyH.nil)
                        go_simp
                        refine hK.out _ _ (by rw [HWW.out]; exact F2) (fun hHeld => ?_)
                        clear hK K
                        try simp only [Act.put, List.setIfInBounds_toArray, List.set_cons_zero, List.set_cons_succ]
                        refine wpAnyH_ready (rs := [10]) (by kernel_rfl) (by simp) ?_
                        refine (AllReadyH.cons rfl (fun K hK => ?_) AllReadyH.nil)
                        refine stepRunL (by rfl) _ _ 39 (by rfl) (.slice A1 N1 c1) (.slice (some ⟨w8.heap.size, 0, none⟩) 1 1) (.slice A12 N12 c12) (by go_simp) (by go_simp) (by rw [HWW.out]; exact HRUN2.out) ?_
                        refine hK.out _ _ (q2) (fun hHeld => ?_)
                        clear hK K
                        try simp only [Act.put, List.setIfInBounds_toArray, List.set_cons_zero, List.set_cons_succ]
                        refine wpAnyH_ready (rs := [11]) (by kernel_rfl) (by simp) ?_
                        refine (AllReadyH.cons rfl (fun K hK => ?_) AllReadyH.nil)
                        go_simp
                        refine hK.out _ _ (q2) (fun hHeld => ?_)
                        clear hK K
                        try simp only [Act.put, List.setIfInBounds_toArray, List.set_cons_zero, List.set_cons_succ]
                        refine wpAnyH_ready (rs := [12]) (by kernel_rfl) (by simp) ?_
                        refine (AllReadyH.cons rfl (fun K hK => ?_) AllReadyH.nil)
                        go_simp
                        refine hK.out _ _ (s2) (fun hHeld => ?_)
                        clear hK K
                        try simp only [Act.put, List.setIfInBounds_toArray, List.set_cons_zero, List.set_cons_succ]
                        refine wpAnyH_done (by kernel_rfl) ?_ _
                        go_wp2_with fail
                        go_roundg (10 - (m + 1))
                        case measure => omega
                        case rel => exact ⟨m + 1, _, _, by omega, by omega, by omega, by go_num, HPUT, HOWN, HINV⟩
                    · have h8i : ¬ ((N8 : Int) < 8) := by omega
                      go_wp2_with fail
                      go_roundg (10 - (m + 1))
                      case measure => omega
                      case rel => exact ⟨m + 1, _, L, by omega, by omega, by omega, by go_num, HT8, HO8, Lib.hid HI.out.skip⟩
          · have hmti : ¬ ((m : Int) < 10) := by omega
            go_wp2_with fail
            go_roundg (10 - (a + 1))
            case measure => omega
            case rel => exact ⟨a + 1, ev, L, by omega, by omega, by go_num, HT, HO, Lib.hid (HI.out.turn hm10)⟩
      · have hlti : ¬ ((a : Int) < 10) := by omega
        obtain ⟨ci, hci⟩ : ∃ ci : Nat, ci = 0 := ⟨_, rfl⟩
        clear hci
        rename_i qq13 qq19 qq20 qq104 qq105 qq106 qq107
        revert w A n c l mm ep hc hm hep hln hmx HR qq13 w1 HB1 w2 PU PH qq19 qq20 w3 P Q F HCB i0 hz1 hz2 HIZ HZ0 HW1 gk wr u10 u11 u12 u28 u29 u30 u31 u32 u33 u34 u35 u36 u37 u38
           u39 u40 u41 u42 u43 u44 u45 u46 u47 u48 u49 u50 u51 u52 u53 u54 u55 u56 u57 u58 u59 u60 u61 u62 u63 u64 u65 u66 u67 u68 u69 u70 u71 u72 u73 u74 u75 u76 u77 u78 u79 u80
           u81 u82 u83 u84 u85 u86 u87 u88 u89 u90 u91 u92 u93 u94 qq104 qq105 qq106 qq107 a ev L ha hga HT HO HI hlt hlti
        exact hCutP ci
end Go.Proofs.Ytgfnlfkbbedkaaa
