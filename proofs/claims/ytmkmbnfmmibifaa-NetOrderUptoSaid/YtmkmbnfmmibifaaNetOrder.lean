/-
  The walk of NetOrder.
-/
import Derived.Test.YtmkmbnfmmibifaaNetO
import Derived.Deep.CutBlock
import Derived.Deep.LoopGhost
import Derived.Lib.RabinKarpLaws
namespace Go.Proofs.Ytmkmbnfmmibifaa
open Go.RowKit

abbrev TB : TypeId := 28
set_option maxRecDepth 100000 in
set_option maxHeartbeats 16000000 in
theorem netOrder_walk (w : World) (A : Option Addr) (n c : Nat) (l : List (List UInt8)) (hr : Rd El.bytes w (fun k => k < w.heap.size) A n l) (hc : n ≤ c)
    (B : Option Addr) (m d : Nat) (gone : List Nat) (hg : Rd El.u16 w (fun k => k < w.heap.size) B m gone) (hd : m ≤ d) :
    Calls Try.prog 5 #[.slice A n c, .slice B m d] w fun e w' => e = .returned (.bool true) ∧ Below w.heap.size w w' := by
  have hgm := hg.max
  obtain ⟨i0, hi0, hzz⟩ := Option.map_eq_some_iff.1 info_b
  simp only [Prod.mk.injEq] at hzz
  obtain ⟨hz0, hz1, hz2⟩ := hzz
  go_enter Try.func5, Try.ntmps5
  go_wp2_with fail
  refine (New_calls w 2 (by decide) (by decide)).mono ?_
  rintro e w1 ⟨rfl, hn1, hb1⟩
  have hO : One w w1 (fun k => k < w.heap.size) (fun k => k = w.heap.size) w.heap.size (.slice none 0 0) [] := ⟨hn1, fun k hk => by omega, fun k hk => ⟨Nat.lt_of_lt_of_le hk hb1.size, by omega⟩, hb1⟩
  clear hn1 hb1
  go_wp2_with fail
  go_loopg [7, 8] n (fun g s7 s8 wr => ∃ (k : Nat) (K S : Nat → Prop) (v : Value) (L : List Par) (W : List (List UInt8)), k ≤ n ∧ k ≤ 40 ∧ g = n - k ∧ s8 = .int .i64 (k : Int) ∧ One w wr K S w.heap.size v L ∧
    Own El.bytes TB wr K s7 W ∧ (∀ q, q < w.heap.size → K q) ∧ (∀ q, s7.ownBlock = some q → w.heap.size ≤ q) ∧ Small L ∧ L.length ≤ k ∧ Want L W)
  case atStart => exact ⟨0, _, _, _, [], [], Nat.zero_le _, by omega, by omega, rfl, hO, Own.nil _ _ _ _, fun q hq => hq, fun q hq => by simp [Value.ownBlock] at hq, fun p hp => (by cases hp), Nat.le_refl _, rfl, fun p hp => (by cases hp)⟩
  case round =>
    obtain ⟨k, K, S, v, L, W, hkn, hk40, hgk, rfl, hOne, hown, hK0, hs7, hsm, hLk, hwant⟩ := hrel
    obtain ⟨wq, hwq⟩ : ∃ wq, wq = wr := ⟨_, rfl⟩
    subst hwq
    by_cases hgo : k < n ∧ k < 40
    · obtain ⟨hlt, hlt40⟩ := hgo
      · obtain ⟨xs, hxs⟩ : ∃ xs, l[k]? = some xs := ⟨_, List.getElem?_eq_getElem (by rw [hr.len]; exact hlt)⟩
        obtain ⟨b, off, vs, hA, hbw, _, hV, hcl⟩ := (hr.keep hOne.bel.size fun k hk _ => hOne.bel.block k hk).at_ k xs hxs
        subst hA
        obtain ⟨Ab, nb, cb, rfl, hncb, hrb⟩ := hV
        have k0 : wq.cell? ⟨b, off + k, none⟩ = some (.slice Ab nb cb) := by
          have := hcl 0 _ rfl
          simpa [El.bytes] using this
        have hi40 : (k : Int) < 40 := by omega
        have hm2 : (k : Int) % 2 = ((k % 2 : Nat) : Int) := by omega
        have hpar : bits .and .i64 (k : Int) 1 = ((k % 2 : Nat) : Int) := by rw [Go.Proofs.and_one k (by omega)]; 
        obtain ⟨kb, hkb⟩ : ∃ kb, k % 2 = kb := ⟨_, rfl⟩
        rw [hkb] at hpar
        have hkb2 : kb < 2 := by omega
        clear hkb hm2
        have hres : sendRes 2 (kb : Int) 1 xs L = if 70000 < xs.length then (3, L) else (0, L ++ [((kb : Int), 1, xs, true)]) := by
          unfold sendRes
          rw [if_neg (by omega), if_neg (c := 4096 ≤ L.length) (by omega)]
        have hi64 : inI (kb : Int) := by unfold inI; omega
        by_cases hxl : 70000 < xs.length
        · rw [if_pos hxl] at hres
          have hsend := Send_calls wq S w.heap.size 2 v L hOne.net (by decide) kb 1 hi64 (by unfold inI; decide) Ab nb cb xs _ hrb 3 L hres
          clear hres
          go_wp2_with fail
          refine hsend.mono ?_
          rintro e w4 ⟨rfl, hr4⟩
          obtain ⟨⟨S', v', hO4⟩, hch⟩ := hOne.next hr4
          have hown4 := hown.chg hch fun q _ hq hn => hn hq
          go_wp2_with fail
          go_roundg (n - (k + 1))
          case measure => omega
          case rel => exact ⟨k + 1, K, S', v', L, W, by omega, by omega, rfl, by go_num, hO4, hown4, hK0, hs7, hsm, by omega, hwant⟩
        · rw [if_neg hxl] at hres
          have hsend := Send_calls wq S w.heap.size 2 v L hOne.net (by decide) kb 1 hi64 (by unfold inI; decide) Ab nb cb xs _ hrb 0 _ hres
          clear hres
          go_wp2_with fail
          refine hsend.mono ?_
          rintro e w4 ⟨rfl, hr4⟩
          obtain ⟨⟨S', v', hO4⟩, hch⟩ := hOne.next hr4
          have hown4 := hown.chg hch fun q _ hq hn => hn hq
          have k4 := hch.cell k0 fun hn => hn (hK0 _ hbw)
          have hrb4 := hrb.keep hch.size fun q hq _ => hch.block q (Nat.lt_of_lt_of_le hq hOne.bel.size) fun hn => hn (hK0 _ hq)
          obtain ⟨wX, hwX⟩ : ∃ wX, w4.alloc (.cells #[.slice Ab nb cb] TB) = wX := ⟨_, rfl⟩
          have hbX : Below w4.heap.size w4 wX := by rw [← hwX]; exact allocBelow' _ _
          have hnc : ∀ j u, [Value.slice Ab nb cb][j]? = some u → wX.cell? ((⟨w4.heap.size, 0, none⟩ : Addr).add j) = some u := by rw [← hwX]; exact newCells w4 #[.slice Ab nb cb] TB (0, 0)
          have hOX := hO4.below hbX
          have hownX := hown4.below hbX
          have hVX : El.bytes.V wX (fun q => K q ∧ some q ≠ u7.ownBlock) [.slice Ab nb cb] xs := ⟨Ab, nb, cb, rfl, hncb, (hrb4.below hbX).mono fun q hq _ => ⟨hK0 q hq, fun e => by have := hs7 q e.symm; omega⟩⟩
          have hWl := hwant.len
          have hm1 : W.length + 1 ≤ maxLen := by unfold maxLen; omega
          have hb1 : (W.length + 1) * 24 ≤ 140737488355328 := by omega
          have hown7 := hown.lt
          have HWX := Lib.hid hwX
          clear hwX hrb hrb4 hown hown4 hO4 hOne hch hr4
          go_wp2_with (at_builtin; rw [HWX.out]; refine Own.list (E := El.bytes) rfl _ _ 60 rfl i0 _ 24 Try.underlying60 hi0 hz0 hz1 hz2 rfl (by decide) rfl hownX ⟨w4.heap.size, 0, none⟩ 1 _ _ rfl hVX hnc hm1 hb1 ?_; intro v3 w3 ho3 hg3 h53)
          go_roundg (n - (k + 1))
          case measure => omega
          case rel =>
            have hO5 := hOX.keep (K' := fun q => (K q ∨ q = wX.heap.size) ∧ q < w3.heap.size) (Chg.ofGrown hg3) (fun q hq => ⟨hs7 q hq.symm, (hOX.ks q (hown7 q hq.symm).1).2⟩) (fun q hq => by
              rcases hq.1 with h1 | h1
              · exact .inl h1
              · exact .inr ⟨by omega, hq.2⟩)
            refine ⟨k + 1, _, S', v', L ++ [((kb : Int), 1, xs, true)], W ++ [xs], by omega, by omega, rfl, by go_num, hO5, ho3.mono fun q hl hq => ⟨hq, hl⟩, fun q hq => ⟨.inl (hK0 q hq), ?_⟩, fun q hq => ?_, hsm.snoc (by simp only; omega), by simp; omega, hwant.snoc _ _ _⟩
            · have h1 := (hOX.ks q (hK0 q hq)).1
              have h2 := hg3.size
              omega
            · rcases h53 with h1 | h1
              · exact hs7 q (h1.symm.trans hq)
              · rw [h1] at hq
                injection hq with hq
                have := hOX.bel.size
                omega
    · have hW40 : W.length ≤ 40 := by rw [hwant.len]; omega
      have hL40 : L.length ≤ 40 := by omega
      obtain ⟨A0, c0, rfl, hc0, hA0, hrW⟩ := hown.rdN (by omega)
      have hcases : (k = n) ∨ (k < n ∧ k = 40) := by omega
      clear hown hs7 hLk hkn hk40 hgk hgo
      rcases hcases with rfl | ⟨hlt, rfl⟩
      all_goals
        go_wp2_with fail
        go_loopg [7, 9] m (fun g s7 s9 wr => ∃ (j : Nat) (K S : Nat → Prop) (v : Value) (L : List Par) (W : List (List UInt8)) (A1 : Option Addr) (c1 : Nat), j ≤ m ∧ g = m - j ∧ s9 = .int .i64 (j : Int) ∧ s7 = .slice A1 W.length c1 ∧
          W.length ≤ c1 ∧ (A1 = none → W.length = 0) ∧ Rd El.bytes wr K A1 W.length W ∧ One w wr K S w.heap.size v L ∧ (∀ q, q < w.heap.size → K q) ∧ Small L ∧ L.length ≤ 40 ∧ Want L W)
        case atStart => exact ⟨0, K, S, v, L, W, A0, c0, Nat.zero_le _, rfl, rfl, rfl, hc0, hA0, hrW, hOne, hK0, hsm, hL40, hwant⟩
        case round =>
          clear hrW hOne hK0 hsm hL40 hwant hc0 hA0
          obtain ⟨j, K, S, v, L, W, A1, c1, hjm, hgj, rfl, rfl, hc1, hA1, hrW, hOne, hK0, hsm, hL40, hwant⟩ := hrel
          obtain ⟨wq, hwq⟩ : ∃ wq, wq = wr := ⟨_, rfl⟩
          subst hwq
          have hWl := hwant.len
          by_cases hgo : j < m ∧ 0 < W.length
          · obtain ⟨hlt, hpos⟩ := hgo
            obtain ⟨x, hx⟩ : ∃ x, gone[j]? = some x := ⟨_, List.getElem?_eq_getElem (by rw [hg.len]; exact hlt)⟩
            obtain ⟨b, off, vs, hA, hbw, _, ⟨rfl, hx16⟩, hcl⟩ := (hg.keep hOne.bel.size fun k hk _ => hOne.bel.block k hk).at_ j x hx
            subst hA
            have k0 : wq.cell? ⟨b, off + j, none⟩ = some (.int .u16 (x : Int)) := by
              have := hcl 0 _ rfl
              simpa [El.u16] using this
            have hp2 : (W.length : Int) > 0 := by omega
            have hrem : (x : Int) % (W.length : Int) = ((x % W.length : Nat) : Int) := by omega
            obtain ⟨kx, hkx⟩ : ∃ kx, x % W.length = kx := ⟨_, rfl⟩
            rw [hkx] at hrem
            have hkl : kx < L.length := by rw [← hWl, ← hkx]; exact Nat.mod_lt _ hpos
            have hkw : kx < W.length := by omega
            have hW40 : W.length ≤ 40 := by omega
            have hdrop := Drop_calls wq S w.heap.size 2 v L hOne.net (by decide) (by omega) kx hkl
            clear hkx hx hcl
            have HWL := Lib.hid hWl
            clear hWl
            go_wp2_with fail
            refine hdrop.mono ?_
            rintro e w2 ⟨rfl, hr2⟩
            obtain ⟨⟨S', v', hO2⟩, hch⟩ := hOne.next hr2
            have hrW2 := hrW.chg hch fun q _ hq hn => hn hq
            obtain ⟨C1, hC1, hN1, hR1⟩ := cutFullR (P := Try.prog) El.bytes 60 rfl (fun W => rfl) A1 W.length c1 kx (by omega) hc1 hA1
            obtain ⟨C2, hC2, hR2⟩ := cutFromR (P := Try.prog) El.bytes 60 rfl (fun W => rfl) A1 W.length c1 (kx + 1) (by omega) hc1
            have hC2' : ∀ (kl : IntKind) (W' : World), (Instr.slice 60 (.slice A1 W.length c1) (some (.int kl ((kx : Int) + 1))) none none).run Try.prog W' = .ok (.slice C2 (W.length - (kx + 1)) (c1 - (kx + 1))) W' := fun kl W' => hC2 kl W'
            have hw3 : IntKind.i64.wrap ((kx : Int) + 1) = (kx : Int) + 1 := IntWalk.i64_in _ ⟨by omega, by omega⟩
            have hrA := (hR1 _ _ _ hrW2).keep (w' := w2.drew) (Nat.le_refl _) fun _ _ _ => rfl
            have hrB := (hR2 _ _ _ hrW2).keep (w' := w2.drew) (Nat.le_refl _) fun _ _ _ => rfl
            have hm1 : kx + (W.length - (kx + 1)) ≤ maxLen := by unfold maxLen; omega
            have hb1 : (kx + (W.length - (kx + 1))) * 24 ≤ 140737488355328 := by omega
            obtain ⟨L5, hL5⟩ : ∃ L5, L5 = L.eraseIdx kx := ⟨_, rfl⟩
            obtain ⟨W5, hW5⟩ : ∃ W5, W.take kx ++ W.drop (kx + 1) = W5 := ⟨_, rfl⟩
            obtain ⟨n5, hn5⟩ : ∃ n5, kx + (W.length - (kx + 1)) = n5 := ⟨_, rfl⟩
            have hwant5 : Want L5 W5 := by rw [hL5, ← hW5]; exact hwant.erase kx
            have hsm5 : Small L5 := by rw [hL5]; exact hsm.erase kx
            have hnL : L5.length = n5 := by rw [hL5, List.length_eraseIdx_of_lt hkl]; have := HWL.out; omega
            have hn40 : n5 ≤ 40 := by omega
            rw [← hL5] at hO2
            have HW5 := Lib.hid hW5
            have HN5 := Lib.hid hn5
            have HNL := Lib.hid hnL
            clear hdrop hr2 hC2 hL5 hW5 hn5 hnL hsm hwant hrW hrW2 hOne hkl hch hL40
            go_wp2_with fail
            go_region_law (first
              | (refine stepFull (E := El.bytes) (by rfl) _ _ 60 (by rfl) i0 _ 24 Try.underlying60 hi0 hz0 hz1 hz2 rfl (by decide) C1 kx (by go_simp) hrA hN1 C2 (W.length - (kx + 1)) (c1 - (kx + 1)) (by go_simp) hrB hm1 hb1 ?_; intro A5 c5 w5 hc5 hA5 hr5 hb5; rw [HN5.out] at hc5 hA5 hr5 ⊢; rw [HW5.out] at hr5))
            all_goals
              have hb25 : Below w2.heap.size w2 w5 := stepBelow (Below.refl w2.heap.size w2).drew hb5
              have hO5 : One w w5 (fun q => K q ∨ New w2 w5 q) S' w.heap.size v' L5 := hO2.keep (D := NoB) (Chg.ofBelow hb25) (fun _ h => h.elim) fun q hq => hq
              have hlW5 : W5.length = n5 := hr5.len
              have hcop := Copy_calls w5 S' w.heap.size 2 v' L5 hO5.net (by decide) hsm5 (by rw [HNL.out]; omega)
              have hr5' : Rd El.bytes w5 (fun q => K q ∨ New w2 w5 q) A5 n5 W5 := hr5
              clear hb5 hrA hrB hO2 hr5 hC1 hC2' hR1 hR2 hm1 hb1 hN1
              have HLW5 := Lib.hid hlW5
              clear hlW5
              go_wp2_with fail
              refine hcop.mono ?_
              rintro e w6 ⟨P4, S4, v4, rfl, h4n, hb6, h4s⟩
              have hD6 := hO5.duo h4n hb6 h4s
              have hall := All_calls w6 S' w.heap.size 2 v' L5 hD6.net (by decide) hsm5 (by rw [HNL.out]; omega)
              have hr6 := hr5'.below hb6
              clear hcop hr5' h4n h4s hO5
              go_wp2_with fail
              refine hall.mono ?_
              rintro e w7 ⟨v7, rfl, ho7, hb7⟩
              have hD7 := hD6.keep (K' := fun q => (K q ∨ New w2 w5 q) ∨ New w6 w7 q) hb7 fun q hq => hq
              obtain ⟨A7, c7, rfl, hc7, hA7, hr7⟩ := ho7.rdN (by rw [HNL.out]; omega)
              rw [HNL.out] at hc7 hA7 hr7 ⊢
              have hr7' : Rd elPar w7 (fun q => (K q ∨ New w2 w5 q) ∨ New w6 w7 q) A7 n5 L5 := hr7.mono fun q hq _ => .inr hq
              have hr8 : Rd El.bytes w7 (fun q => (K q ∨ New w2 w5 q) ∨ New w6 w7 q) A5 n5 W5 := (hr6.below hb7).mono fun q hq _ => .inl hq
              have hK7 : ∀ q, q < w.heap.size → (fun q => (K q ∨ New w2 w5 q) ∨ New w6 w7 q) q := fun q hq => .inl (.inl (hK0 q hq))
              have hlen := Len_calls w7 S4 P4 2 v4 L5 hD7.cop (by decide)
              rw [HNL.out] at hlen
              obtain ⟨K7, hK7e⟩ : ∃ K7, K7 = (fun q => (K q ∨ New w2 w5 q) ∨ New w6 w7 q) := ⟨_, rfl⟩
              rw [← hK7e] at hD7 hr7' hr8 hK7
              clear hK7e ho7 hr7 hr6 hb7 hall hD6 hb6 hb25 hK0
              go_wp2_with fail
              refine hlen.mono ?_
              rintro e w8 ⟨rfl, rfl⟩
              clear hlen
              go_wp2_with fail
              go_loopg [13] n5 (fun g s13 wr => ∃ (i : Nat) (S4 : Nat → Prop) (v4 : Value), i ≤ n5 ∧ g = n5 - i ∧ s13 = .int .i64 (i : Int) ∧ Duo w wr K7 S' S4 w.heap.size P4 v' v4 L5 (L5.drop i) ∧ Rd elPar wr K7 A7 n5 L5 ∧ Rd El.bytes wr K7 A5 n5 W5)
              case atStart => exact ⟨0, S4, v4, Nat.zero_le _, rfl, rfl, hD7, hr7', hr8⟩
              case round =>
                clear hr7' hr8 hD7
                obtain ⟨i, S4, v4, hin, hgi, rfl, hD, hra, hrw⟩ := hrel
                obtain ⟨wz, hwz⟩ : ∃ wz, wz = wr := ⟨_, rfl⟩
                subst hwz
                by_cases hlti : i < n5
                · obtain ⟨p, hp⟩ : ∃ p, L5[i]? = some p := ⟨_, List.getElem?_eq_getElem (by rw [HNL.out]; exact hlti)⟩
                  obtain ⟨hwp, hp1⟩ := hwant5.at_ i p hp
                  obtain ⟨pf, pt, px, pb⟩ := p
                  obtain rfl : pt = 1 := hp1
                  have hwp : W5[i]? = some px := hwp
                  have hp0 : (L5.drop i)[0]? = some (pf, 1, px, pb) := by rw [List.getElem?_drop]; simpa using hp
                  have hsd : Small (L5.drop i) := fun q hq => hsm5 q (List.mem_of_mem_drop hq)
                  have hat := At_calls wz S' w.heap.size 2 v' L5 hD.net (by decide) hsm5 i _ hp
                  go_wp2_with fail
                  refine hat.mono ?_
                  rintro e w9 ⟨A4, n4, c4, rfl, hfb4, hb4⟩
                  obtain rfl : n4 = px.length := hfb4.1.symm
                  obtain ⟨wa, hwa⟩ : ∃ wa, w9.alloc (.cells #[.int .i64 pf, .int .i64 1, .slice A4 px.length c4, .bool pb] TP) = wa := ⟨_, rfl⟩
                  obtain ⟨ka, xa, za⟩ := boxT _ _ _ _ _ _ _ hwa
                  have hba := stepBelow hb4 ka
                  have hDa := hD.keep (K' := fun q => K7 q ∨ New wz wa q) hba fun q hq => hq
                  have hdel := Deliver_calls wa S4 P4 2 v4 (L5.drop i) hDa.cop (by decide) hsd (by rw [List.length_drop, HNL.out]; omega) 0 _ hp0
                  have h9new : New wz wa w9.heap.size := ⟨hb4.size, by omega⟩
                  have hfba := hfb4.below ka
                  have hraa := hra.below hba
                  have hrwa := hrw.below hba
                  have HWA := Lib.hid hwa
                  clear hwa za hat hD hra hrw hfb4
                  go_upto_region 25 with (fail)
                  rw [HWA.out]
                  go_wp2_with fail
                  refine hdel.mono ?_
                  rintro e wb ⟨B5, n9, c9, S9, v9, rfl, hfb9, h9n, h9c, h9s, h9d⟩
                  obtain rfl : n9 = px.length := hfb9.1.symm
                  obtain ⟨hDb, hchb⟩ := hDa.next h9n h9c h9s
                  obtain ⟨wc, hwc⟩ : ∃ wc, wb.alloc (.cells #[.int .i64 pf, .int .i64 1, .slice B5 px.length c9, .bool pb] TP) = wc := ⟨_, rfl⟩
                  obtain ⟨kc, xc, zc⟩ := boxT _ _ _ _ _ _ _ hwc
                  have hDc := (hDb.below kc).keep (K' := K7) (Below.refl _ _) fun q hq => .inl (.inl hq)
                  have hrac := (hraa.chg hchb fun q _ hq hn => hn (.inl hq)).below kc
                  have hrwc := (hrwa.chg hchb fun q _ hq hn => hn (.inl hq)).below kc
                  have hfbc := (hfba.keep hchb fun q hq hn => hn (.inr hq)).below kc
                  have hfb9c := hfb9.below kc
                  obtain ⟨x0, x1, x2, x3, _⟩ := xc.cells
                  obtain ⟨y0, y1, y2, y3, _⟩ := ((xa.chg hchb (fun hn => hn (.inr h9new))).below kc).cells
                  obtain ⟨b6, o6, vs6, e6, _, _, hV6, hcl6⟩ := hrwc.at_ i _ hwp
                  obtain ⟨A6, n6, d6, rfl, _, hr6⟩ := hV6
                  obtain rfl : n6 = px.length := hr6.len.symm
                  obtain ⟨b7, o7, vs7, e7, _, _, hV7, hcl7⟩ := hrac.at_ i _ hp
                  obtain ⟨A8, n8, d8, rfl, _, _, _, hr8⟩ := par_open hV7
                  obtain rfl : n8 = px.length := hr8.len.symm
                  have m6 : wc.cell? ⟨b6, o6 + i, none⟩ = some (.slice A6 px.length d6) := by
                    have := hcl6 0 _ rfl
                    simpa [El.bytes] using this
                  have m7 : wc.cell? ⟨b7, o7 + i * 4 + 2, none⟩ = some (.slice A8 px.length d8) := hcl7 2 _ rfl
                  have s4 := fun m => conv_string (hfbc.rd.1.below (belowDrewN (Below.refl wc.heap.size wc) m)) c4
                  have s5 := fun m => conv_string (hfb9c.rd.1.below (belowDrewN (Below.refl wc.heap.size wc) m)) c9
                  have s6 := fun m => conv_string (hr6.below (belowDrewN (Below.refl wc.heap.size wc) m)) d6
                  have s8 := fun m => conv_string (hr8.below (belowDrewN (Below.refl wc.heap.size wc) m)) d8
                  have hLd : (L5.drop i).eraseIdx 0 = L5.drop (i + 1) := by rw [List.eraseIdx_zero, List.tail_drop]
                  rw [hLd] at hDc
                  have HWC := Lib.hid hwc
                  have HDC := Lib.hid hDc
                  have HRAC := Lib.hid hrac
                  have HRWC := Lib.hid hrwc
                  clear hwc zc hdel hDa hDb hDc hrac hrwc hraa hrwa hfba hfb9 hfbc hfb9c h9n h9c h9s h9d hchb xa xc kc ka hba hb4 hcl6 hcl7 hr6 hr8 hV7 hLd hp0 hsd hwp hp h9new
                  go_upto_region 26 with (fail)
                  rw [HWC.out]
                  subst e6
                  subst e7
                  go_quiet (fail)
                  have hbN := belowDrewN (Below.refl wc.heap.size wc) nq
                  go_wp2_with fail
                  go_roundg (n5 - (i + 1))
                  case measure => omega
                  case rel => exact ⟨i + 1, S9, v9, by omega, rfl, by go_num, HDC.out.below hbN, HRAC.out.below hbN, HRWC.out.below hbN⟩
                · obtain rfl : n5 = i := by omega
                  have hfin : One w wz K7 S' w.heap.size v' L5 := hD.one
                  have HFIN := Lib.hid hfin
                  have HRW := Lib.hid hrw
                  clear hfin hD hra hrw
                  go_wp2_with fail
                  go_roundg (m - (j + 1))
                  case measure => omega
                  case rel =>
                    refine ⟨j + 1, K7, S', v', L5, W5, A5, c5, by omega, rfl, by go_num, by rw [HLW5.out], by rw [HLW5.out]; exact hc5, by rw [HLW5.out]; exact hA5, by rw [HLW5.out]; exact HRW.out, HFIN.out, hK7, hsm5, by rw [HNL.out]; exact hn40, hwant5⟩
          · have hlen := Len_calls wq S w.heap.size 2 v L hOne.net (by decide)
            rw [← hWl] at hlen
            have hbel := hOne.bel
            have hcases : (j = m) ∨ (j < m ∧ W.length = 0) := by omega
            clear hWl hrW hOne hgo hL40 hwant
            rcases hcases with rfl | ⟨hlt, hW0⟩
            · go_wp2_with fail
              refine hlen.mono ?_
              rintro e w8 ⟨rfl, rfl⟩
              go_wp2_with fail
              refine (wakes_calls _).mono ?_
              rintro e w9 ⟨rfl, hb9⟩
              have hbb := stepBelow hbel hb9
              go_wp2_with fail
              go_ret
              exact ⟨rfl, hbb⟩
            · rw [hW0] at hlen ⊢
              go_wp2_with fail
              refine hlen.mono ?_
              rintro e w8 ⟨rfl, rfl⟩
              go_wp2_with fail
              refine (wakes_calls _).mono ?_
              rintro e w9 ⟨rfl, hb9⟩
              have hbb := stepBelow hbel hb9
              go_wp2_with fail
              go_ret
              exact ⟨rfl, hbb⟩
end Go.Proofs.Ytmkmbnfmmibifaa
