/-
  The walk of MemberBoth.
-/
import Derived.Test.YthgnjojkncodeaaMbM
import Derived.Deep.CutBlock
namespace Go.Proofs.Ythgnjojkncodeaa
open Go.RowKit
set_option linter.unusedVariables false
set_option linter.unusedSimpArgs false

theorem stepBN {w w' : World} {q : Nat} (h : Below (w.drewN q).heap.size (w.drewN q) w') : Below w.heap.size w w' := ⟨h.os, h.tape, h.output, h.size, h.block⟩
set_option maxRecDepth 100000 in
set_option maxHeartbeats 16000000 in
theorem memberBoth_walk (w : World) (nodes : Int) (AF : Option Addr) (nF cF : Nat) (flows : List Flw) (win que : Int) (ep : Nat) (AU : Option Addr) (nU cU : Nat) (up : List Bool) (AH : Option Addr) (nH cH : Nat) (hops : List (List Ed)) (a b : Nat)
    (hi : inI nodes ∧ inI win ∧ inI que) (hF : nF ≤ cF) (hrF : Rd elFl w (fun k => k < w.heap.size) AF nF flows) (hU : nU ≤ cU) (hrU : Rd El.bool w (fun k => k < w.heap.size) AU nU up) (hH : nH ≤ cH) (hrH : Rd elEs w (fun k => k < w.heap.size) AH nH hops) (hf : Few hops)
    (hb1 : up.length ≤ 1048576) (hb2 : hops.length ≤ 1048576) (ha : a ≤ 255) (hb : b ≤ 255) :
    Calls Try.prog 3 #[.agg #[.int .i64 nodes, .slice AF nF cF, .int .i64 win, .int .i64 que, .int .u64 (ep : Int), .slice AU nU cU, .slice AH nH cH, .int .u8 (a : Int), .int .u8 (b : Int)]] w fun e w' => e = .returned (.bool true) ∧ Below w.heap.size w w' := by
  obtain ⟨w1, hw1⟩ : ∃ w1, w.alloc (.cells #[.int .i64 nodes, .slice AF nF cF, .int .i64 win, .int .i64 que, .int .u64 (ep : Int), .slice AU nU cU, .slice AH nH cH, .int .u8 (a : Int), .int .u8 (b : Int)] 31) = w1 := ⟨_, rfl⟩
  have b1 : Below w.heap.size w w1 := by rw [← hw1]; exact (Below.refl _ _).alloc (Nat.le_refl _) _
  have s1 : w1.heap.size = w.heap.size + 1 := by rw [← hw1]; simp
  have e1 : w1.heap[w.heap.size]? = some (.cells #[.int .i64 nodes, .slice AF nF cF, .int .i64 win, .int .i64 que, .int .u64 (ep : Int), .slice AU nU cU, .slice AH nH cH, .int .u8 (a : Int), .int .u8 (b : Int)] 31 (0, 0)) := by rw [← hw1]; exact heap_alloc_new w _
  obtain ⟨P, hP⟩ : ∃ P, w.heap.size = P := ⟨_, rfl⟩
  rw [hP] at e1
  have c0 : w1.cell? ⟨P, 0, none⟩ = some (.int .i64 nodes) := by simp [World.cell?, e1]
  have c1 : w1.cell? ⟨P, 1, none⟩ = some (.slice AF nF cF) := by simp [World.cell?, e1]
  have c2 : w1.cell? ⟨P, 2, none⟩ = some (.int .i64 win) := by simp [World.cell?, e1]
  have c3 : w1.cell? ⟨P, 3, none⟩ = some (.int .i64 que) := by simp [World.cell?, e1]
  have c4 : w1.cell? ⟨P, 4, none⟩ = some (.int .u64 (ep : Int)) := by simp [World.cell?, e1]
  have c5 : w1.cell? ⟨P, 5, none⟩ = some (.slice AU nU cU) := by simp [World.cell?, e1]
  have c6 : w1.cell? ⟨P, 6, none⟩ = some (.slice AH nH cH) := by simp [World.cell?, e1]
  have c7 : w1.cell? ⟨P, 7, none⟩ = some (.int .u8 (a : Int)) := by simp [World.cell?, e1]
  have c8 : w1.cell? ⟨P, 8, none⟩ = some (.int .u8 (b : Int)) := by simp [World.cell?, e1]
  have hPl : P < w1.heap.size := by omega
  have HW1 := Lib.hid hw1
  have HB1 := Lib.hid b1
  have HRF := Lib.hid (hrF.below b1)
  have HRU := Lib.hid (hrU.below b1)
  have HRH := Lib.hid (hrH.below b1)
  have HP := Lib.hid hP
  have HFW := Lib.hid hf
  have HB2 := Lib.hid (And.intro hb1 hb2)
  have HI := Lib.hid hi
  clear hw1 b1 e1 hrF hrU hrH s1 hf hb1 hb2 hi
  go_enter Try.func3, Try.ntmps3
  go_upto_region 1 with (fail)
  rw [HW1.out]
  try rw [hP]
  clear hP
  go_cut [3, 4, 5, 6] (fun s3 s4 s5 s6 wx => ∃ PC PT, s3 = .pointer (some ⟨PC, 0, none⟩) ∧ s4 = .pointer (some ⟨PT, 0, none⟩) ∧ s5 = .int .u8 (a : Int) ∧ s6 = .int .u8 (b : Int) ∧ PC < wx.heap.size ∧ w1.heap.size ≤ PC ∧ w1.heap.size ≤ PT ∧
    Hid (CT wx PC PT nodes AF nF cF flows win que (ep : Int) AU nU cU up AH nH cH hops (fun k => k < w.heap.size)) ∧ Hid (Below w1.heap.size w1 wx))
  case first =>
    go_region_held3 (fun w' => w'.cell? ⟨P, 0, none⟩ = some (.int .i64 nodes) ∧ w'.cell? ⟨P, 1, none⟩ = some (.slice AF nF cF) ∧ w'.cell? ⟨P, 2, none⟩ = some (.int .i64 win) ∧ w'.cell? ⟨P, 3, none⟩ = some (.int .i64 que) ∧ w'.cell? ⟨P, 4, none⟩ = some (.int .u64 (ep : Int)) ∧ w'.cell? ⟨P, 5, none⟩ = some (.slice AU nU cU) ∧
        w'.cell? ⟨P, 6, none⟩ = some (.slice AH nH cH) ∧ w'.cell? ⟨P, 7, none⟩ = some (.int .u8 (a : Int)) ∧ w'.cell? ⟨P, 8, none⟩ = some (.int .u8 (b : Int)))
      (first | exact ⟨c0, c1, c2, c3, c4, c5, c6, c7, c8⟩ | go_keep)
      (fail)
    · go_wp2_with fail
      go_meet
      obtain ⟨x1, x2, x3⟩ := two_made w1 (.cells #[.int .i64 nodes, .slice AF nF cF, .int .i64 win, .int .i64 que] 24) (.cells #[.int .u64 (ep : Int), .slice AU nU cU, .slice AH nH cH] 29)
      exact ⟨_, _, rfl, rfl, rfl, rfl, (Array.getElem?_eq_some_iff.1 x1).1, Nat.le_refl _, by omega, Lib.hid ⟨x1, x2, HI.out, ⟨hF, hU, hH⟩, HRF.out.below x3, HRU.out.below x3, HRH.out.below x3, HFW.out, HB2.out⟩, Lib.hid x3⟩
    · go_wp2_with fail
      go_meet
      obtain ⟨x1, x2, x3⟩ := two_made w1 (.cells #[.int .u64 (ep : Int), .slice AU nU cU, .slice AH nH cH] 29) (.cells #[.int .i64 nodes, .slice AF nF cF, .int .i64 win, .int .i64 que] 24)
      exact ⟨_, _, rfl, rfl, rfl, rfl, (Array.getElem?_eq_some_iff.1 x2).1, by omega, Nat.le_refl _, Lib.hid ⟨x2, x1, HI.out, ⟨hF, hU, hH⟩, HRF.out.below x3, HRU.out.below x3, HRH.out.below x3, HFW.out, HB2.out⟩, Lib.hid x3⟩
  case rest =>
    obtain ⟨PC, PT, rfl, rfl, rfl, rfl, hl1, hl2, hl3, HCT, HBX⟩ := hcut
    clear c0 c1 c2 c3 c4 c5 c6 c7 c8 hPl HRF HRU HRH
    have haw := awake_calls wc
    go_wp2_with fail
    refine haw.mono ?_
    rintro e w2 ⟨rfl, b2⟩
    have HC2 := Lib.hid (HCT.out.below b2)
    have HX2 : Hid (Below w.heap.size w w2) := Lib.hid (belowThen (belowThen HB1.out HB1.out.size HBX.out) (by have := HB1.out.size; have := HBX.out.size; omega) b2)
    clear haw b2 HCT
    obtain ⟨c0, c1, c2, c3⟩ := HC2.out.c
    obtain ⟨t0, t1, t2⟩ := HC2.out.t
    cases hcf : configOk nodes flows win que with
    | false =>
      have hk := HC2.out.config false hcf
      clear hcf
      go_wp2_with fail
      refine hk.mono ?_
      rintro e w3 ⟨rfl, b3⟩
      clear hk
      go_wp2_with fail
      go_ret
      exact ⟨rfl, belowThen HX2.out HX2.out.size b3⟩
    | true =>
      have hk := HC2.out.config true hcf
      have HCF := Lib.hid hcf
      clear hcf
      go_wp2_with fail
      refine hk.mono ?_
      rintro e w3 ⟨rfl, b3⟩
      have HC3 := Lib.hid (HC2.out.below b3)
      have HX3 := Lib.hid (belowThen HX2.out HX2.out.size b3)
      clear hk b3 c0 c1 c2 c3 t0 t1 t2 HC2 HX2
      obtain ⟨c0, c1, c2, c3⟩ := HC3.out.c
      obtain ⟨t0, t1, t2⟩ := HC3.out.t
      cases hmy : mayOk nodes flows win que (ep : Int) up hops with
      | false =>
        have hk := HC3.out.may false hmy
        clear hmy
        go_wp2_with fail
        refine hk.mono ?_
        rintro e w4 ⟨rfl, b4⟩
        clear hk
        go_wp2_with fail
        go_ret
        exact ⟨rfl, belowThen HX3.out HX3.out.size b4⟩
      | true =>
        have hk := HC3.out.may true hmy
        have HMY := Lib.hid hmy
        clear hmy
        go_wp2_with fail
        refine hk.mono ?_
        rintro e w4 ⟨rfl, b4⟩
        have HC4 := Lib.hid (HC3.out.below b4)
        have HX4 := Lib.hid (belowThen HX3.out HX3.out.size b4)
        clear hk b4 c0 c1 c2 c3 t0 t1 t2 HC3 HX3
        obtain ⟨hn1, hn2⟩ := config_nodes HCF.out
        obtain ⟨N, hN⟩ : ∃ N : Nat, nodes = (N : Int) := ⟨nodes.toNat, by omega⟩
        subst hN
        obtain ⟨X, hX⟩ : ∃ X, a % N = X := ⟨_, rfl⟩
        obtain ⟨Y, hY⟩ : ∃ Y, b % N = Y := ⟨_, rfl⟩
        have hXN : X < N := by rw [← hX]; exact Nat.mod_lt _ (by omega)
        have hYN : Y < N := by rw [← hY]; exact Nat.mod_lt _ (by omega)
        have x1 : (a : Int) % (N : Int) = (X : Int) := by rw [← hX]; rfl
        have y1 : (b : Int) % (N : Int) = (Y : Int) := by rw [← hY]; rfl
        have x2 : (a : Int).tmod (N : Int) = (X : Int) := by rw [Int.tmod_eq_emod_of_nonneg (by omega)]; exact x1
        have y2 : (b : Int).tmod (N : Int) = (Y : Int) := by rw [Int.tmod_eq_emod_of_nonneg (by omega)]; exact y1
        have x3 : IntKind.i64.wrap (X : Int) = (X : Int) := IntWalk.i64_in _ ⟨by omega, by omega⟩
        have y3 : IntKind.i64.wrap (Y : Int) = (Y : Int) := IntWalk.i64_in _ ⟨by omega, by omega⟩
        have hN0 : ((N : Int) == 0) = false := beq_eq_false_iff_ne.2 (by omega)
        obtain ⟨c0, c1, c2, c3⟩ := HC4.out.c
        have HXY := Lib.hid (And.intro hX hY)
        clear hX hY
        go_upto_region 6 with (fail)
        go_quiet (fail)
        go_upto_region 7 with (fail)
        have hk := fun q => (HC4.out.below (belowDrewN (Below.refl w4.heap.size w4) q)).new (fun k hk => by have := HX4.out.size; show k < w4.heap.size; omega) HCF.out (X : Int) (by omega) (by omega)
        have HL0 : Hid (w.heap.size ≤ w4.heap.size ∧ PC < w4.heap.size ∧ PT < w4.heap.size) := Lib.hid ⟨HX4.out.size, (Array.getElem?_eq_some_iff.1 HC4.out.bc).1, (Array.getElem?_eq_some_iff.1 HC4.out.bt).1⟩
        clear x1 x2 x3 y1 y2 y3 hN0 hl1 hl2 hl3
        go_wp2_with fail
        refine (hk _).mono ?_
        rintro e w5 ⟨M1, rfl, hM1', hMB1, b5'⟩
        have b5 := stepBN b5'
        have hM1 : w4.heap.size ≤ M1 := hM1'
        have HC5 := Lib.hid (HC4.out.below b5)
        have HX5 := Lib.hid (belowThen HX4.out HX4.out.size b5)
        have hl1 := hMB1.lt
        have HMB1 := Lib.hid (hMB1.mono (ok' := fun k => k < w.heap.size ∨ (w4.heap.size ≤ k ∧ k < w5.heap.size ∧ k ≠ M1)) (fun k hk hl => hk.imp_right fun h => ⟨h.1, hl, h.2⟩) (fun hh => by have := HL0.out; omega))
        clear hk hM1' hMB1 b5 b5' c0 c1 c2 c3
        obtain ⟨c0, c1, c2, c3⟩ := HC5.out.c
        have hk := HC5.out.new (fun k hk => by have := HX5.out.size; omega) HCF.out (Y : Int) (by omega) (by omega)
        go_wp2_with fail
        refine hk.mono ?_
        rintro e w6 ⟨M2, rfl, hM2, hMB2, b6⟩
        have HC6 := Lib.hid (HC5.out.below b6)
        have HX6 := Lib.hid (belowThen HX5.out HX5.out.size b6)
        have hl2 := hMB2.lt
        have h56 := b6.size
        have HMB2 := Lib.hid (hMB2.mono (ok' := fun k => k < w.heap.size ∨ (w5.heap.size ≤ k ∧ k < w6.heap.size ∧ k ≠ M2)) (fun k hk hl => hk.imp_right fun h => ⟨h.1, hl, h.2⟩) (fun hh => by have := HL0.out; omega))
        have HMB16 := Lib.hid (HMB1.out.below b6)
        obtain ⟨hf1, hf2, hf3, hf4, hf5⟩ := may_facts HMY.out
        have ht := HMB16.out.takes HC6.out.tv HC6.out.few HC6.out.big.1 HC6.out.big.2 HMY.out (by omega)
        clear hk hMB2 b6 c0 c1 c2 c3
        obtain ⟨t0, t1, t2⟩ := HC6.out.t
        go_wp2_with fail
        refine ht.mono ?_
        rintro e w7 ⟨rfl, c7, hMB1⟩
        have h67 := c7.size
        have HC7 := Lib.hid (HC6.out.chg c7 fun k hk e => by have := HL0.out; have e : k = M1 := e; omega)
        have HX7 := Lib.hid (c7.below HX6.out HX6.out.size fun k hk => by have := HL0.out; omega)
        have HMB17 := Lib.hid (hMB1.mono (ok' := fun k => (k < w.heap.size ∨ (w4.heap.size ≤ k ∧ k < w5.heap.size ∧ k ≠ M1)) ∨ (w6.heap.size ≤ k ∧ k < w7.heap.size)) (fun k hk hl => hk.imp_right fun h => ⟨h, hl⟩) (fun hh => by have := HL0.out; omega))
        have HMB27 := Lib.hid (HMB2.out.chg c7 fun k hk e => by have := HL0.out; have e : k = M1 := e; exact ⟨by omega, fun hh => by omega⟩)
        have ht2 := HMB27.out.takes HC7.out.tv HC7.out.few HC7.out.big.1 HC7.out.big.2 HMY.out (by omega)
        clear ht c7 hMB1 t0 t1 t2
        obtain ⟨t0, t1, t2⟩ := HC7.out.t
        go_wp2_with fail
        refine ht2.mono ?_
        rintro e w8 ⟨rfl, c8, hMB2⟩
        have h78 := c8.size
        have HC8 := Lib.hid (HC7.out.chg c8 fun k hk e => by have := HL0.out; have e : k = M2 := e; omega)
        have HX8 := Lib.hid (c8.below HX7.out HX7.out.size fun k hk => by have := HL0.out; omega)
        have HMB18 := Lib.hid (HMB17.out.chg c8 fun k hk e => by have := HL0.out; have e : k = M2 := e; exact ⟨by omega, fun hh => by omega⟩)
        have HMB28 := Lib.hid hMB2
        clear ht2 c8 hMB2 t0 t1 t2
        obtain ⟨c0, c1, c2, c3⟩ := HC8.out.c
        obtain ⟨L, hL⟩ : ∃ L, hops.length = L := ⟨_, rfl⟩
        have hLF : nF = L := by have := HC8.out.rf.len; omega
        subst hLF
        have HL := Lib.hid hL
        have hlm := HC8.out.rf.max
        clear hL hf1 hf2 hf3 hf4 hf5
        have hinX : inI (X : Int) := ⟨by omega, by omega⟩
        have hinY : inI (Y : Int) := ⟨by omega, by omega⟩
        have hep : 1 ≤ (ep : Int) := (may_facts HMY.out).2.1
        have HLF := Lib.hid HC8.out.rf.len
        go_wp2_with fail
        clear c0 c1 c2 c3
        go_loopg [14, 75] nF (fun gg s14 s75 wr => ∃ (k : Nat) (sb : Bool), k ≤ nF ∧ nF - k ≤ gg ∧ s75 = .int .i64 (k : Int) ∧ s14 = .bool sb ∧ Hid (((List.range k).any fun i => (nextOf hops (i : Int) (X : Int)).contains (Y : Int)) = sb) ∧ Hid (Below w8.heap.size w8 wr))
        case atStart => exact ⟨0, false, by omega, by omega, rfl, rfl, Lib.hid rfl, Lib.hid (Below.refl _ _)⟩
        case round =>
          obtain ⟨k, sb, hk, hgk, rfl, rfl, HSB, HB8⟩ := hrel
          by_cases hkl : k < nF
          · have hkli : (k : Int) < (nF : Int) := by omega
            have hik : inI (k : Int) := ⟨by omega, by omega⟩
            obtain ⟨nb, hnb⟩ : ∃ nb, (nextOf hops (k : Int) (X : Int)).contains (Y : Int) = nb := ⟨_, rfl⟩
            have HNB := Lib.hid hnb
            have hfb : ∀ kd : Int, flowB kd (k : Int) flows.length = true := fun kd => flowB_in (by rw [HLF.out]; exact hkl)
            have HFB := Lib.hid hfb
            have HSN := Lib.hid (any_next (fun i => (nextOf hops (i : Int) (X : Int)).contains (Y : Int)) k)
            clear hnb hfb
            have HM1 := Lib.hid (HMB18.out.below HB8.out)
            have t0 := (HC8.out.below HB8.out).t.1
            cases sb <;> cases nb
            all_goals
              have hnx := mnext_calls wr M1 _ _ _ _ _ _ _ _ _ HM1.out (k : Int) hik
              go_wp2_with fail
              refine hnx.mono ?_
              rintro e y1 ⟨v1, rfl, hO1, d1⟩
              obtain ⟨A1, e1, rfl, _, _, _, hR1⟩ := hO1.rd
              have hh := has_calls y1 _ A1 _ e1 _ hR1 (Y : Int) _ HNB.out
              have D1 := Lib.hid (belowThen HB8.out HB8.out.size d1)
              have t1 := cellBelow d1 t0
              clear hnx hO1 hR1 d1 t0
              go_wp2_with fail
              refine hh.mono ?_
              rintro e y2 ⟨rfl, rfl⟩
              have HM2 := Lib.hid (HMB28.out.below D1.out)
              have hpv := mprev_calls y1 M2 _ _ _ _ _ _ _ _ _ HM2.out (k : Int) hik
              clear hh
              go_wp2_with fail
              refine hpv.mono ?_
              rintro e y3 ⟨v3, rfl, hO3, d3⟩
              obtain ⟨A3, e3, rfl, _, _, _, hR3⟩ := hO3.rd
              have hh := has_calls y3 _ A3 _ e3 _ hR3 (X : Int) _ ((next_prev hops (k : Int) (X : Int) (Y : Int)).symm.trans HNB.out)
              have D3 := Lib.hid (belowThen D1.out D1.out.size d3)
              have t3 := cellBelow d3 t1
              clear hpv hO3 hR3 d3 t1
              go_wp2_with fail
              refine hh.mono ?_
              rintro e y4 ⟨rfl, rfl⟩
              have HM4 := Lib.hid (HMB28.out.below D3.out)
              have hof := HM4.out.of0 1 (X : Int) (Y : Int) (ep : Int) (k : Int) hik _ (of_ask rfl (HFB.out 1) hep _ ((isB_data hops (X : Int) (Y : Int) (k : Int)).trans HNB.out))
              clear hh
              go_wp2_with fail
              refine hof.mono ?_
              rintro e y5 ⟨rfl, d5⟩
              have D5 := Lib.hid (belowThen D3.out D3.out.size d5)
              have t5 := cellBelow d5 t3
              have HM5 := Lib.hid (HMB18.out.below D5.out)
              have hof := HM5.out.of0 2 (Y : Int) (X : Int) (ep : Int) (k : Int) hik _ (of_ask rfl (HFB.out 2) hep _ ((isB_back hops (X : Int) (Y : Int) (k : Int)).trans HNB.out))
              clear d5 t3
              go_wp2_with fail
              refine hof.mono ?_
              rintro e y6 ⟨rfl, d6⟩
              have D6 := Lib.hid (belowThen D5.out D5.out.size d6)
              clear hof d6 t5
              go_wp2_with fail
              go_roundg (nF - (k + 1))
              case measure => omega
              case rel => exact ⟨k + 1, _, by omega, by omega, by go_num, rfl, Lib.hid (by rw [HSN.out, HSB.out, HNB.out]; rfl), D6⟩
          · have hkli : ¬ ((k : Int) < (nF : Int)) := by omega
            obtain rfl : k = nF := by omega
            have hnx : (nextsOf hops (X : Int)).contains (Y : Int) = sb := by rw [nexts_any, HL.out]; exact HSB.out
            have hpv : (prevsOf hops (Y : Int)).contains (X : Int) = sb := by rw [prevs_any, HL.out]; exact HSB.out
            have HNX := Lib.hid hnx
            have HPV := Lib.hid hpv
            clear hnx hpv
            have t0 := (HC8.out.below HB8.out).t.1
            have HM1 := Lib.hid (HMB28.out.below HB8.out)
            cases sb
            all_goals
              have hof := HM1.out.of0 4 (X : Int) (Y : Int) (ep : Int) 0 (by decide) _ (of_ask rfl rfl hep _ ((isB_probe hops (X : Int) (Y : Int) 0).trans HPV.out))
              go_wp2_with fail
              refine hof.mono ?_
              rintro e y1 ⟨rfl, d1⟩
              have D1 := Lib.hid (belowThen HB8.out HB8.out.size d1)
              have t1 := cellBelow d1 t0
              have HM2 := Lib.hid (HMB18.out.below D1.out)
              have hof := HM2.out.of0 3 (Y : Int) (X : Int) (ep : Int) 0 (by decide) _ (of_ask rfl rfl hep _ ((isB_credit hops (X : Int) (Y : Int) 0).trans HNX.out))
              clear d1 t0
              go_wp2_with fail
              refine hof.mono ?_
              rintro e y2 ⟨rfl, d2⟩
              have D2 := Lib.hid (belowThen D1.out D1.out.size d2)
              have HM3 := Lib.hid (HMB18.out.below D2.out)
              have hnx := mnexts_calls y2 M1 _ _ _ _ _ _ _ _ _ HM3.out
              clear hof d2 t1
              go_wp2_with fail
              refine hnx.mono ?_
              rintro e y3 ⟨v3, rfl, hO3, d3⟩
              obtain ⟨A3, e3, rfl, _, _, _, hR3⟩ := hO3.rd
              have hh := has_calls y3 _ A3 _ e3 _ hR3 (Y : Int) _ HNX.out
              have D3 := Lib.hid (belowThen D2.out D2.out.size d3)
              clear hnx hO3 hR3 d3
              go_wp2_with fail
              refine hh.mono ?_
              rintro e y4 ⟨rfl, rfl⟩
              have HM4 := Lib.hid (HMB28.out.below D3.out)
              have hnx := mprevs_calls y3 M2 _ _ _ _ _ _ _ _ _ HM4.out
              clear hh
              go_wp2_with fail
              refine hnx.mono ?_
              rintro e y5 ⟨v5, rfl, hO5, d5⟩
              obtain ⟨A5, e5, rfl, _, _, _, hR5⟩ := hO5.rd
              have hh := has_calls y5 _ A5 _ e5 _ hR5 (X : Int) _ HPV.out
              have D5 := Lib.hid (belowThen D3.out D3.out.size d5)
              clear hnx hO5 hR5 d5
              go_wp2_with fail
              refine hh.mono ?_
              rintro e y6 ⟨rfl, rfl⟩
              clear hh
              go_wp2_with fail
              go_ret
              exact ⟨rfl, belowThen HX8.out HX8.out.size D5.out⟩
end Go.Proofs.Ythgnjojkncodeaa
