/-
  The walk of MemberHops.
-/
import Derived.Test.YthgnjojkncodeaaMbW
import Derived.Deep.CutBlock
namespace Go.Proofs.Ythgnjojkncodeaa
open Go.RowKit
set_option linter.unusedVariables false
set_option linter.unusedSimpArgs false

set_option maxRecDepth 100000 in
set_option maxHeartbeats 16000000 in
theorem memberHops_walk (w : World) (nodes : Int) (AF : Option Addr) (nF cF : Nat) (flows : List Flw) (win que : Int) (ep : Nat) (AU : Option Addr) (nU cU : Nat) (up : List Bool) (AH : Option Addr) (nH cH : Nat) (hops : List (List Ed)) (a b : Nat)
    (hi : inI nodes ∧ inI win ∧ inI que) (hF : nF ≤ cF) (hrF : Rd elFl w (fun k => k < w.heap.size) AF nF flows) (hU : nU ≤ cU) (hrU : Rd El.bool w (fun k => k < w.heap.size) AU nU up) (hH : nH ≤ cH) (hrH : Rd elEs w (fun k => k < w.heap.size) AH nH hops) (hf : Few hops)
    (hb1 : up.length ≤ 1048576) (hb2 : hops.length ≤ 1048576) (ha : a ≤ 255) (hb : b ≤ 255) :
    Calls Try.prog 6 #[.agg #[.int .i64 nodes, .slice AF nF cF, .int .i64 win, .int .i64 que, .int .u64 (ep : Int), .slice AU nU cU, .slice AH nH cH, .int .u8 (a : Int), .int .u8 (b : Int)]] w fun e w' => e = .returned (.bool true) ∧ Below w.heap.size w w' := by
  obtain ⟨w1, hw1⟩ : ∃ w1, w.alloc (.cells #[.int .i64 nodes, .slice AF nF cF, .int .i64 win, .int .i64 que, .int .u64 (ep : Int), .slice AU nU cU, .slice AH nH cH, .int .u8 (a : Int), .int .u8 (b : Int)] 31) = w1 := ⟨_, rfl⟩
  have b1 : Below w.heap.size w w1 := by rw [← hw1]; exact (Below.refl _ _).alloc (Nat.le_refl _) _
  have e1 : w1.heap[w.heap.size]? = some (.cells #[.int .i64 nodes, .slice AF nF cF, .int .i64 win, .int .i64 que, .int .u64 (ep : Int), .slice AU nU cU, .slice AH nH cH, .int .u8 (a : Int), .int .u8 (b : Int)] 31 (0, 0)) := by rw [← hw1]; exact heap_alloc_new w _
  obtain ⟨P, hP⟩ : ∃ P, w.heap.size = P := ⟨_, rfl⟩
  have HX1 : Hid (HX w1 P nodes AF nF cF flows win que (ep : Int) AU nU cU up AH nH cH hops (a : Int) (b : Int) (fun k => k < w.heap.size)) := Lib.hid ⟨by rw [← hP]; exact e1, hi, ⟨hF, hU, hH⟩, hrF.below b1, hrU.below b1, hrH.below b1, hf, hb1, hb2⟩
  have HW1 := Lib.hid hw1
  have HB1 := Lib.hid b1
  have HP := Lib.hid hP
  clear hw1 b1 e1 hi hF hU hH hrF hrU hrH hf hb1 hb2
  go_enter Try.func6, Try.ntmps6
  go_upto_region 1 with (fail)
  rw [HW1.out]
  try rw [hP]
  clear hP
  have haw := awake_calls w1
  go_wp2_with fail
  refine haw.mono ?_
  rintro e w2 ⟨rfl, b2⟩
  have HX2 := Lib.hid (HX1.out.below b2)
  have HB2 := Lib.hid (belowThen HB1.out HB1.out.size b2)
  clear haw b2 HX1 HB1 HW1
  obtain ⟨c0, c1, c2, c3⟩ := HX2.out.c
  cases hcf : configOk nodes flows win que with
  | false =>
    have hk := HX2.out.config false hcf
    clear hcf
    go_wp2_with fail
    refine hk.mono ?_
    rintro e w3 ⟨rfl, b3⟩
    clear hk
    go_wp2_with fail
    go_ret
    exact ⟨rfl, belowThen HB2.out HB2.out.size b3⟩
  | true =>
    have hk := HX2.out.config true hcf
    have HCF := Lib.hid hcf
    clear hcf
    go_wp2_with fail
    refine hk.mono ?_
    rintro e w3 ⟨rfl, b3⟩
    have HX3 := Lib.hid (HX2.out.below b3)
    have HB3 := Lib.hid (belowThen HB2.out HB2.out.size b3)
    clear hk b3 c0 c1 c2 c3 HX2 HB2
    obtain ⟨c0, c1, c2, c3⟩ := HX3.out.c
    obtain ⟨t0, t1, t2⟩ := HX3.out.t
    cases hmy : mayOk nodes flows win que (ep : Int) up hops with
    | false =>
      have hk := HX3.out.may false hmy
      clear hmy
      go_wp2_with fail
      refine hk.mono ?_
      rintro e w4 ⟨rfl, b4⟩
      clear hk
      go_wp2_with fail
      go_ret
      exact ⟨rfl, belowThen HB3.out HB3.out.size b4⟩
    | true =>
      have hk := HX3.out.may true hmy
      have HMY := Lib.hid hmy
      clear hmy
      go_wp2_with fail
      refine hk.mono ?_
      rintro e w4 ⟨rfl, b4⟩
      have HX4 := Lib.hid (HX3.out.below b4)
      have HB4 := Lib.hid (belowThen HB3.out HB3.out.size b4)
      clear hk b4 c0 c1 c2 c3 t0 t1 t2 HX3 HB3
      obtain ⟨hn1, hn2⟩ := config_nodes HCF.out
      obtain ⟨N, hN⟩ : ∃ N : Nat, nodes = (N : Int) := ⟨nodes.toNat, by omega⟩
      subst hN
      obtain ⟨X, hX⟩ : ∃ X, a % N = X := ⟨_, rfl⟩
      have hXN : X < N := by rw [← hX]; exact Nat.mod_lt _ (by omega)
      have x0 : IntKind.i64.wrap (a : Int) = (a : Int) := IntWalk.i64_in _ ⟨by omega, by omega⟩
      have x1 : (a : Int) % (N : Int) = (X : Int) := by rw [← hX]; rfl
      have x2 : (a : Int).tmod (N : Int) = (X : Int) := by rw [Int.tmod_eq_emod_of_nonneg (by omega)]; exact x1
      have x3 : IntKind.i64.wrap (X : Int) = (X : Int) := IntWalk.i64_in _ ⟨by omega, by omega⟩
      have hN0 : ((N : Int) == 0) = false := beq_eq_false_iff_ne.2 (by omega)
      have HXX := Lib.hid hX
      have hinX : inI (X : Int) := ⟨by omega, by omega⟩
      clear hX
      obtain ⟨c0, c1, c2, c3⟩ := HX4.out.c
      have c7 := HX4.out.na
      go_upto_region 6 with (fail)
      have hk := HX4.out.new (fun k hk => by have := HB4.out.size; omega) HCF.out (X : Int) (by omega) (by omega)
      have HL4 : Hid (w.heap.size ≤ w4.heap.size ∧ P < w4.heap.size ∧ P = w.heap.size) := Lib.hid ⟨HB4.out.size, HX4.out.lt, HP.out.symm⟩
      clear x0 x1 x2 hN0 c7
      go_wp2_with fail
      refine hk.mono ?_
      rintro e w5 ⟨M, rfl, hM, hMB, b5⟩
      have HX5 := Lib.hid (HX4.out.below b5)
      have HB5 := Lib.hid (belowThen HB4.out HB4.out.size b5)
      have hl5 := hMB.lt
      have hs45 := b5.size
      have HMB5 := Lib.hid (hMB.mono (ok' := fun k => k < w.heap.size ∨ (w4.heap.size ≤ k ∧ k < w5.heap.size ∧ k ≠ M)) (fun k hk hl => hk.imp_right fun h => ⟨h.1, hl, h.2⟩) (fun hh => by have := HL4.out; omega))
      clear hk hMB b5 c0 c1 c2 c3 HX4 HB4
      obtain ⟨t0, t1, t2⟩ := HX5.out.t
      have hk := HX5.out.own
      go_wp2_with fail
      refine hk.mono ?_
      rintro e w6 ⟨gv, rfl, hT6, b6⟩
      have hT6' := hT6.range2
      obtain ⟨AG, nG, cG, AI, nI, cI, rfl⟩ := hT6'.agg
      have HT6 := Lib.hid hT6'
      have HX6 := Lib.hid (HX5.out.below b6)
      have HB6 := Lib.hid (belowThen HB5.out HB5.out.size b6)
      have HMB6 := Lib.hid (HMB5.out.below b6)
      have hs56 := b6.size
      clear hk hT6 hT6' b6 t0 t1 t2 HX5 HB5 HMB5
      obtain ⟨w7, hw7⟩ : ∃ w7, w6.alloc (.cells #[.int .u64 (ep : Int), .slice AG nG cG, .slice AI nI cI] 29) = w7 := ⟨_, rfl⟩
      have b7 : Below w6.heap.size w6 w7 := by rw [← hw7]; exact (Below.refl _ _).alloc (Nat.le_refl _) _
      have s7 : w7.heap.size = w6.heap.size + 1 := by rw [← hw7]; simp
      have e7 : w7.heap[w6.heap.size]? = some (.cells #[.int .u64 (ep : Int), .slice AG nG cG, .slice AI nI cI] 29 (0, 0)) := by rw [← hw7]; exact heap_alloc_new w6 _
      have HW7 := Lib.hid hw7
      go_upto_region 8 with (fail)
      try rw [HW7.out]
      obtain ⟨G, hG⟩ : ∃ G, w6.heap.size = G := ⟨_, rfl⟩
      rw [hG] at e7
      try rw [hG]
      have HX7 := Lib.hid (HX6.out.below b7)
      have HB7 := Lib.hid (belowThen HB6.out HB6.out.size b7)
      have HMB7 := Lib.hid (HMB6.out.below b7)
      have HT7 := Lib.hid (HT6.out.below b7)
      have HG7 := Lib.hid e7
      have g0 : w7.cell? ⟨G, 0, none⟩ = some (.int .u64 (ep : Int)) := by simp [World.cell?, e7]
      have g1 : w7.cell? ⟨G, 1, none⟩ = some (.slice AG nG cG) := by simp [World.cell?, e7]
      have g2 : w7.cell? ⟨G, 2, none⟩ = some (.slice AI nI cI) := by simp [World.cell?, e7]
      have HG := Lib.hid hG
      obtain ⟨hf1, hf2, hf3, hf4, hf5⟩ := may_facts HMY.out
      have ht := HMB7.out.takes (HT7.out.tv HX7.out.few HX7.out.big.1 HX7.out.big.2) HX7.out.few HX7.out.big.1 HX7.out.big.2 HMY.out (by omega)
      clear hw7 e7 b7 hG HX6 HB6 HMB6 HT6
      go_wp2_with fail
      refine ht.mono ?_
      rintro e w8 ⟨rfl, c8, hMB8⟩
      have h78 := c8.size
      have HX8 := Lib.hid (HX7.out.chg c8 fun k _ e => by have := HL4.out; have e : k = M := e; exact ⟨by omega, by omega⟩)
      have HB8 := Lib.hid (c8.below HB7.out HB7.out.size fun k hk => by have := HL4.out; omega)
      have HT8 := Lib.hid (HT7.out.chg c8 fun k _ hk e => by have e : k = M := e; omega)
      have HMB8 := Lib.hid hMB8
      have HG8 := Lib.hid ((c8.block G (by have := HG.out; omega) fun e => by have e : G = M := e; have := HG.out; omega).trans HG7.out)
      have hl8 := hMB8.lt
      clear ht c8 hMB8 g0 g1 g2 HX7 HB7 HT7 HMB7 HG7
      have hb8 := HG8.out
      have g0 : w8.cell? ⟨G, 0, none⟩ = some (.int .u64 (ep : Int)) := by simp [World.cell?, hb8]
      have g1 : w8.cell? ⟨G, 1, none⟩ = some (.slice AG nG cG) := by simp [World.cell?, hb8]
      have g2 : w8.cell? ⟨G, 2, none⟩ = some (.slice AI nI cI) := by simp [World.cell?, hb8]
      have hsp := spoil_calls w8 _ _ (ep : Int) up hops HT8.out HX8.out.few HX8.out.big.1 HX8.out.big.2
      clear hb8
      go_wp2_with fail
      refine hsp.mono ?_
      rintro e w9 ⟨rfl, c9⟩
      have h89 := c9.size
      have HX9 := Lib.hid (HX8.out.chg c9 fun k _ hk => by have := HL4.out; exact ⟨by omega, by omega⟩)
      have HB9 := Lib.hid (c9.below HB8.out HB8.out.size fun k hk => by have := HL4.out; omega)
      have HMB9 := Lib.hid (HMB8.out.chg c9 fun k _ hk => by have := HL4.out; have := HG.out; exact ⟨by omega, by omega⟩)
      clear hsp c9 g0 g1 g2 HX8 HB8 HMB8 HT8 HG8
      have htp := mtopo_calls w9 M _ _ _ _ _ _ _ _ _ HMB9.out
      go_wp2_with fail
      refine htp.mono ?_
      rintro e w10 ⟨v10, rfl, hT10, b10⟩
      have hsp := spoil_calls w10 v10 (fun k => w9.heap.size ≤ k) (ep : Int) up hops hT10 HX9.out.few HX9.out.big.1 HX9.out.big.2
      have h910 := b10.size
      have HX10 := Lib.hid (HX9.out.below b10)
      have HB10 := Lib.hid (belowThen HB9.out HB9.out.size b10)
      have HMB10 := Lib.hid (HMB9.out.below b10)
      have HT10 := Lib.hid hT10
      have HB910 := Lib.hid b10
      have HLM := Lib.hid (show M < w9.heap.size ∧ P < w9.heap.size ∧ w.heap.size ≤ w9.heap.size from ⟨HMB9.out.lt, HX9.out.lt, HB9.out.size⟩)
      clear htp hT10 b10
      go_wp2_with fail
      refine hsp.mono ?_
      rintro e w11 ⟨rfl, c11⟩
      have B9 := Lib.hid (c11.below HB910.out HB910.out.size fun k hk => hk)
      have HX11 := Lib.hid (HX9.out.below B9.out)
      have HMB11 := Lib.hid (HMB9.out.below B9.out)
      have HB11 := Lib.hid (belowThen HB9.out HB9.out.size B9.out)
      have HLF := Lib.hid HX11.out.rf.len
      have hlm := HX11.out.rf.max
      clear hsp c11 HX9 HMB9 HB9 HX10 HB10 HMB10 HT10 HB910 HLM HG B9 h910 h89 h78 hl8 hs56 hs45 hl5 hM s7 hf1 hf2 hf3 hf4 hf5
      obtain ⟨c0, c1, c2, c3⟩ := HX11.out.c
      go_upto_region 13 with (fail)
      clear c0 c1 c2 c3
      go_loopg [58] nF (fun gg s58 wx => ∃ k : Nat, k ≤ nF ∧ nF - k ≤ gg ∧ s58 = .int .i64 (k : Int) ∧ Hid (Below w11.heap.size w11 wx))
      case atStart => exact ⟨0, by omega, by omega, rfl, Lib.hid (Below.refl _ _)⟩
      case round =>
        obtain ⟨k, hk, hgk, rfl, HBk⟩ := hrel
        have HXk := Lib.hid (HX11.out.below HBk.out)
        have HMk := Lib.hid (HMB11.out.below HBk.out)
        by_cases hkl : k < nF
        · have hkli : (k : Int) < (nF : Int) := by omega
          have hik : inI (k : Int) := ⟨by omega, by omega⟩
          have hnx := mnext_calls wr M _ _ _ _ _ _ _ _ _ HMk.out (k : Int) hik
          obtain ⟨wq, rfl⟩ : ∃ y, y = wr := ⟨_, rfl⟩
          go_wp2_with fail
          refine hnx.mono ?_
          rintro e y1 ⟨v1, rfl, hO1, d1⟩
          obtain ⟨A1, n1, e1, rfl, HN1, hm1, HR1⟩ := hO1.row2
          have D1 := Lib.hid (belowThen HBk.out HBk.out.size d1)
          have HM1 := Lib.hid (HMk.out.below d1)
          have HX1 := Lib.hid (HXk.out.below d1)
          have hpv := mprev_calls y1 M _ _ _ _ _ _ _ _ _ HM1.out (k : Int) hik
          clear hnx hO1 d1 HMk HXk
          go_wp2_with fail
          refine hpv.mono ?_
          rintro e y2 ⟨v2, rfl, hO2, d2⟩
          obtain ⟨A2, n2, e2, rfl, HN2, hm2, HR2⟩ := hO2.row2
          have D2 := Lib.hid (belowThen D1.out D1.out.size d2)
          have HX2 := Lib.hid (HX1.out.below d2)
          have HR12 := Lib.hid (HR1.out.below d2)
          have hnx := HX2.out.drew.next (k : Int) (X : Int) hik
          clear hpv hO2 d2 HM1 HX1 HR1
          go_upto_region 16 with (fail)
          obtain ⟨t0, t1, t2⟩ := HX2.out.t
          go_region_held3 (fun w' => w'.cell? ⟨P, 4, none⟩ = some (.int .u64 (ep : Int)) ∧ w'.cell? ⟨P, 5, none⟩ = some (.slice AU nU cU) ∧ w'.cell? ⟨P, 6, none⟩ = some (.slice AH nH cH))
            (first | exact ⟨t0, t1, t2⟩ | exact HX3.out.t | exact HX4.out.t)
            (first
            | (go_at_call 25; (with_reducible refine hnx.mono ?_); rintro e y3 ⟨v3, rfl, hO3, d3⟩; obtain ⟨A3, n3, e3, rfl, HN3, hm3, HR3⟩ := hO3.row2; have D3 := Lib.hid d3; have HX3 := Lib.hid (HX2.out.drew.below d3); have hpv := HX3.out.prev (k : Int) (X : Int) hik; clear hO3 d3)
            | (go_at_call 26; (with_reducible refine hpv.mono ?_); rintro e y4 ⟨v4, rfl, hO4, d4⟩; obtain ⟨A4, n4, e4, rfl, HN4, hm4, HR4⟩ := hO4.row2; have D4 := Lib.hid d4; have HX4 := Lib.hid (HX3.out.below d4); clear hO4 d4))
          have D3 : Hid (Below y2.heap.size y2 y3) := Lib.hid ⟨D3.out.os, D3.out.tape, D3.out.output, D3.out.size, D3.out.block⟩
          have DD := Lib.hid (belowThen D3.out D3.out.size D4.out)
          have DE := Lib.hid (belowThen D2.out D2.out.size DD.out)
          have hn31 : n3 = n1 := HN3.out.symm.trans HN1.out
          have hn42 : n4 = n2 := HN4.out.symm.trans HN2.out
          subst hn31 hn42
          have HR1 := Lib.hid (HR12.out.below DD.out)
          have HR2 := Lib.hid (HR2.out.below DD.out)
          have HR3 := Lib.hid (HR3.out.below D4.out)
          clear hnx HR12 D3 D4 D1 D2 DD HX2 HX3 HX4 t0 t1 t2 HN1 HN2 HN3 HN4
          go_upto_region 20 with (fail)
          go_loopg [91] n3 (fun gg s91 wx => ∃ j : Nat, j ≤ n3 ∧ n3 - j ≤ gg ∧ s91 = .int .i64 (j : Int) ∧ Hid (Below y4.heap.size y4 wx))
          case atStart => exact ⟨0, by omega, by omega, rfl, Lib.hid (Below.refl _ _)⟩
          case round =>
            obtain ⟨j, hj, hgj, rfl, HJ⟩ := hrel
            by_cases hjl : j < n3
            · have hjli : (j : Int) < (n3 : Int) := by omega
              have hj0 : (0 : Int) ≤ (j : Int) := by omega
              obtain ⟨b1, o1, rfl, hb1, hc1⟩ := (HR1.out.below HJ.out).at_ j hjl
              obtain ⟨b2, o2, rfl, hb2, hc2⟩ := (HR3.out.below HJ.out).at_ j hjl
              obtain ⟨x, hx⟩ : ∃ x, (nextOf hops (k : Int) (X : Int))[j]?.getD 0 = x := ⟨_, rfl⟩
              rw [hx] at hc1 hc2
              have hxx : (x == x) = true := beq_self_eq_true _
              clear hx
              go_upto_region 22 with (fail)
              go_quiet (fail)
              go_wp2_with fail
              go_roundg (n3 - (j + 1))
              case measure => omega
              case rel => exact ⟨j + 1, by omega, by omega, by go_num, Lib.hid (belowDrewN HJ.out _)⟩
            · have hjli : ¬ ((j : Int) < (n3 : Int)) := by omega
              go_upto_region 26 with (fail)
              go_loopg [106] n4 (fun gg s106 wx => ∃ j : Nat, j ≤ n4 ∧ n4 - j ≤ gg ∧ s106 = .int .i64 (j : Int) ∧ Hid (Below y4.heap.size y4 wx))
              case atStart => exact ⟨0, by omega, by omega, rfl, HJ⟩
              case round =>
                obtain ⟨j, hj, hgj, rfl, HJ⟩ := hrel
                by_cases hjl : j < n4
                · have hjli : (j : Int) < (n4 : Int) := by omega
                  have hj0 : (0 : Int) ≤ (j : Int) := by omega
                  obtain ⟨b1, o1, rfl, hb1, hc1⟩ := (HR2.out.below HJ.out).at_ j hjl
                  obtain ⟨b2, o2, rfl, hb2, hc2⟩ := (HR4.out.below HJ.out).at_ j hjl
                  obtain ⟨x, hx⟩ : ∃ x, (prevOf hops (k : Int) (X : Int))[j]?.getD 0 = x := ⟨_, rfl⟩
                  rw [hx] at hc1 hc2
                  have hxx : (x == x) = true := beq_self_eq_true _
                  clear hx
                  go_upto_region 28 with (fail)
                  go_quiet (fail)
                  go_wp2_with fail
                  go_roundg (n4 - (j + 1))
                  case measure => omega
                  case rel => exact ⟨j + 1, by omega, by omega, by go_num, Lib.hid (belowDrewN HJ.out _)⟩
                · have hjli : ¬ ((j : Int) < (n4 : Int)) := by omega
                  go_wp2_with fail
                  go_roundg (nF - (k + 1))
                  case measure => omega
                  case rel => exact ⟨k + 1, by omega, by omega, by go_num, Lib.hid (belowThen DE.out DE.out.size HJ.out)⟩
        · have hkli : ¬ ((k : Int) < (nF : Int)) := by omega
          have htp := mtopo_calls wr.drew M _ _ _ _ _ _ _ _ _ (HMk.out.below (w' := wr.drew) ⟨rfl, rfl, rfl, Nat.le_refl _, fun _ _ => rfl⟩)
          obtain ⟨t0, t1, t2⟩ := HXk.out.t
          go_upto_region 32 with (fail)
          go_region_held3 (fun w' => w'.cell? ⟨P, 4, none⟩ = some (.int .u64 (ep : Int)) ∧ w'.cell? ⟨P, 5, none⟩ = some (.slice AU nU cU) ∧ w'.cell? ⟨P, 6, none⟩ = some (.slice AH nH cH))
            (first | exact ⟨t0, t1, t2⟩ | exact HX3.out.t | exact HX4.out.t)
            (first
            | (go_at_call 19; (with_reducible refine htp.mono ?_); rintro e y1 ⟨v1, rfl, hT1, d1⟩; have D1 := Lib.hid d1; have HX3 := Lib.hid (HXk.out.drew.below d1); have hsm := tsame_calls y1 _ _ v1 _ _ _ _ _ _ _ (hT1.tv HX3.out.few HX3.out.big.1 HX3.out.big.2) HX3.out.tv; rw [sameT_self] at hsm; clear hT1 d1)
            | (go_at_call 27; (with_reducible refine hsm.mono ?_); rintro e y2 ⟨rfl, d2⟩; have D2 := Lib.hid d2; have HX4 := Lib.hid (HX3.out.below d2); clear d2))
          have D1 : Hid (Below wr.heap.size wr y1) := Lib.hid ⟨D1.out.os, D1.out.tape, D1.out.output, D1.out.size, D1.out.block⟩
          have DD := Lib.hid (belowThen HBk.out HBk.out.size (belowThen D1.out D1.out.size D2.out))
          have DE := Lib.hid (belowThen HB11.out HB11.out.size DD.out)
          clear htp hsm
          go_wp2_with fail
          go_ret
          exact ⟨rfl, DE.out⟩
end Go.Proofs.Ythgnjojkncodeaa
