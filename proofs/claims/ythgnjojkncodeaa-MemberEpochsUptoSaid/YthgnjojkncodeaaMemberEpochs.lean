/-
  The walk of MemberEpochs.
-/
import Derived.Test.YthgnjojkncodeaaMbS
import Derived.Deep.CutBlock
namespace Go.Proofs.Ythgnjojkncodeaa
open Go.RowKit
set_option linter.unusedVariables false
set_option linter.unusedSimpArgs false

set_option maxRecDepth 100000 in
set_option maxHeartbeats 16000000 in
theorem memberEpochs_walk (w : World) (nodes : Int) (AF : Option Addr) (nF cF : Nat) (flows : List Flw) (win que : Int) (a : Nat) (AL : Option Addr) (nL cL : Nat) (ls : List (Nat × List Bool × List (List Ed))) (r : FrR) (kind frm dst fep flow : Int)
    (hi : inI nodes ∧ inI win ∧ inI que) (hF : nF ≤ cF) (hrF : Rd elFl w (fun k => k < w.heap.size) AF nF flows) (ha : a ≤ 255) (hL : nL ≤ cL) (hrL : Rd elTo w (fun k => k < w.heap.size) AL nL ls) (hfw : ∀ t ∈ ls, Few t.2.2 ∧ t.2.1.length ≤ 1048576 ∧ t.2.2.length ≤ 1048576) (hfl : inI flow) :
    Calls Try.prog 4 #[.agg (#[.int .i64 nodes, .slice AF nF cF, .int .i64 win, .int .i64 que, .int .u8 (a : Int), .slice AL nL cL] ++ frCells r kind frm dst fep flow)] w fun e w' => e = .returned (.bool true) ∧ Below w.heap.size w w' := by
  obtain ⟨life, gen, seq, fo, te, A, nA, cA, B, nB, cB, C, nC, cC, D, nD, cD, E, nE, cE⟩ := r
  obtain ⟨r, hr⟩ : ∃ r : FrR, (⟨life, gen, seq, fo, te, A, nA, cA, B, nB, cB, C, nC, cC, D, nD, cD, E, nE, cE⟩ : FrR) = r := ⟨_, rfl⟩
  obtain ⟨w1, hw1⟩ : ∃ w1, w.alloc (.cells #[.int .i64 nodes, .slice AF nF cF, .int .i64 win, .int .i64 que, .int .u8 (a : Int), .slice AL nL cL, .int .i64 kind, .int .i64 frm, .int .i64 dst, .int .u64 fep, .int .u64 life, .int .i64 flow, .int .u64 gen, .int .u64 seq, .int .u64 fo, .slice A nA cA, .slice B nB cB, .slice C nC cC, .int .u64 te, .slice D nD cD, .slice E nE cE] 54) = w1 := ⟨_, rfl⟩
  have b1 : Below w.heap.size w w1 := by rw [← hw1]; exact (Below.refl _ _).alloc (Nat.le_refl _) _
  have s1 : w1.heap.size = w.heap.size + 1 := by rw [← hw1]; simp
  have e1 : w1.heap[w.heap.size]? = some (.cells #[.int .i64 nodes, .slice AF nF cF, .int .i64 win, .int .i64 que, .int .u8 (a : Int), .slice AL nL cL, .int .i64 kind, .int .i64 frm, .int .i64 dst, .int .u64 fep, .int .u64 life, .int .i64 flow, .int .u64 gen, .int .u64 seq, .int .u64 fo, .slice A nA cA, .slice B nB cB, .slice C nC cC, .int .u64 te, .slice D nD cD, .slice E nE cE] 54 (0, 0)) := by rw [← hw1]; exact heap_alloc_new w _
  obtain ⟨P, hP⟩ : ∃ P, w.heap.size = P := ⟨_, rfl⟩
  rw [hP] at e1
  have HCELL : Hid (w1.cell? ⟨P, 0, none⟩ = some (.int .i64 nodes) ∧ w1.cell? ⟨P, 1, none⟩ = some (.slice AF nF cF) ∧ w1.cell? ⟨P, 2, none⟩ = some (.int .i64 win) ∧ w1.cell? ⟨P, 3, none⟩ = some (.int .i64 que) ∧ w1.cell? ⟨P, 4, none⟩ = some (.int .u8 (a : Int)) ∧ w1.cell? ⟨P, 5, none⟩ = some (.slice AL nL cL) ∧
      w1.cell? ⟨P, 6, none⟩ = some (.int .i64 kind) ∧ w1.cell? ⟨P, 7, none⟩ = some (.int .i64 frm) ∧ w1.cell? ⟨P, 8, none⟩ = some (.int .i64 dst) ∧ w1.cell? ⟨P, 9, none⟩ = some (.int .u64 fep) ∧ w1.cell? ⟨P, 10, none⟩ = some (.int .u64 life) ∧ w1.cell? ⟨P, 11, none⟩ = some (.int .i64 flow) ∧
      w1.cell? ⟨P, 12, none⟩ = some (.int .u64 gen) ∧ w1.cell? ⟨P, 13, none⟩ = some (.int .u64 seq) ∧ w1.cell? ⟨P, 14, none⟩ = some (.int .u64 fo) ∧ w1.cell? ⟨P, 15, none⟩ = some (.slice A nA cA) ∧ w1.cell? ⟨P, 16, none⟩ = some (.slice B nB cB) ∧ w1.cell? ⟨P, 17, none⟩ = some (.slice C nC cC) ∧
      w1.cell? ⟨P, 18, none⟩ = some (.int .u64 te) ∧ w1.cell? ⟨P, 19, none⟩ = some (.slice D nD cD) ∧ w1.cell? ⟨P, 20, none⟩ = some (.slice E nE cE)) := Lib.hid (by
    refine ⟨?_, ?_, ?_, ?_, ?_, ?_, ?_, ?_, ?_, ?_, ?_, ?_, ?_, ?_, ?_, ?_, ?_, ?_, ?_, ?_, ?_⟩ <;> simp [World.cell?, e1])
  have hPl : P < w1.heap.size := by omega
  have HW1 := Lib.hid hw1
  have HB1 := Lib.hid b1
  have HRF := Lib.hid (hrF.below b1)
  have HRL := Lib.hid (hrL.below b1)
  have HFW := Lib.hid hfw
  have HI := Lib.hid hi
  have HR := Lib.hid hr
  clear hw1 b1 e1 hrF hrL s1 hfw hi hr
  unfold frCells
  show Calls Try.prog 4 #[.agg #[.int .i64 nodes, .slice AF nF cF, .int .i64 win, .int .i64 que, .int .u8 (a : Int), .slice AL nL cL, .int .i64 kind, .int .i64 frm, .int .i64 dst, .int .u64 fep, .int .u64 life, .int .i64 flow, .int .u64 gen, .int .u64 seq, .int .u64 fo, .slice A nA cA, .slice B nB cB, .slice C nC cC, .int .u64 te, .slice D nD cD, .slice E nE cE]] w _
  go_enter Try.func4, Try.ntmps4
  go_upto_region 1 with (fail)
  rw [HW1.out]
  try rw [hP]
  clear hP
  obtain ⟨c0, c1, c2, c3, c4, c5, c6, c7, c8, c9, c10, c11, c12, c13, c14, c15, c16, c17, c18, c19, c20⟩ := HCELL.out
  go_cut [3, 4, 5, 6] (fun s3 s4 s5 s6 wx => ∃ PC PF, s3 = .pointer (some ⟨PC, 0, none⟩) ∧ s6 = .pointer (some ⟨PF, 0, none⟩) ∧ s4 = .int .u8 (a : Int) ∧ s5 = .slice AL nL cL ∧ PC < wx.heap.size ∧ PF < wx.heap.size ∧ w1.heap.size ≤ PC ∧ w1.heap.size ≤ PF ∧ PC ≠ PF ∧
    Hid (EB wx PC PF nodes AF nF cF flows win que AL nL ls r kind frm dst fep flow (fun k => k < w.heap.size)) ∧ Hid (Below w1.heap.size w1 wx))
  case first => as_aux_lemma =>
    go_region_held3 (fun w' => w'.cell? ⟨P, 0, none⟩ = some (.int .i64 nodes) ∧ w'.cell? ⟨P, 1, none⟩ = some (.slice AF nF cF) ∧ w'.cell? ⟨P, 2, none⟩ = some (.int .i64 win) ∧ w'.cell? ⟨P, 3, none⟩ = some (.int .i64 que) ∧ w'.cell? ⟨P, 4, none⟩ = some (.int .u8 (a : Int)) ∧ w'.cell? ⟨P, 5, none⟩ = some (.slice AL nL cL) ∧
      w'.cell? ⟨P, 6, none⟩ = some (.int .i64 kind) ∧ w'.cell? ⟨P, 7, none⟩ = some (.int .i64 frm) ∧ w'.cell? ⟨P, 8, none⟩ = some (.int .i64 dst) ∧ w'.cell? ⟨P, 9, none⟩ = some (.int .u64 fep) ∧ w'.cell? ⟨P, 10, none⟩ = some (.int .u64 life) ∧ w'.cell? ⟨P, 11, none⟩ = some (.int .i64 flow) ∧
      w'.cell? ⟨P, 12, none⟩ = some (.int .u64 gen) ∧ w'.cell? ⟨P, 13, none⟩ = some (.int .u64 seq) ∧ w'.cell? ⟨P, 14, none⟩ = some (.int .u64 fo) ∧ w'.cell? ⟨P, 15, none⟩ = some (.slice A nA cA) ∧ w'.cell? ⟨P, 16, none⟩ = some (.slice B nB cB) ∧ w'.cell? ⟨P, 17, none⟩ = some (.slice C nC cC) ∧
      w'.cell? ⟨P, 18, none⟩ = some (.int .u64 te) ∧ w'.cell? ⟨P, 19, none⟩ = some (.slice D nD cD) ∧ w'.cell? ⟨P, 20, none⟩ = some (.slice E nE cE))
      (first | exact HCELL.out | go_keep)
      (fail)
    · go_wp2_with fail
      go_meet
      obtain ⟨x1, x2, x3⟩ := two_made w1 (.cells #[.int .i64 nodes, .slice AF nF cF, .int .i64 win, .int .i64 que] 24) (.cells #[.int .i64 kind, .int .i64 frm, .int .i64 dst, .int .u64 fep, .int .u64 life, .int .i64 flow, .int .u64 gen, .int .u64 seq, .int .u64 fo, .slice A nA cA, .slice B nB cB, .slice C nC cC, .int .u64 te, .slice D nD cD, .slice E nE cE] 49)
      exact ⟨_, _, rfl, rfl, rfl, rfl, (Array.getElem?_eq_some_iff.1 x1).1, (Array.getElem?_eq_some_iff.1 x2).1, Nat.le_refl _, by omega, by omega, Lib.hid ⟨x1, by rw [← HR.out]; exact x2, HI.out, hF, HRF.out.below x3, HRL.out.below x3⟩, Lib.hid x3⟩
    · go_wp2_with fail
      go_meet
      obtain ⟨x1, x2, x3⟩ := two_made w1 (.cells #[.int .i64 kind, .int .i64 frm, .int .i64 dst, .int .u64 fep, .int .u64 life, .int .i64 flow, .int .u64 gen, .int .u64 seq, .int .u64 fo, .slice A nA cA, .slice B nB cB, .slice C nC cC, .int .u64 te, .slice D nD cD, .slice E nE cE] 49) (.cells #[.int .i64 nodes, .slice AF nF cF, .int .i64 win, .int .i64 que] 24)
      exact ⟨_, _, rfl, rfl, rfl, rfl, (Array.getElem?_eq_some_iff.1 x2).1, (Array.getElem?_eq_some_iff.1 x1).1, by omega, Nat.le_refl _, by omega, Lib.hid ⟨x2, by rw [← HR.out]; exact x1, HI.out, hF, HRF.out.below x3, HRL.out.below x3⟩, Lib.hid x3⟩
  case rest =>
    obtain ⟨PC, PF, rfl, rfl, rfl, rfl, hl1, hl2, hl3, hl4, hl5, HEB, HBX⟩ := hcut
    clear c0 c1 c2 c3 c4 c5 c6 c7 c8 c9 c10 c11 c12 c13 c14 c15 c16 c17 c18 c19 c20 HCELL hPl HRF HRL
    have haw := awake_calls wc
    go_wp2_with fail
    refine haw.mono ?_
    rintro e w2 ⟨rfl, b2⟩
    have HE2 := Lib.hid (HEB.out.below b2)
    have HX2 : Hid (Below w.heap.size w w2) := Lib.hid (belowThen (belowThen HB1.out HB1.out.size HBX.out) (by have := HB1.out.size; have := HBX.out.size; omega) b2)
    have HLP : Hid (w.heap.size ≤ PC ∧ w.heap.size ≤ PF ∧ PC < w2.heap.size ∧ PF < w2.heap.size ∧ PC ≠ PF) := Lib.hid (by have := HB1.out.size; have := b2.size; omega)
    clear haw b2 HEB hl1 hl2 hl3 hl4 hl5
    obtain ⟨c0, c1, c2, c3⟩ := HE2.out.c
    cases hcf : configOk nodes flows win que with
    | false => as_aux_lemma =>
      have hk := HE2.out.config false hcf
      have HCF := Lib.hid hcf
      clear hcf
      go_wp2_with fail
      refine hk.mono ?_
      rintro e w3 ⟨rfl, b3⟩
      have HX3 := Lib.hid (belowThen HX2.out HX2.out.size b3)
      have hk := (HE2.out.below b3).newNo HCF.out (a : Int) ⟨by omega, by omega⟩
      have x3 : IntKind.i64.wrap (a : Int) = (a : Int) := IntWalk.i64_in _ ⟨by omega, by omega⟩
      clear c0 c1 c2 c3
      obtain ⟨c0, c1, c2, c3⟩ := (HE2.out.below b3).c
      clear b3
      go_wp2_with fail
      refine hk.mono ?_
      rintro e w4 ⟨rfl, b4⟩
      go_wp2_with fail
      go_ret
      exact ⟨rfl, belowThen HX3.out HX3.out.size b4⟩
    | true =>
      have hk := HE2.out.config true hcf
      have HCF := Lib.hid hcf
      clear hcf
      go_wp2_with fail
      refine hk.mono ?_
      rintro e w3 ⟨rfl, b3⟩
      have HE3 := Lib.hid (HE2.out.below b3)
      have HX3 := Lib.hid (belowThen HX2.out HX2.out.size b3)
      have hs23 := b3.size
      obtain ⟨hn1, hn2⟩ := config_nodes HCF.out
      obtain ⟨N, hN⟩ : ∃ N : Nat, nodes = (N : Int) := ⟨nodes.toNat, by omega⟩
      subst hN
      obtain ⟨X, hX⟩ : ∃ X, a % N = X := ⟨_, rfl⟩
      have hXN : X < N := by rw [← hX]; exact Nat.mod_lt _ (by omega)
      have x0 : IntKind.i64.wrap (a : Int) = (a : Int) := IntWalk.i64_in _ ⟨by omega, by omega⟩
      have x1 : (a : Int) % (N : Int) = (X : Int) := by rw [← hX]; rfl
      have x2 : (a : Int).tmod (N : Int) = (X : Int) := by rw [Int.tmod_eq_emod_of_nonneg (by omega)]; exact x1
      have x3 : IntKind.i64.wrap (X : Int) = (X : Int) := IntWalk.i64_in _ ⟨by omega, by omega⟩
      have hN0 : ((N : Int) == 0) = false := beq_eq_false_iff_ne.2 (by omega)
      have HXX := Lib.hid hX
      have hk := HE3.out.new (fun k hk => by have := HX3.out.size; omega) HCF.out (X : Int) (by omega) (by omega)
      clear hX b3 HE2 HX2 c0 c1 c2 c3
      obtain ⟨c0, c1, c2, c3⟩ := HE3.out.c
      go_wp2_with fail
      refine hk.mono ?_
      rintro e w4 ⟨M, rfl, hM, hMB, b4⟩
      have HE4 := Lib.hid (HE3.out.below b4)
      have HX4 := Lib.hid (belowThen HX3.out HX3.out.size b4)
      have hMl := hMB.lt
      have HLM : Hid (w.heap.size ≤ M ∧ PC ≠ M ∧ PF ≠ M) := Lib.hid (by have := HX3.out.size; have := HLP.out; omega)
      have HM4 := Lib.hid (hMB.mono (ok' := fun k => k ≠ M ∧ k ≠ PF) (fun k hk _ => by have := HLM.out; have := HLP.out; have := HX3.out.size; rcases hk with h | ⟨h, h2⟩ <;> exact ⟨by omega, by omega⟩) (fun h => h.1 rfl))
      have hinX : inI (X : Int) := ⟨by omega, by omega⟩
      have hLm := HE4.out.rl.max
      clear hk hM hMB b4 hMl c0 c1 c2 c3 x0 x1 x2 hN0 hs23 HE3 HX3
      go_wp2_with fail
      go_loopg [12, 61] nL (fun gg s12 s61 wr => ∃ (k : Nat) (ep : Nat) (up : List Bool) (hops : List (List Ed)) (d2 f2 : Int), k ≤ nL ∧ nL - k ≤ gg ∧ k ≤ 20 ∧ s12 = .int .u64 (ep : Int) ∧ s61 = .int .i64 (k : Int) ∧
        Hid (MB wr M (fun k => k ≠ M ∧ k ≠ PF) (N : Int) flows win que (X : Int) (ep : Int) up hops) ∧ Hid (EB wr PC PF (N : Int) AF nF cF flows win que AL nL ls r kind frm d2 f2 flow (fun k => k < w.heap.size)) ∧
        ep ≤ 1125899906842624 ∧ (ep = 0 ∨ hops.length = nF) ∧ Hid (Below w.heap.size w wr) ∧ w4.heap.size ≤ wr.heap.size)
      case atStart => exact ⟨0, 0, [], [], dst, fep, by omega, by omega, by omega, rfl, rfl, HM4, HE4, by omega, .inl rfl, HX4, Nat.le_refl _⟩
      case round =>
        obtain ⟨k, ep, up, hops, d2, f2, hk, hgk, hk20, rfl, rfl, HM, HE, hep, hhp, HX, hsz⟩ := hrel
        obtain ⟨c0, c1, c2, c3⟩ := HE.out.c
        by_cases hkl : k < nL
        · have hkli : (k : Int) < (nL : Int) := by omega
          have hik : inI (k : Int) := ⟨by omega, by omega⟩
          obtain ⟨b, o, ep2, up2, hops2, A2, n2, cc2, B2, m2, dd2, hmem, rfl, ⟨v0, v1, v2⟩, hT, he2⟩ := HE.out.el hkl
          obtain ⟨w5, hw5⟩ : ∃ w5, wr.alloc (.cells #[.int .u64 (ep2 : Int), .slice A2 n2 cc2, .slice B2 m2 dd2] 29) = w5 := ⟨_, rfl⟩
          have b5 : Below wr.heap.size wr w5 := by rw [← hw5]; exact (Below.refl _ _).alloc (Nat.le_refl _) _
          have s5 : w5.heap.size = wr.heap.size + 1 := by rw [← hw5]; simp
          have e5 : w5.heap[wr.heap.size]? = some (.cells #[.int .u64 (ep2 : Int), .slice A2 n2 cc2, .slice B2 m2 dd2] 29 (0, 0)) := by rw [← hw5]; exact heap_alloc_new wr _
          have HB5 := Lib.hid b5
          have HW5 := Lib.hid hw5
          have HX5 := Lib.hid (belowThen HX.out HX.out.size b5)
          have HT5 := Lib.hid (hT.below b5)
          have HM5 := Lib.hid (HM.out.below b5)
          have HE5 := Lib.hid (HE.out.below b5)
          by_cases hk2 : k = 20
          · subst hk2
            go_upto_region 15 with (fail)
            try rw [HW5.out]
            go_wp2_with fail
            go_ret
            exact ⟨rfl, HX5.out⟩
          · have hk2i : ((k : Int) == 20) = false := beq_eq_false_iff_ne.2 (by omega)
            go_upto_region 15 with (fail)
            try rw [HW5.out]
            obtain ⟨Q, hQ⟩ : ∃ Q, wr.heap.size = Q := ⟨_, rfl⟩
            try rw [hQ]
            rw [hQ] at e5
            have q0 : w5.cell? ⟨Q, 0, none⟩ = some (.int .u64 (ep2 : Int)) := by simp [World.cell?, e5]
            have q1 : w5.cell? ⟨Q, 1, none⟩ = some (.slice A2 n2 cc2) := by simp [World.cell?, e5]
            have q2 : w5.cell? ⟨Q, 2, none⟩ = some (.slice B2 m2 dd2) := by simp [World.cell?, e5]
            have hQl : Q < w5.heap.size := by omega
            have HQ := Lib.hid (show PC ≠ Q ∧ PF ≠ Q ∧ M ≠ Q ∧ w.heap.size ≤ Q ∧ Q < w5.heap.size from by have := (Array.getElem?_eq_some_iff.1 HE.out.bc).1; have := (Array.getElem?_eq_some_iff.1 HE.out.bf).1; have := HM.out.lt; have := HX.out.size; omega)
            have HFT := Lib.hid (HFW.out _ hmem)
            have htk := mtake_calls w5 M _ _ _ _ _ _ _ _ _ HM5.out _ (ep2 : Int) up2 hops2 (HT5.out.mono fun k _ h => h) HFT.out.1 HFT.out.2.1 HFT.out.2.2
            have hs45 : w4.heap.size ≤ w5.heap.size := by omega
            clear hw5 b5 s5 e5 hQ v0 v1 v2 hT hmem c0 c1 c2 c3 HM HE
            go_wp2_with fail
            refine htk.mono ?_
            rintro e w6 hret
            obtain ⟨c, mb, ep', up', hops', rfl, HMB, hc0, hep', HM6, hep6, hhp6, HC6⟩ : ∃ (c : Int) (mb : Bool) (ep' : Nat) (up' : List Bool) (hops' : List (List Ed)), e = .returned (.int .i64 c) ∧ Hid (mayOk (N : Int) flows win que (ep2 : Int) up2 hops2 = mb) ∧ (c == 0) = (mb && decide (ep < ep2)) ∧ ep' = (if c == 0 then ep2 else ep) ∧
                Hid (MB w6 M (fun k => k ≠ M ∧ k ≠ PF) (N : Int) flows win que (X : Int) (ep' : Int) up' hops') ∧ ep' ≤ 1125899906842624 ∧ (ep' = 0 ∨ hops'.length = nF) ∧ Hid (Chg (fun k => k = M) w5 w6) := by
              rcases hret with ⟨h1, rfl, hb⟩ | ⟨h1, h2, rfl, hb⟩ | ⟨h1, h2, rfl, hc, hm⟩
              · exact ⟨1, false, ep, up, hops, rfl, Lib.hid h1, rfl, rfl, Lib.hid (HM5.out.below hb), hep, hhp, Lib.hid (Chg.ofBelow hb)⟩
              · exact ⟨22, true, ep, up, hops, rfl, Lib.hid h1, by rw [decide_eq_false (by omega)]; rfl, rfl, Lib.hid (HM5.out.below hb), hep, hhp, Lib.hid (Chg.ofBelow hb)⟩
              · obtain ⟨_, _, f3, _, f5⟩ := may_facts h1
                have hfl5 := HE5.out.rf.len
                have hM5 := HM5.out.lt
                have hPF5 := (Array.getElem?_eq_some_iff.1 HE5.out.bf).1
                exact ⟨0, true, ep2, up2, hops2, rfl, Lib.hid h1, by rw [decide_eq_true (by omega)]; rfl, rfl, Lib.hid (hm.mono (fun k hk hl => hk.elim id fun h => ⟨by omega, by omega⟩) (fun h => h.1 rfl)), by omega, .inr (by omega), Lib.hid hc⟩
            have HE6 := Lib.hid (HE5.out.chg HC6.out fun k _ e => by have e : k = M := e; have := HLM.out; exact ⟨by omega, by omega, by omega⟩)
            have HT6 := Lib.hid (HT5.out.chgT HC6.out fun k _ hk e => by have e : k = M := e; have := HLM.out; omega)
            have HX6 := Lib.hid (HC6.out.below HX5.out HX5.out.size fun k hk => by have := HLM.out; omega)
            have hqb := HC6.out.block Q hQl fun e => HQ.out.2.2.1 (Eq.symm e)
            have r0 : w6.cell? ⟨Q, 0, none⟩ = some (.int .u64 (ep2 : Int)) := (World.cell?_of_block (a := ⟨Q, 0, none⟩) hqb).trans q0
            have r1 : w6.cell? ⟨Q, 1, none⟩ = some (.slice A2 n2 cc2) := (World.cell?_of_block (a := ⟨Q, 1, none⟩) hqb).trans q1
            have r2 : w6.cell? ⟨Q, 2, none⟩ = some (.slice B2 m2 dd2) := (World.cell?_of_block (a := ⟨Q, 2, none⟩) hqb).trans q2
            have hs56 := HC6.out.size
            clear htk hret q0 q1 q2 hqb HM5 HE5 HX5 hhp hep
            go_upto_region 17 with (fail)
            go_cut [82] (fun s82 wx => s82 = .bool false ∧ Hid (Below w6.heap.size w6 wx))
            case first => as_aux_lemma =>
              have hmy := HE6.out.may HT6.out HFT.out.1 mb HMB.out
              obtain ⟨c0, c1, c2, c3⟩ := HE6.out.c
              by_cases hlt : (ep : Int) < (ep2 : Int)
              · rw [decide_eq_true (show ep < ep2 by omega)] at hc0
                cases mb
                all_goals
                  rw [show (_ && _) = _ from rfl] at hc0
                  go_wp2_with fail
                  refine hmy.mono ?_
                  rintro e w7 ⟨rfl, b7⟩
                  have z0 := cellBelow b7 r0
                  go_wp2_with fail
                  go_meet
                  exact ⟨rfl, Lib.hid b7⟩
              · rw [decide_eq_false (show ¬ ep < ep2 by omega)] at hc0
                cases mb
                all_goals
                  go_wp2_with fail
                  refine hmy.mono ?_
                  rintro e w7 ⟨rfl, b7⟩
                  have z0 := cellBelow b7 r0
                  go_wp2_with fail
                  go_meet
                  first | exact ⟨rfl, Lib.hid b7⟩ | exact ⟨congrArg Value.bool (decide_eq_false (by omega)), Lib.hid b7⟩
            case rest =>
              obtain ⟨rfl, HB7⟩ := hcut
              have z0 := cellBelow HB7.out r0
              clear r0 r1 r2
              have HM7 := Lib.hid (HM6.out.below HB7.out)
              have HE7 := Lib.hid (HE6.out.below HB7.out)
              have HX7 := Lib.hid (belowThen HX6.out HX6.out.size HB7.out)
              have hs7 := HB7.out.size
              clear HM6 HE6 HX6 HT6 HT5 HFT HMB HB5 HW5
              clear hc0
              go_upto_region 19 with (fail)
              go_upto_if 84 with (fail)
              go_cut [12] (fun s12 wx => s12 = .int .u64 (ep' : Int) ∧ wx = wc)
              case first => as_aux_lemma =>
                by_cases hcz : c = 0
                · subst hcz
                  have hq : ep' = ep2 := hep'
                  have HQ2 := Lib.hid hq
                  clear hep' hq
                  go_wp2_with fail
                  go_meet
                  exact ⟨by rw [HQ2.out], rfl⟩
                · have hcc : (c == 0) = false := beq_eq_false_iff_ne.2 hcz
                  rw [hcc] at hep'
                  have hq : ep' = ep := hep'
                  have HQ2 := Lib.hid hq
                  clear hep' hq
                  go_wp2_with fail
                  go_meet
                  exact ⟨by rw [HQ2.out], rfl⟩
              case rest =>
                obtain ⟨rfl, hwe⟩ := hcut
                subst hwe
                clear z0 hep' he2
                have hpk := mepoch_calls _ M _ _ _ _ _ _ _ _ _ HM7.out
                go_upto_region 21 with (fail)
                go_wp2_with fail
                refine hpk.mono ?_
                rintro e w8 ⟨rfl, rfl⟩
                clear hpk
                have g1 := HE7.out.fz 2
                have g2 := HE7.out.f.2.2.1
                obtain ⟨w9, hw9⟩ : ∃ w9, wc.setCell ⟨PF, 2, none⟩ (.int .i64 (X : Int)) = w9 := ⟨_, rfl⟩
                have hc9 : Chg (fun k => k = PF) wc w9 := by rw [← hw9]; exact Chg.set wc ⟨PF, 2, none⟩ _
                have HE9 := Lib.hid (HE7.out.to HLP.out.2.2.2.2 (fun h => by have := HLP.out; omega) (X : Int))
                rw [hw9] at HE9
                have HM9 := Lib.hid (HM7.out.chg hc9 fun k _ e => by have e : k = PF := e; exact ⟨fun e2 => HLM.out.2.2 (e.symm.trans e2), fun hh => hh.2 e⟩)
                have HX9 := Lib.hid (hc9.below HX7.out HX7.out.size fun k hk => by have := HLP.out; omega)
                have hs9 := hc9.size
                obtain ⟨y0, hy0⟩ : ∃ y0, IntKind.u64.wrap ((ep' : Int) - 1) = y0 := ⟨_, rfl⟩
                obtain ⟨y2, hy2⟩ : ∃ y2, IntKind.u64.wrap ((ep' : Int) + 1) = y2 := ⟨_, rfl⟩
                obtain ⟨w10, hw10⟩ : ∃ w10, w9.alloc (.cells #[.int .u64 y0, .int .u64 (ep' : Int), .int .u64 y2] 25) = w10 := ⟨_, rfl⟩
                have b10 : Below w9.heap.size w9 w10 := by rw [← hw10]; exact (Below.refl _ _).alloc (Nat.le_refl _) _
                have e10 : w10.heap[w9.heap.size]? = some (.cells #[.int .u64 y0, .int .u64 (ep' : Int), .int .u64 y2] 25 (0, 0)) := by rw [← hw10]; exact heap_alloc_new w9 _
                have HW9 := Lib.hid hw9
                have HW10 := Lib.hid hw10
                clear hc9 HM7 HE7 HX7
                go_upto_region 24 with (fail)
                try rw [HW9.out]
                clear g1 g2 hw9
                go_upto_region 25 with (fail)
                obtain ⟨R, hR⟩ : ∃ R, w9.heap.size = R := ⟨_, rfl⟩
                try rw [HW10.out]
                try rw [hR]
                rw [hR] at e10
                have HE10 := Lib.hid (HE9.out.below b10)
                have HM10 := Lib.hid (HM9.out.below b10)
                have HX10 := Lib.hid (belowThen HX9.out HX9.out.size b10)
                have hPR : PF ≠ R := by have := (Array.getElem?_eq_some_iff.1 HE9.out.bf).1; omega
                have hs10 := b10.size
                have HC10 := Lib.hid e10
                clear hw10 b10 e10 HE9 HM9 HX9 hR hy0 hy2
                go_loopg [100] 3 (fun gg s100 wl => ∃ (j : Nat) (f3 : Int), j ≤ 3 ∧ 3 - j ≤ gg ∧ s100 = .int .i64 (j : Int) ∧ Hid (MB wl M (fun k => k ≠ M ∧ k ≠ PF) (N : Int) flows win que (X : Int) (ep' : Int) up' hops') ∧
                  Hid (EB wl PC PF (N : Int) AF nF cF flows win que (some ⟨b, o, none⟩) nL ls r kind frm (X : Int) f3 flow (fun k => k < w.heap.size)) ∧ Hid (wl.heap[R]? = some (.cells #[.int .u64 y0, .int .u64 (ep' : Int), .int .u64 y2] 25 (0, 0))) ∧ Hid (Below w.heap.size w wl) ∧ w10.heap.size ≤ wl.heap.size)
                case atStart => exact ⟨0, f2, by omega, by omega, rfl, HM10, HE10, HC10, HX10, Nat.le_refl _⟩
                case round =>
                  obtain ⟨j, f3, hj, hgj, rfl, HMl, HEl, HCl, HXl, hsl⟩ := hrel
                  by_cases hj3 : j < 3
                  · as_aux_lemma =>
                    have hji : (j : Int) < 3 := by omega
                    have hij : inI (j : Int) := ⟨by omega, by omega⟩
                    obtain ⟨x, hx⟩ : ∃ x : Int, wr.cell? ⟨R, j, none⟩ = some (.int .u64 x) := by
                      have h := HCl.out
                      rcases (by omega : j = 0 ∨ j = 1 ∨ j = 2) with rfl | rfl | rfl
                      · exact ⟨y0, by simp [World.cell?, h]⟩
                      · exact ⟨(ep' : Int), by simp [World.cell?, h]⟩
                      · exact ⟨y2, by simp [World.cell?, h]⟩
                    have g1 := HEl.out.fz 3
                    have g2 := HEl.out.f.2.2.2.1
                    obtain ⟨w11, hw11⟩ : ∃ w11, wr.setCell ⟨PF, 3, none⟩ (.int .u64 x) = w11 := ⟨_, rfl⟩
                    have hc11 : Chg (fun k => k = PF) wr w11 := by rw [← hw11]; exact Chg.set wr ⟨PF, 3, none⟩ _
                    have HE11 := Lib.hid (HEl.out.ep HLP.out.2.2.2.2 (fun h => by have := HLP.out; omega) x)
                    rw [hw11] at HE11
                    have HM11 := Lib.hid (HMl.out.chg hc11 fun k _ e => by have e : k = PF := e; exact ⟨fun e2 => HLM.out.2.2 (e.symm.trans e2), fun hh => hh.2 e⟩)
                    have HX11 := Lib.hid (hc11.below HXl.out HXl.out.size fun k hk => by have := HLP.out; omega)
                    have hRl := (Array.getElem?_eq_some_iff.1 HCl.out).1
                    have HC11 := Lib.hid ((hc11.block R hRl fun e => hPR (Eq.symm e)).trans HCl.out)
                    have hs11 := hc11.size
                    have HW11 := Lib.hid hw11
                    have hof := of_calls w11 M _ _ _ _ _ _ _ _ _ HM11.out r kind frm (X : Int) x flow hfl
                    obtain ⟨q, hq⟩ : ∃ q, ofRes flows (X : Int) (ep' : Int) hops' kind frm (X : Int) x flow = q := ⟨_, rfl⟩
                    rw [hq] at hof
                    have HQQ := Lib.hid hq
                    unfold FrR.val at hof
                    clear hc11 hq HMl HEl HXl HCl
                    go_upto_region 28 with (fail)
                    try rw [HW11.out]
                    clear g1 g2 hw11 hx
                    obtain ⟨f0, f1, f2', f3', f4, f5, f6, f7, f8, f9, f10, f11, f12, f13, f14⟩ := HE11.out.f
                    by_cases hq0 : q = 0
                    · obtain ⟨z1, z2⟩ := of_zero (HQQ.out.trans hq0)
                      have hb1 : (x == (ep' : Int)) = true := by rw [z1]; exact beq_self_eq_true _
                      have hb2 : (x == 0) = false := beq_eq_false_iff_ne.2 z2
                      have HZ := Lib.hid (And.intro z1 z2)
                      clear HQQ z1 z2
                      subst hq0
                      go_wp2_with fail
                      refine hof.mono ?_
                      rintro e w12 ⟨rfl, b12⟩
                      have hs12 := b12.size
                      clear hof f0 f1 f2' f3' f4 f5 f6 f7 f8 f9 f10 f11 f12 f13 f14
                      go_wp2_with fail
                      any_goals (exfalso; have := HZ.out; omega)
                      go_roundg (3 - (j + 1))
                      case measure => omega
                      case rel => exact ⟨j + 1, x, by omega, by omega, by go_num, Lib.hid (HM11.out.below b12), Lib.hid (HE11.out.below b12), Lib.hid ((b12.block R (by omega)).trans HC11.out), Lib.hid (belowThen HX11.out HX11.out.size b12), by omega⟩
                    · have hb1 : (q == 0) = false := beq_eq_false_iff_ne.2 hq0
                      clear HQQ
                      go_wp2_with fail
                      refine hof.mono ?_
                      rintro e w12 ⟨rfl, b12⟩
                      have hs12 := b12.size
                      clear hof f0 f1 f2' f3' f4 f5 f6 f7 f8 f9 f10 f11 f12 f13 f14 hq0
                      go_wp2_with fail
                      go_roundg (3 - (j + 1))
                      case measure => omega
                      case rel => exact ⟨j + 1, x, by omega, by omega, by go_num, Lib.hid (HM11.out.below b12), Lib.hid (HE11.out.below b12), Lib.hid ((b12.block R (by omega)).trans HC11.out), Lib.hid (belowThen HX11.out HX11.out.size b12), by omega⟩
                  · as_aux_lemma =>
                    have hji : ¬ ((j : Int) < 3) := by omega
                    obtain rfl : j = 3 := by omega
                    by_cases he0 : ep' = 0
                    · have he0i : ((ep' : Int) == 0) = true := by rw [he0]; rfl
                      go_wp2_with fail
                      go_roundg (nL - (k + 1))
                      case measure => omega
                      case rel => exact ⟨k + 1, ep', up', hops', _, _, by omega, by omega, by omega, by rw [he0]; rfl, by go_num, HMl, HEl, hep6, hhp6, HXl, by omega⟩
                    · as_aux_lemma =>
                      have he0i : ((ep' : Int) == 0) = false := beq_eq_false_iff_ne.2 (by omega)
                      obtain ⟨wA, rfl⟩ : ∃ y, y = wr := ⟨_, rfl⟩
                      obtain ⟨c0, c1, c2, c3⟩ := HEl.out.c
                      have hhl : hops'.length = nF := hhp6.resolve_left he0
                      have hep1 : 1 ≤ (ep' : Int) := by omega
                      have HFL := Lib.hid HEl.out.rf.len
                      have HHL := Lib.hid hhl
                      have hFm := HEl.out.rf.max
                      have HP1 := Lib.hid hep1
                      have HHP := Lib.hid hhp6
                      have HE0 := Lib.hid he0
                      clear hhl hep1 hhp6 he0
                      go_upto_region 33 with (fail)
                      clear c0 c1 c2 c3
                      go_loopg [125] nF (fun gg s125 wx => ∃ k3 : Nat, k3 ≤ nF ∧ nF - k3 ≤ gg ∧ s125 = .int .i64 (k3 : Int) ∧ Hid (Below wA.heap.size wA wx))
                      case atStart => exact ⟨0, by omega, by omega, rfl, Lib.hid (Below.refl _ _)⟩
                      case round =>
                        obtain ⟨k3, hk3, hgk3, rfl, HB3⟩ := hrel
                        by_cases hk3l : k3 < nF
                        · as_aux_lemma =>
                          have hk3i : (k3 : Int) < (nF : Int) := by omega
                          have hik3 : inI (k3 : Int) := ⟨by omega, by omega⟩
                          obtain ⟨wB, rfl⟩ : ∃ y, y = wr := ⟨_, rfl⟩
                          obtain ⟨c0, c1, c2, c3⟩ := (HEl.out.below HB3.out).c
                          obtain ⟨es, hes⟩ : ∃ es, hops'[k3]? = some es := ⟨_, List.getElem?_eq_getElem (by rw [HHL.out]; exact hk3l)⟩
                          have heo : edgesOf hops' (k3 : Int) = es := by unfold edgesOf; rw [if_pos (by omega)]; simp [hes]
                          have HES := Lib.hid hes
                          have HEO := Lib.hid heo
                          clear hes heo
                          go_upto_region 36 with (fail)
                          clear c0 c1 c2 c3
                          go_loopg [130] N (fun gg s130 wx => ∃ k4 : Nat, k4 ≤ N ∧ N - k4 ≤ gg ∧ s130 = .int .i64 (k4 : Int) ∧ Hid (Below wA.heap.size wA wx))
                          case atStart => exact ⟨0, by omega, by omega, rfl, HB3⟩
                          case round =>
                            obtain ⟨k4, hk4, hgk4, rfl, HB4⟩ := hrel
                            by_cases hk4l : k4 < N
                            · as_aux_lemma =>
                              have hk4i : (k4 : Int) < (N : Int) := by omega
                              have hik4 : inI (k4 : Int) := ⟨by omega, by omega⟩
                              obtain ⟨wC, rfl⟩ : ∃ y, y = wr := ⟨_, rfl⟩
                              have HMC := Lib.hid (HMl.out.below HB4.out)
                              have htp := mtopo_calls wC M _ _ _ _ _ _ _ _ _ HMC.out
                              go_wp2_with fail
                              refine htp.mono ?_
                              rintro e w12 ⟨v12, rfl, hT12, b12⟩
                              obtain ⟨A2, n2, cc2, b2, o2, m2, d3, C2, p2, q2, rfl, hkm, hm2, k0, hpq2, hR2⟩ := (hT12.tv HMC.out.few HMC.out.big.2 HMC.out.big.1).flow HES.out
                              have hkmi : (k3 : Int) < (m2 : Int) := by omega
                              have hg1 : decide (m2 ≤ k3) = false := decide_eq_false (by omega)
                              have hg2 : decide ((k3 : Int) < 0) = false := decide_eq_false (by omega)
                              have hfd := topoField (ep' : Int) (.slice A2 n2 cc2) (.slice (some ⟨b2, o2, none⟩) m2 d3)
                              have HR2 := Lib.hid hR2
                              have HB12 := Lib.hid (belowThen HB4.out HB4.out.size b12)
                              have HL2 := Lib.hid hR2.len
                              have hm2x := hR2.max
                              clear htp hT12 b12 hR2 hkm hm2
                              go_upto_region 40 with (fail)
                              go_loopg [20, 21, 140] p2 (fun gg s20 s21 s140 wx => ∃ (i : Nat) (tb bb : Bool), i ≤ p2 ∧ p2 - i ≤ gg ∧ s140 = .int .i64 (i : Int) ∧ s20 = .bool tb ∧ s21 = .bool bb ∧
                                Hid (((es.take i).any fun e => e.1 == (k4 : Int) && e.2 == (X : Int)) = tb) ∧ Hid (((es.take i).any fun e => e.1 == (X : Int) && e.2 == (k4 : Int)) = bb) ∧ Hid (Below wA.heap.size wA wx) ∧ Hid (Below w12.heap.size w12 wx))
                              case atStart => exact ⟨0, false, false, by omega, by omega, rfl, rfl, rfl, Lib.hid rfl, Lib.hid rfl, HB12, Lib.hid (Below.refl _ _)⟩
                              case round =>
                                obtain ⟨i, tb, bb, hi5, hgi, rfl, rfl, rfl, HTB, HBB, HBA5, HBL⟩ := hrel
                                by_cases hil : i < p2
                                · as_aux_lemma =>
                                  have hili : (i : Int) < (p2 : Int) := by omega
                                  have hii : inI (i : Int) := ⟨by omega, by omega⟩
                                  obtain ⟨x, hx⟩ : ∃ x, es[i]? = some x := ⟨_, List.getElem?_eq_getElem (by rw [HL2.out]; exact hil)⟩
                                  obtain ⟨b4, o4, vs, rfl, hb41, hb42, hV, hcl⟩ := (HR2.out.below HBL.out).at_ i x hx
                                  obtain ⟨rfl, hi1, hi2⟩ := ed_open hV
                                  have e0 : wr.cell? ⟨b4, o4 + i * 2, none⟩ = some (.int .i64 x.1) := hcl 0 _ rfl
                                  have e1 : wr.cell? ⟨b4, o4 + i * 2 + 1, none⟩ = some (.int .i64 x.2) := hcl 1 _ rfl
                                  obtain ⟨x1, x2⟩ := x
                                  simp only at e0 e1
                                  have HX5 := Lib.hid hx
                                  clear hcl hV hx hb41 hb42
                                  obtain ⟨wq, hwq⟩ : ∃ wq, wr.alloc (.cells #[.int .i64 x1, .int .i64 x2] 60) = wq := ⟨_, rfl⟩
                                  have bq : Below wr.heap.size wr wq := by rw [← hwq]; exact (Below.refl _ _).alloc (Nat.le_refl _) _
                                  have eq : wq.heap[wr.heap.size]? = some (.cells #[.int .i64 x1, .int .i64 x2] 60 (0, 0)) := by rw [← hwq]; exact heap_alloc_new wr _
                                  have HWQ := Lib.hid hwq
                                  have HBAq := Lib.hid (belowThen HBA5.out HBA5.out.size bq)
                                  have HBLq := Lib.hid (belowThen HBL.out HBL.out.size bq)
                                  go_upto_region 42 with (fail)
                                  try rw [HWQ.out]
                                  obtain ⟨Q, hQ⟩ : ∃ Q, wr.heap.size = Q := ⟨_, rfl⟩
                                  try rw [hQ]
                                  rw [hQ] at eq
                                  have q0 : wq.cell? ⟨Q, 0, none⟩ = some (.int .i64 x1) := by simp [World.cell?, eq]
                                  have q1 : wq.cell? ⟨Q, 1, none⟩ = some (.int .i64 x2) := by simp [World.cell?, eq]
                                  have hQl : Q < wq.heap.size := (Array.getElem?_eq_some_iff.1 eq).1
                                  clear hwq bq eq hQ e0 e1
                                  have hd1 : tb = true ∨ (tb = false ∧ (x1 == (k4 : Int)) = true) ∨ (tb = false ∧ (x1 == (k4 : Int)) = false) := by cases tb <;> cases (x1 == (k4 : Int)) <;> simp
                                  have hd2 : bb = true ∨ (bb = false ∧ (x1 == (X : Int)) = true) ∨ (bb = false ∧ (x1 == (X : Int)) = false) := by cases bb <;> cases (x1 == (X : Int)) <;> simp
                                  have HN1 := any_takeE (fun e : Ed => e.1 == (k4 : Int) && e.2 == (X : Int)) es i _ HX5.out
                                  have HN2 := any_takeE (fun e : Ed => e.1 == (X : Int) && e.2 == (k4 : Int)) es i _ HX5.out
                                  rw [HTB.out] at HN1
                                  rw [HBB.out] at HN2
                                  have HN1 := Lib.hid HN1
                                  have HN2 := Lib.hid HN2
                                  clear HTB HBB
                                  rcases hd1 with rfl | ⟨rfl, h1⟩ | ⟨rfl, h1⟩ <;> rcases hd2 with rfl | ⟨rfl, h2⟩ | ⟨rfl, h2⟩
                                  all_goals
                                    go_quiet (fail)
                                    go_wp2_with fail
                                    go_roundg (p2 - (i + 1))
                                    case measure => omega
                                    case rel => exact ⟨i + 1, _, _, by omega, by omega, by go_num, rfl, rfl, Lib.hid (by rw [HN1.out]; simp [*]), Lib.hid (by rw [HN2.out]; simp [*]), Lib.hid (belowDrewN HBAq.out _), Lib.hid (belowDrewN HBLq.out _)⟩
                                · as_aux_lemma =>
                                  have hili : ¬ ((i : Int) < (p2 : Int)) := by omega
                                  obtain rfl : i = p2 := by omega
                                  have hth : isB hops' (X : Int) 1 (k4 : Int) (k3 : Int) = tb := by unfold isB; rw [if_pos (.inl rfl), ← edge_there, HEO.out, ← HTB.out, any_allE _ _ _ HL2.out]
                                  have hbk : isB hops' (X : Int) 2 (k4 : Int) (k3 : Int) = bb := by unfold isB; rw [if_neg (by decide), if_pos rfl, ← edge_back, HEO.out, ← HBB.out, any_allE _ _ _ HL2.out]
                                  have HTH := Lib.hid hth
                                  have HBK := Lib.hid hbk
                                  have HFB := Lib.hid (fun kd : Int => show flowB kd (k3 : Int) flows.length = true from flowB_in (by rw [HFL.out]; exact hk3l))
                                  have HM5 := Lib.hid (HMl.out.below HBA5.out)
                                  clear hth hbk HTB HBB hg1 hg2 hfd k0
                                  cases tb <;> cases bb
                                  all_goals
                                    have hof := HM5.out.of0 1 (k4 : Int) (X : Int) (ep' : Int) (k3 : Int) hik3 _ (of_ask rfl (HFB.out 1) HP1.out _ HTH.out)
                                    go_wp2_with fail
                                    refine hof.mono ?_
                                    rintro e y5 ⟨rfl, d5⟩
                                    have D5 := Lib.hid (belowThen HBA5.out HBA5.out.size d5)
                                    have HM6 := Lib.hid (HMl.out.below D5.out)
                                    have hof := HM6.out.of0 2 (k4 : Int) (X : Int) (ep' : Int) (k3 : Int) hik3 _ (of_ask rfl (HFB.out 2) HP1.out _ HBK.out)
                                    clear d5
                                    go_wp2_with fail
                                    refine hof.mono ?_
                                    rintro e y6 ⟨rfl, d6⟩
                                    have D6 := Lib.hid (belowThen D5.out D5.out.size d6)
                                    clear hof d6
                                    go_wp2_with fail
                                    go_roundg (N - (k4 + 1))
                                    case measure => omega
                                    case rel => exact ⟨k4 + 1, by omega, by omega, by go_num, D6⟩
                            · as_aux_lemma =>
                              have hk4i : ¬ ((k4 : Int) < (N : Int)) := by omega
                              go_wp2_with fail
                              go_roundg (nF - (k3 + 1))
                              case measure => omega
                              case rel => exact ⟨k3 + 1, by omega, by omega, by go_num, HB4⟩
                        · as_aux_lemma =>
                          have hk3i : ¬ ((k3 : Int) < (nF : Int)) := by omega
                          go_wp2_with fail
                          go_roundg (nL - (k + 1))
                          case measure => omega
                          case rel => exact ⟨k + 1, ep', up', hops', _, _, by omega, by omega, by omega, rfl, by go_num, Lib.hid (HMl.out.below HB3.out), Lib.hid (HEl.out.below HB3.out), hep6, HHP.out, Lib.hid (belowThen HXl.out HXl.out.size HB3.out), by have := HB3.out.size; omega⟩
        · go_wp2_with fail
          go_ret
          exact ⟨rfl, HX.out⟩
end Go.Proofs.Ythgnjojkncodeaa
