/-
  A member in its block; is, Node, Epoch; the ends of a flow's edges: Next, Prev.
-/
import Derived.Test.YthgnjojkncodeaaGreatMbA
namespace Go.Proofs.YthgnjojkncodeaaGreat
open Go.RowKit
set_option linter.unusedVariables false
set_option linter.unusedSimpArgs false

/-- A member that stands in block M; what it holds lies in the blocks of ok. -/
structure MB (w : World) (M : Nat) (ok : Nat → Prop) (nodes : Int) (flows : List Flw) (win que node : Int) (ep : Int) (up : List Bool) (hops : List (List Ed)) : Prop where
  b : ∃ AF nF cF AU nU cU AH nH cH, w.heap[M]? = some (.cells #[.int .i64 nodes, .slice AF nF cF, .int .i64 win, .int .i64 que, .int .i64 node, .int .u64 ep, .slice AU nU cU, .slice AH nH cH, .bool true] 73 (0, 0)) ∧
    nF ≤ cF ∧ nU ≤ cU ∧ nH ≤ cH ∧ Rd elFl w ok AF nF flows ∧ Rd El.bool w ok AU nU up ∧ Rd elEs w ok AH nH hops
  i : inI nodes ∧ inI win ∧ inI que ∧ inI node
  n : ¬ ok M
  few : Few hops
  big : hops.length ≤ 1048576 ∧ up.length ≤ 1048576
section
variable {w w' : World} {M : Nat} {ok S : Nat → Prop} {nodes win que node ep : Int} {flows : List Flw} {up : List Bool} {hops : List (List Ed)}
theorem MB.lt (h : MB w M ok nodes flows win que node ep up hops) : M < w.heap.size := by
  obtain ⟨_, _, _, _, _, _, _, _, _, hb, _⟩ := h.b
  exact (Array.getElem?_eq_some_iff.1 hb).1
theorem MB.chg (h : MB w M ok nodes flows win que node ep up hops) (hc : Chg S w w') (hS : ∀ k, k < w.heap.size → S k → k ≠ M ∧ ¬ ok k) : MB w' M ok nodes flows win que node ep up hops := by
  obtain ⟨AF, nF, cF, AU, nU, cU, AH, nH, cH, hb, h1, h2, h3, r1, r2, r3⟩ := h.b
  exact ⟨⟨AF, nF, cF, AU, nU, cU, AH, nH, cH, (hc.block _ h.lt fun e => (hS _ h.lt e).1 rfl).trans hb, h1, h2, h3, r1.chg hc fun k hk ho hs => (hS k hk hs).2 ho, r2.chg hc fun k hk ho hs => (hS k hk hs).2 ho, r3.chg hc fun k hk ho hs => (hS k hk hs).2 ho⟩, h.i, h.n, h.few, h.big⟩
theorem MB.below (h : MB w M ok nodes flows win que node ep up hops) (hb : Below w.heap.size w w') : MB w' M ok nodes flows win que node ep up hops := h.chg (S := NoB) (Chg.ofBelow hb) fun _ _ h => h.elim
theorem MB.mono {ok' : Nat → Prop} (h : MB w M ok nodes flows win que node ep up hops) (hk : ∀ k, ok k → k < w.heap.size → ok' k) (hn : ¬ ok' M) : MB w M ok' nodes flows win que node ep up hops := by
  obtain ⟨AF, nF, cF, AU, nU, cU, AH, nH, cH, hb, h1, h2, h3, r1, r2, r3⟩ := h.b
  exact ⟨⟨AF, nF, cF, AU, nU, cU, AH, nH, cH, hb, h1, h2, h3, r1.mono hk, r2.mono hk, r3.mono hk⟩, h.i, hn, h.few, h.big⟩
/-- The member's cells. -/
structure MF (w : World) (M : Nat) (nodes win que node ep : Int) (AF : Option Addr) (nF cF : Nat) (AU : Option Addr) (nU cU : Nat) (AH : Option Addr) (nH cH : Nat) : Prop where
  c0 : w.cell? ⟨M, 0, none⟩ = some (.int .i64 nodes)
  c1 : w.cell? ⟨M, 1, none⟩ = some (.slice AF nF cF)
  c2 : w.cell? ⟨M, 2, none⟩ = some (.int .i64 win)
  c3 : w.cell? ⟨M, 3, none⟩ = some (.int .i64 que)
  c4 : w.cell? ⟨M, 4, none⟩ = some (.int .i64 node)
  c5 : w.cell? ⟨M, 5, none⟩ = some (.int .u64 ep)
  c6 : w.cell? ⟨M, 6, none⟩ = some (.slice AU nU cU)
  c7 : w.cell? ⟨M, 7, none⟩ = some (.slice AH nH cH)
  c8 : w.cell? ⟨M, 8, none⟩ = some (.bool true)
  fr : ∀ i, w.frozen? ⟨M, i, none⟩ = false
theorem MF.of {AF AU AH : Option Addr} {nF cF nU cU nH cH : Nat} (hb : w.heap[M]? = some (.cells #[.int .i64 nodes, .slice AF nF cF, .int .i64 win, .int .i64 que, .int .i64 node, .int .u64 ep, .slice AU nU cU, .slice AH nH cH, .bool true] 73 (0, 0))) : MF w M nodes win que node ep AF nF cF AU nU cU AH nH cH := by
  refine ⟨?_, ?_, ?_, ?_, ?_, ?_, ?_, ?_, ?_, fun i => ?_⟩ <;> simp [World.cell?, World.frozen?, hb]
theorem MB.facts (h : MB w M ok nodes flows win que node ep up hops) : ∃ AF nF cF AU nU cU AH nH cH, MF w M nodes win que node ep AF nF cF AU nU cU AH nH cH ∧ nF ≤ cF ∧ nU ≤ cU ∧ nH ≤ cH ∧ Rd elFl w ok AF nF flows ∧ Rd El.bool w ok AU nU up ∧ Rd elEs w ok AH nH hops := by
  obtain ⟨AF, nF, cF, AU, nU, cU, AH, nH, cH, hb, h1, h2, h3, r1, r2, r3⟩ := h.b
  exact ⟨AF, nF, cF, AU, nU, cU, AH, nH, cH, MF.of hb, h1, h2, h3, r1, r2, r3⟩
end
theorem is_calls (w : World) (M : Nat) (hM : M < w.heap.size) (h : w.cell? ⟨M, 8, none⟩ = some (.bool true)) :
    Calls Tryz.prog 33 #[.pointer (some ⟨M, 0, none⟩)] w fun e w' => e = .returned (.bool true) ∧ w = w' := by
  go_enter Tryz.func33, Tryz.ntmps33
  go_wp2
  go_ret
  exact ⟨rfl, rfl⟩
theorem is_none (w : World) : Calls Tryz.prog 33 #[.pointer none] w fun e w' => e = .returned (.bool false) ∧ w = w' := by
  go_enter Tryz.func33, Tryz.ntmps33
  go_wp2
  go_ret
  exact ⟨rfl, rfl⟩
set_option maxHeartbeats 1000000 in
theorem mends_calls (w : World) (M : Nat) (ok : Nat → Prop) (nodes : Int) (flows : List Flw) (win que node ep : Int) (up : List Bool) (hops : List (List Ed)) (h : MB w M ok nodes flows win que node ep up hops)
    (flow : Int) (hf : inI flow) (g : Nat) (lb : Array Value) (f : Ed → Int × Bool) (eg : ∀ args w, (callFunc g args).run Tryz.prog w = .ok (.enter g args) w) (hg : GivesE g lb f w) :
    Calls Tryz.prog 46 #[.pointer (some ⟨M, 0, none⟩), .int .i64 flow, .func (.func g) #[] lb] w (RetI w (endsOf f (edgesOf hops flow))) := by
  have hMl := h.lt
  have hfew := h.few.edges flow
  obtain ⟨AF, nF, cF, AU, nU, cU, AH, nH, cH, hF, b1, b2, b3, r1, r2, r3⟩ := h.facts
  have c7 := hF.c7
  have his := is_calls w M hMl hF.c8
  have hlH := r3.len
  have hmH := r3.max
  clear h hF r1 r2
  by_cases hin : 0 ≤ flow ∧ flow < nH
  · obtain ⟨k, rfl⟩ : ∃ k : Nat, flow = k := ⟨flow.toNat, by omega⟩
    have hk : k < nH := by omega
    obtain ⟨es, hx⟩ : ∃ x, hops[k]? = some x := ⟨_, List.getElem?_eq_getElem (by rw [hlH]; exact hk)⟩
    have he : edgesOf hops (k : Int) = es := by unfold edgesOf; rw [if_pos (by omega)]; simp [hx]
    obtain ⟨b, o, vs, rfl, hb1, hb2, hV, hcl⟩ := r3.at_ k es hx
    obtain ⟨C, p, q, rfl, hpq, hrd⟩ := hV
    have k0 : w.cell? ⟨b, o + k, none⟩ = some (.slice C p q) := by have := hcl 0 _ rfl; simpa [El.slice] using this
    have hkm : (k : Int) < (nH : Int) := by omega
    have hk0 : decide ((k : Int) < 0) = false := decide_eq_false (by omega)
    have hk1 : decide (nH ≤ k) = false := decide_eq_false (by omega)
    rw [he] at hfew ⊢
    have hr := hrd
    have hl := hr.len
    have hm := hr.max
    have HR := Lib.hid hr
    have HL := Lib.hid hl
    have HP := Lib.hid hfew
    clear hin r3 hcl hx hrd he hlH hr hl hfew
    go_enter Tryz.func46, Tryz.ntmps46
    go_wp2_with (go_at_call 33; refine his.mono ?_; rintro e w1 ⟨rfl, rfl⟩)
    have HKW := Lib.hid k0
    clear k0 c7 his hk0 hk1
    go_loopg [7, 39] p (fun gg s7 s39 wr => ∃ j : Nat, j ≤ p ∧ p - j ≤ gg ∧ s39 = .int .i64 (j : Int) ∧ Hid (OwnI wr w.heap.size s7 (picks f (es.take j))) ∧ Hid (Below w.heap.size w wr))
    case atStart => exact ⟨0, Nat.zero_le _, by omega, rfl, Lib.hid (OwnI.nil _ _), Lib.hid (Below.refl _ w)⟩
    case round =>
      obtain ⟨j, hj, hgj, rfl, HO, HB⟩ := hrel
      by_cases hlt : j < p
      · have hlti : (j : Int) < (p : Int) := by omega
        obtain ⟨x, hx⟩ : ∃ x, es[j]? = some x := ⟨_, List.getElem?_eq_getElem (by rw [HL.out]; exact hlt)⟩
        have hsn := picks_snoc f es j x hx
        have hpl := picks_len f (es.take j)
        rw [List.length_take] at hpl
        have hp' := HP.out
        have hpl2 : (picks f (es.take j)).length ≤ 1099511627776 := by omega
        obtain ⟨b4, o4, vs, rfl, hb41, hb42, hV, hcl⟩ := (HR.out.below HB.out).at_ j x hx
        obtain ⟨rfl, hi1, hi2⟩ := ed_open hV
        have k0 : wr.cell? ⟨b4, o4 + j * 2, none⟩ = some (.int .i64 x.1) := hcl 0 _ rfl
        have k1 : wr.cell? ⟨b4, o4 + j * 2 + 1, none⟩ = some (.int .i64 x.2) := hcl 1 _ rfl
        obtain ⟨x1, x2⟩ := x
        simp only at k0 k1
        obtain ⟨wq, hwq⟩ : ∃ wq, wr.alloc (.cells #[.int .i64 x1, .int .i64 x2] 77) = wq := ⟨_, rfl⟩
        have hbq : Below wr.heap.size wr wq := by rw [← hwq]; exact (Below.refl _ _).alloc (Nat.le_refl _) _
        have hBq := belowThen HB.out HB.out.size hbq
        have hcall := hg wq (x1, x2) hBq
        have HBQ := Lib.hid hBq
        have HWQ := Lib.hid hwq
        have HOQ := Lib.hid (HO.out.below hbq)
        have HSN := Lib.hid hsn
        clear hg hcl hV hx hbq hBq hwq hsn hpl hp'
        cases hq : (f (x1, x2)).2 with
        | true =>
          have HQ := Lib.hid hq
          rw [hq] at hcall
          clear hq
          go_wp2_with (first
            | (go_at_fn g; rw [HWQ.out]; refine hcall.mono ?_; rintro e w2 ⟨rfl, hb2'⟩; have HB2 := belowThen HBQ.out HBQ.out.size hb2'; have HO2 := HOQ.out.below hb2'; clear hb2')
            | (at_builtin; refine appI w.heap.size w.heap.size rfl (.tmp 50) (.tmp 52) rfl u7 _ _ rfl rfl HO2 HB2 HB2.size (Nat.le_refl _) hpl2 ?_; intro v3 w3 HO3 HB3; have HL3 := Lib.hid HO3; clear HO3))
          go_roundg (p - (j + 1))
          case measure => omega
          case rel => exact ⟨j + 1, by omega, by omega, by go_num, Lib.hid (by rw [HSN.out, HQ.out, if_pos rfl]; exact HL3.out), Lib.hid HB3⟩
        | false =>
          have HQ := Lib.hid hq
          rw [hq] at hcall
          clear hq
          go_wp2_with (go_at_fn g; rw [HWQ.out]; refine hcall.mono ?_; rintro e w2 ⟨rfl, hb2'⟩; have HB2 := belowThen HBQ.out HBQ.out.size hb2'; have HO2 := HOQ.out.below hb2'; clear hb2')
          go_roundg (p - (j + 1))
          case measure => omega
          case rel => exact ⟨j + 1, by omega, by omega, by go_num, Lib.hid (by rw [HSN.out, HQ.out, if_neg (by simp), List.append_nil]; exact HO2), Lib.hid HB2⟩
      · have hlti : ¬ (j : Int) < (p : Int) := by omega
        obtain rfl : j = p := by omega
        have hpl := picks_len f es
        have hp' := HP.out
        have HOE : OwnI wr w.heap.size u7 (picks f es) := by have := HO.out; rwa [List.take_of_length_le (by rw [HL.out]; exact Nat.le_refl _)] at this
        have hc1 := sort_calls HOE HB.out (Nat.le_refl _) (by omega)
        clear hg HO hpl HOE hp'
        go_wp2_with fail
        refine hc1.mono ?_
        rintro e w2 ⟨rfl, hO2, hB2⟩
        have hc2 := compact_calls hO2 hB2 (Nat.le_refl _)
        clear hc1
        go_wp2_with fail
        refine hc2.mono ?_
        rintro e w3 ⟨v3, rfl, hO3, hB3⟩
        clear hc2
        go_wp2_with fail
        go_ret
        exact ⟨v3, rfl, hO3, hB3⟩
  · have he : edgesOf hops flow = [] := by
      unfold edgesOf
      by_cases h0 : 0 ≤ flow
      · rw [if_pos h0, List.getElem?_eq_none (by omega)]; rfl
      · rw [if_neg h0]
    have hre : endsOf f [] = [] := by simp [endsOf, picks, sortI, Lib.compact, Lib.compactUpTo]
    rw [he, hre]
    clear hg eg he hre hfew r3 hlH
    by_cases h0 : flow < 0
    · have hd : decide (flow < 0) = true := decide_eq_true h0
      go_enter Tryz.func46, Tryz.ntmps46
      go_wp2_with (go_at_call 33; refine his.mono ?_; rintro e w1 ⟨rfl, rfl⟩)
      go_ret
      exact ⟨_, rfl, OwnI.nil _ _, Below.refl _ _⟩
    · have h1 : (nH : Int) ≤ flow := by omega
      have hd : decide (flow < 0) = false := decide_eq_false h0
      have hd2 : decide ((nH : Int) ≤ flow) = true := decide_eq_true h1
      go_enter Tryz.func46, Tryz.ntmps46
      go_wp2_with (go_at_call 33; refine his.mono ?_; rintro e w1 ⟨rfl, rfl⟩)
      go_ret
      exact ⟨_, rfl, OwnI.nil _ _, Below.refl _ _⟩
theorem mnext1_gives (M B : Nat) (node : Int) (w : World) (hB : B < w.heap.size) (hc : w.cell? ⟨B, 0, none⟩ = some (.pointer (some ⟨M, 0, none⟩))) (hM : M < w.heap.size) (h4 : w.cell? ⟨M, 4, none⟩ = some (.int .i64 node)) :
    GivesE 47 #[.pointer (some ⟨B, 0, none⟩)] (fun e => (e.2, e.1 == node)) w := fun W x hb => by
  have hc' : W.cell? ⟨B, 0, none⟩ = some (.pointer (some ⟨M, 0, none⟩)) := (hb.cell (p := ⟨B, 0, none⟩) hB).trans hc
  have h4' : W.cell? ⟨M, 4, none⟩ = some (.int .i64 node) := (hb.cell (p := ⟨M, 4, none⟩) hM).trans h4
  have hBW : B < W.heap.size := Nat.lt_of_lt_of_le hB hb.size
  have hMW : M < W.heap.size := Nat.lt_of_lt_of_le hM hb.size
  have hne : B ≠ W.heap.size := by omega
  have hne2 : M ≠ W.heap.size := by omega
  obtain ⟨x1, x2⟩ := x
  clear hb hc h4
  show Calls Tryz.prog 47 #[.agg #[.int .i64 x1, .int .i64 x2], .pointer (some ⟨B, 0, none⟩)] W _
  go_enter Tryz.func47, Tryz.ntmps47
  go_wp2
  go_quiet (fail)
  go_wp2
  go_ret2
  exact ⟨rfl, belowDrewN ((Below.refl _ _).alloc (Nat.le_refl _) _) _⟩
theorem mprev1_gives (M B : Nat) (node : Int) (w : World) (hB : B < w.heap.size) (hc : w.cell? ⟨B, 0, none⟩ = some (.pointer (some ⟨M, 0, none⟩))) (hM : M < w.heap.size) (h4 : w.cell? ⟨M, 4, none⟩ = some (.int .i64 node)) :
    GivesE 48 #[.pointer (some ⟨B, 0, none⟩)] (fun e => (e.1, e.2 == node)) w := fun W x hb => by
  have hc' : W.cell? ⟨B, 0, none⟩ = some (.pointer (some ⟨M, 0, none⟩)) := (hb.cell (p := ⟨B, 0, none⟩) hB).trans hc
  have h4' : W.cell? ⟨M, 4, none⟩ = some (.int .i64 node) := (hb.cell (p := ⟨M, 4, none⟩) hM).trans h4
  have hBW : B < W.heap.size := Nat.lt_of_lt_of_le hB hb.size
  have hMW : M < W.heap.size := Nat.lt_of_lt_of_le hM hb.size
  have hne : B ≠ W.heap.size := by omega
  have hne2 : M ≠ W.heap.size := by omega
  obtain ⟨x1, x2⟩ := x
  clear hb hc h4
  show Calls Tryz.prog 48 #[.agg #[.int .i64 x1, .int .i64 x2], .pointer (some ⟨B, 0, none⟩)] W _
  go_enter Tryz.func48, Tryz.ntmps48
  go_wp2
  go_quiet (fail)
  go_wp2
  go_ret2
  exact ⟨rfl, belowDrewN ((Below.refl _ _).alloc (Nat.le_refl _) _) _⟩
set_option maxHeartbeats 1000000 in
theorem mnext_calls (w : World) (M : Nat) (ok : Nat → Prop) (nodes : Int) (flows : List Flw) (win que node ep : Int) (up : List Bool) (hops : List (List Ed)) (h : MB w M ok nodes flows win que node ep up hops) (flow : Int) (hf : inI flow) :
    Calls Tryz.prog 14 #[.pointer (some ⟨M, 0, none⟩), .int .i64 flow] w (RetI w (nextOf hops flow node)) := by
  obtain ⟨w1, hw1⟩ : ∃ w1, w.alloc (.cells #[.pointer (some ⟨M, 0, none⟩)] 27) = w1 := ⟨_, rfl⟩
  have b1 : Below w.heap.size w w1 := by rw [← hw1]; exact (Below.refl _ _).alloc (Nat.le_refl _) _
  have hs1 : w1.heap.size = w.heap.size + 1 := by rw [← hw1]; simp
  have k1 : w1.cell? ⟨w.heap.size, 0, none⟩ = some (.pointer (some ⟨M, 0, none⟩)) := by rw [← hw1]; simp
  have h1 := h.below b1
  have eg : ∀ args w, (callFunc 47 args).run Tryz.prog w = .ok (.enter 47 args) w := enters_of Tryz.func47 (by kernel_rfl) rfl
  obtain ⟨AF, nF, cF, AU, nU, cU, AH, nH, cH, hF, _⟩ := h1.facts
  have hen := mends_calls w1 M ok nodes flows win que node ep up hops h1 flow hf 47 #[.pointer (some ⟨w.heap.size, 0, none⟩)] _ eg (mnext1_gives M w.heap.size node w1 (by omega) k1 h1.lt hF.c4)
  have HW1 := Lib.hid hw1
  clear h h1 hF hs1 eg hw1
  go_enter Tryz.func14, Tryz.ntmps14
  go_upto_region 1 with (fail)
  rw [HW1.out]
  go_wp2_with (go_at_call 46; refine hen.mono ?_; rintro e w4 ⟨v4, rfl, hO4, b4⟩)
  go_ret
  exact RetI.from ⟨v4, rfl, hO4, b4⟩ b1
set_option maxHeartbeats 1000000 in
theorem mprev_calls (w : World) (M : Nat) (ok : Nat → Prop) (nodes : Int) (flows : List Flw) (win que node ep : Int) (up : List Bool) (hops : List (List Ed)) (h : MB w M ok nodes flows win que node ep up hops) (flow : Int) (hf : inI flow) :
    Calls Tryz.prog 16 #[.pointer (some ⟨M, 0, none⟩), .int .i64 flow] w (RetI w (prevOf hops flow node)) := by
  obtain ⟨w1, hw1⟩ : ∃ w1, w.alloc (.cells #[.pointer (some ⟨M, 0, none⟩)] 27) = w1 := ⟨_, rfl⟩
  have b1 : Below w.heap.size w w1 := by rw [← hw1]; exact (Below.refl _ _).alloc (Nat.le_refl _) _
  have hs1 : w1.heap.size = w.heap.size + 1 := by rw [← hw1]; simp
  have k1 : w1.cell? ⟨w.heap.size, 0, none⟩ = some (.pointer (some ⟨M, 0, none⟩)) := by rw [← hw1]; simp
  have h1 := h.below b1
  have eg : ∀ args w, (callFunc 48 args).run Tryz.prog w = .ok (.enter 48 args) w := enters_of Tryz.func48 (by kernel_rfl) rfl
  obtain ⟨AF, nF, cF, AU, nU, cU, AH, nH, cH, hF, _⟩ := h1.facts
  have hen := mends_calls w1 M ok nodes flows win que node ep up hops h1 flow hf 48 #[.pointer (some ⟨w.heap.size, 0, none⟩)] _ eg (mprev1_gives M w.heap.size node w1 (by omega) k1 h1.lt hF.c4)
  have HW1 := Lib.hid hw1
  clear h h1 hF hs1 eg hw1
  go_enter Tryz.func16, Tryz.ntmps16
  go_upto_region 1 with (fail)
  rw [HW1.out]
  go_wp2_with (go_at_call 46; refine hen.mono ?_; rintro e w4 ⟨v4, rfl, hO4, b4⟩)
  go_ret
  exact RetI.from ⟨v4, rfl, hO4, b4⟩ b1
end Go.Proofs.YthgnjojkncodeaaGreat
