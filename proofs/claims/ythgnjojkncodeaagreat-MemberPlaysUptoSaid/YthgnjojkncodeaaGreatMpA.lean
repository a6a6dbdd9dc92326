/-
  Words for MemberPlays: an act's cells; what stays from act to act. More words for MemberPlays: both Takes; calls told with worlds below.
-/
import Derived.Test.YthgnjojkncodeaaGreatRfJ
import Derived.Test.YthgnjojkncodeaaGreatMbV
import Derived.Test.YthgnjojkncodeaaGreatMbG
import Derived.Test.YthgnjojkncodeaaGreatMbK
namespace Go.Proofs.YthgnjojkncodeaaGreat
open Go.RowKit
set_option linter.unusedVariables false
set_option linter.unusedSimpArgs false

def El.u8 : El Nat where
  k := 1
  bulk := fun _ => 1
  V := fun _ _ vs x => vs = [.int .u8 (x : Int)] ∧ x < 256
  len := by rintro w ok vs x ⟨rfl, _⟩; rfl
  one := by rintro w ok vs x ⟨rfl, _⟩ u hu; simp at hu; subst hu; rfl
  keep := fun h _ _ => h
  mono := fun h _ => h
abbrev TT := Nat × List Bool × List (List Ed)
abbrev FF := Int × Int × Int × Nat × Nat × Int × Nat × Nat × Nat × (List Nat × List Nat) × List (Nat × Int) × TT
abbrev AA := Int × Int × TT × FF
abbrev elTo : El TT := El.prod El.u64 (El.prod (El.slice El.bool) (El.slice elEs))
abbrev elRank : El (Nat × Int) := El.prod El.u64 El.int
abbrev elRowF : El (List Nat × List Nat) := El.prod (El.slice El.u8) (El.slice El.u8)
abbrev elFrame : El FF :=
  El.prod El.int (El.prod El.int (El.prod El.int (El.prod El.u64 (El.prod El.u64 (El.prod El.int (El.prod El.u64 (El.prod El.u64 (El.prod El.u64 (El.prod elRowF (El.prod (El.slice elRank) elTo))))))))))
abbrev elAct : El AA := El.prod El.int (El.prod El.int (El.prod elTo elFrame))
/-- An act's cells. -/
theorem act_open {w : World} {ok : Nat → Prop} {vs : List Value} {a : AA} (h : elAct.V w ok vs a) :
    ∃ (what flow : Int) (ep : Nat) (up : List Bool) (hops : List (List Ed)) (AU : Option Addr) (nU cU : Nat) (AH : Option Addr) (nH cH : Nat) (r : FrR) (kind frm dst fep fl : Int),
      vs = [.int .i64 what, .int .i64 flow, .int .u64 (ep : Int), .slice AU nU cU, .slice AH nH cH, .int .i64 kind, .int .i64 frm, .int .i64 dst, .int .u64 fep, .int .u64 r.life, .int .i64 fl, .int .u64 r.gen, .int .u64 r.seq, .int .u64 r.fo, .slice r.A r.nA r.cA, .slice r.B r.nB r.cB, .slice r.C r.nC r.cC, .int .u64 r.te, .slice r.D r.nD r.cD, .slice r.E r.nE r.cE] ∧
      a.2.2.1 = (ep, up, hops) ∧ inI flow ∧ inI fl ∧ TopoV w ok (.agg #[.int .u64 (ep : Int), .slice AU nU cU, .slice AH nH cH]) (ep : Int) up hops := by
  obtain ⟨what, flow, ⟨ep, up, hops⟩, kind, frm, dst, fep, life, fl, gen, seq, fo, ⟨co, pay⟩, ranks, te, up2, hops2⟩ := a
  obtain ⟨_, _, e1, ⟨rfl, h1⟩, _, _, rfl, ⟨rfl, h2⟩, _, _, rfl, ⟨_, _, rfl, ⟨rfl, g1⟩, _, _, rfl, ⟨AU, nU, cU, rfl, hU, rU⟩, AH, nH, cH, rfl, hH, rH⟩,
    _, _, rfl, ⟨rfl, f1⟩, _, _, rfl, ⟨rfl, f2⟩, _, _, rfl, ⟨rfl, f3⟩, _, _, rfl, ⟨rfl, f4⟩, _, _, rfl, ⟨rfl, f5⟩, _, _, rfl, ⟨rfl, f6⟩, _, _, rfl, ⟨rfl, f7⟩, _, _, rfl, ⟨rfl, f8⟩, _, _, rfl, ⟨rfl, f9⟩,
    _, _, rfl, ⟨_, _, rfl, ⟨A1, n1, c1, rfl, _, _⟩, A2, n2, c2, rfl, _, _⟩, _, _, rfl, ⟨A3, n3, c3, rfl, _, _⟩, _, _, rfl, ⟨rfl, g2⟩, _, _, rfl, ⟨A4, n4, c4, rfl, _, _⟩, A5, n5, c5, rfl, _, _⟩ := h
  exact ⟨what, flow, ep, up, hops, AU, nU, cU, AH, nH, cH, ⟨life, gen, seq, fo, te, A1, n1, c1, A2, n2, c2, A3, n3, c3, A4, n4, c4, A5, n5, c5⟩, kind, frm, dst, fep, fl, e1, rfl, h2, f6, _, _, _, _, _, _, rfl, hU, hH, rU, rH⟩
theorem TopoV.keepT {w w' : World} {ok : Nat → Prop} {v : Value} {ep : Int} {up : List Bool} {hops : List (List Ed)} (h : TopoV w ok v ep up hops) (hs : w.heap.size ≤ w'.heap.size) (hk : ∀ k, ok k → k < w.heap.size → w'.heap[k]? = w.heap[k]?) : TopoV w' ok v ep up hops := by
  obtain ⟨A, n, c, B, m, d, rfl, h1, h2, h3, h4⟩ := h
  exact ⟨A, n, c, B, m, d, rfl, h1, h2, h3.keep hs hk, h4.keep hs hk⟩
/-- All edges lie among the nodes. -/
def InR (nodes : Int) (hops : List (List Ed)) : Prop := ∀ (fl : Int) (e : Ed), e ∈ edgesOf hops fl → 0 ≤ e.1 ∧ e.1 < nodes ∧ 0 ≤ e.2 ∧ e.2 < nodes
theorem InR.nil (nodes : Int) : InR nodes [] := fun fl e h => by
  unfold edgesOf at h
  split at h <;> simp at h
theorem may_hop {nodes : Int} {flows : List Flw} {win que ep : Int} {up : List Bool} {hops : List (List Ed)} (h : mayOk nodes flows win que ep up hops = true) {fl : Nat} {l : List Ed} (hl : hops[fl]? = some l) : HopOk nodes up (srcOf flows fl) l := by
  rw [← hop_iff hl]
  cases hb : hopBad nodes up hops flows fl l with
  | false => rfl
  | true =>
    unfold mayOk at h
    rw [hopsBad_at hl hb] at h
    simp at h
theorem InR.may {nodes : Int} {flows : List Flw} {win que ep : Int} {up : List Bool} {hops : List (List Ed)} (h : mayOk nodes flows win que ep up hops = true) : InR nodes hops := fun fl e he => by
  unfold edgesOf at he
  split at he
  · cases hx : hops[fl.toNat]? with
    | none => rw [hx] at he; simp at he
    | some l =>
      rw [hx] at he
      obtain ⟨i, hi⟩ := List.mem_iff_getElem?.1 he
      have k := (may_hop h hx).ed i e hi
      exact ⟨k.f0, k.f1, k.t0, k.t1⟩
  · simp at he
theorem InR.next {nodes : Int} {hops : List (List Ed)} (h : InR nodes hops) (fl node : Int) : (nextOf hops fl node).Pairwise (· < ·) ∧ ∀ y, y ∈ nextOf hops fl node ↔ (0 ≤ y ∧ y < nodes ∧ decide ((node, y) ∈ edgesOf hops fl) = true) :=
  ⟨(endsOf_spec _ _).1, fun y => by
    rw [next_in, decide_eq_true_iff]
    exact ⟨fun hh => ⟨(h fl _ hh).2.2.1, (h fl _ hh).2.2.2, hh⟩, fun hh => hh.2.2⟩⟩
theorem InR.prev {nodes : Int} {hops : List (List Ed)} (h : InR nodes hops) (fl node : Int) : (prevOf hops fl node).Pairwise (· < ·) ∧ ∀ y, y ∈ prevOf hops fl node ↔ (0 ≤ y ∧ y < nodes ∧ decide ((y, node) ∈ edgesOf hops fl) = true) :=
  ⟨(endsOf_spec _ _).1, fun y => by
    rw [prev_in, decide_eq_true_iff]
    exact ⟨fun hh => ⟨(h fl _ hh).1, (h fl _ hh).2.1, hh⟩, fun hh => hh.2.2⟩⟩
theorem pw_all (F : Nat → List Int) (n : Nat) : (Lib.compact (sortI (allF F n))).Pairwise (· < ·) := (compact_spec _ (sortI_spec _).1).1
theorem InR.nexts {nodes : Int} {hops : List (List Ed)} (h : InR nodes hops) (node : Int) : (nextsOf hops node).Pairwise (· < ·) ∧ ∀ y, y ∈ nextsOf hops node ↔ (0 ≤ y ∧ y < nodes ∧ anyE hops node y hops.length = true) :=
  ⟨pw_all _ _, fun y => by
    rw [nexts_memE]
    refine ⟨fun hh => ?_, fun hh => hh.2.2⟩
    obtain ⟨i, _, hm⟩ := any_iffE.1 hh
    exact ⟨(h i _ hm).2.2.1, (h i _ hm).2.2.2, hh⟩⟩
theorem InR.prevs {nodes : Int} {hops : List (List Ed)} (h : InR nodes hops) (node : Int) : (prevsOf hops node).Pairwise (· < ·) ∧ ∀ y, y ∈ prevsOf hops node ↔ (0 ≤ y ∧ y < nodes ∧ anyE hops y node hops.length = true) :=
  ⟨pw_all _ _, fun y => by
    rw [prevs_memE]
    refine ⟨fun hh => ?_, fun hh => hh.2.2⟩
    obtain ⟨i, _, hm⟩ := any_iffE.1 hh
    exact ⟨(h i _ hm).1, (h i _ hm).2.1, hh⟩⟩
/-- What stays from act to act. -/
structure PS (w wr : World) (M R : Nat) (nodes : Int) (flows : List Flw) (win que node : Int) (AL : Option Addr) (nL : Nat) (acts : List AA) (ep : Int) (up : List Bool) (hops : List (List Ed)) : Prop where
  m : MB wr M (fun k => k ≠ M ∧ k ≠ R) nodes flows win que node ep up hops
  r : RB wr R (fun k => k < w.heap.size) nodes flows win que node ep up hops
  inr : InR nodes hops
  b : Below w.heap.size w wr
  l : Rd elAct wr (fun k => k < w.heap.size) AL nL acts
section
variable {w wr w' : World} {M R : Nat} {nodes : Int} {flows : List Flw} {win que node : Int} {AL : Option Addr} {nL : Nat} {acts : List AA} {ep : Int} {up : List Bool} {hops : List (List Ed)}
theorem PS.below (h : PS w wr M R nodes flows win que node AL nL acts ep up hops) (hb : Below wr.heap.size wr w') : PS w w' M R nodes flows win que node AL nL acts ep up hops :=
  ⟨h.m.below hb, h.r.below hb, h.inr, belowThen h.b h.b.size hb, h.l.below hb⟩
theorem PS.drew (h : PS w wr M R nodes flows win que node AL nL acts ep up hops) : PS w wr.drew M R nodes flows win que node AL nL acts ep up hops := h.below (Below.refl _ _).drew
/-- Blocks are written that nothing of this lies in. -/
theorem PS.chg {S : Nat → Prop} {ok : Nat → Prop} (h : PS w wr M R nodes flows win que node AL nL acts ep up hops) (hm : MB wr M ok nodes flows win que node ep up hops) (hok : ∀ k, ok k → k ≠ M ∧ k ≠ R) (hc : Chg S wr w') (hS : ∀ k, k < wr.heap.size → S k → w.heap.size ≤ k ∧ k ≠ M ∧ k ≠ R ∧ ¬ ok k) : PS w w' M R nodes flows win que node AL nL acts ep up hops := by
  have hB : Below w.heap.size w w' := ⟨hc.os.trans h.b.os, hc.tape.trans h.b.tape, hc.output.trans h.b.output, Nat.le_trans h.b.size hc.size, fun k hk => (hc.block k (Nat.lt_of_lt_of_le hk h.b.size) fun hs => by have := (hS k (Nat.lt_of_lt_of_le hk h.b.size) hs).1; omega).trans (h.b.block k hk)⟩
  exact ⟨(hm.chg hc fun k hk hs => ⟨(hS k hk hs).2.1, (hS k hk hs).2.2.2⟩).mono (fun k hk _ => hok k hk) (fun hh => hh.1 rfl), h.r.chg hc fun k hk hs => ⟨(hS k hk hs).2.2.1, fun hl => by have := (hS k hk hs).1; omega⟩, h.inr, hB, h.l.chg hc fun k hk hl hs => by have := (hS k hk hs).1; omega⟩
end
end Go.Proofs.YthgnjojkncodeaaGreat
namespace Go.Proofs.YthgnjojkncodeaaGreat
open Go.RowKit
set_option linter.unusedVariables false
set_option linter.unusedSimpArgs false

section
variable {w : World} {M R : Nat} {ok ok2 : Nat → Prop} {nodes : Int} {flows : List Flw} {win que node ep : Int} {up : List Bool} {hops : List (List Ed)}
/-- Take, of both: one answer, one state. -/
theorem both_take (hm : MB w M ok nodes flows win que node ep up hops) (hin : InR nodes hops) (hR2 : ¬ ok2 R) {okT : Nat → Prop} {vt vt2 : Value} {ep2 : Int} {up2 : List Bool} {hops2 : List (List Ed)} (hT : TopoV w okT vt ep2 up2 hops2) (hf : Few hops2) (hu : up2.length ≤ 1048576) (hh : hops2.length ≤ 1048576) (he0 : 0 ≤ ep2) :
    ∃ (c ep' : Int) (up' : List Bool) (hops' : List (List Ed)), InR nodes hops' ∧
      (Calls Tryz.prog 8 #[.pointer (some ⟨M, 0, none⟩), vt] w.drew fun e w' => e = .returned (.int .i64 c) ∧ MB w' M (fun k => ok k ∨ w.heap.size ≤ k) nodes flows win que node ep' up' hops' ∧ Chg (fun k => k = M) w w') ∧
      (∀ W, RB W R ok2 nodes flows win que node ep up hops → TopoV W ok2 vt2 ep2 up2 hops2 → Calls Tryz.prog 9 #[.pointer (some ⟨R, 0, none⟩), vt2] W fun e w' => e = .returned (.int .i64 c) ∧ RB w' R ok2 nodes flows win que node ep' up' hops' ∧ Chg (fun k => k = R) W w') := by
  have hmd := hm.below (Below.refl _ _).drew
  have htd := hT.below (Below.refl _ _).drew
  have hML := hm.lt
  have hn := hm.n
  cases hmy : mayOk nodes flows win que ep2 up2 hops2 with
  | false =>
    refine ⟨1, ep, up, hops, hin, (hmd.takesNot htd hf hu hh hmy).mono ?_, fun W hr ht => (rmtake_calls W R ok2 nodes flows win que node ep up hops hr hR2 vt2 ep2 up2 hops2 ht hf he0).mono ?_⟩
    · rintro e w' ⟨rfl, hb⟩
      exact ⟨rfl, (hmd.below hb).mono (fun k hk _ => .inl hk) (fun h => h.elim hn fun h => by omega), Chg.ofBelow (stepB1 hb)⟩
    · rintro e w' (⟨_, rfl, hb⟩ | ⟨h1, _⟩ | ⟨h1, _⟩)
      · exact ⟨rfl, hr.below hb, Chg.ofBelow hb⟩
      · rw [hmy] at h1; cases h1
      · rw [hmy] at h1; cases h1
  | true =>
    by_cases hle : ep2 ≤ ep
    · refine ⟨22, ep, up, hops, hin, (hmd.elder htd hf hu hh hmy hle).mono ?_, fun W hr ht => (rmtake_calls W R ok2 nodes flows win que node ep up hops hr hR2 vt2 ep2 up2 hops2 ht hf he0).mono ?_⟩
      · rintro e w' ⟨rfl, hb⟩
        exact ⟨rfl, (hmd.below hb).mono (fun k hk _ => .inl hk) (fun h => h.elim hn fun h => by omega), Chg.ofBelow (stepB1 hb)⟩
      · rintro e w' (⟨h1, _⟩ | ⟨_, _, rfl, hb⟩ | ⟨_, h1, _⟩)
        · rw [hmy] at h1; cases h1
        · exact ⟨rfl, hr.below hb, Chg.ofBelow hb⟩
        · omega
    · refine ⟨0, ep2, up2, hops2, InR.may hmy, (hmd.takes htd hf hu hh hmy (by omega)).mono ?_, fun W hr ht => (rmtake_calls W R ok2 nodes flows win que node ep up hops hr hR2 vt2 ep2 up2 hops2 ht hf he0).mono ?_⟩
      · rintro e w' ⟨rfl, hc, hm'⟩
        exact ⟨rfl, hm', hc.fromDrew⟩
      · rintro e w' (⟨h1, _⟩ | ⟨_, h1, _⟩ | ⟨_, _, rfl, hc, hr'⟩)
        · rw [hmy] at h1; cases h1
        · omega
        · exact ⟨rfl, hr', hc⟩
theorem MB.epochB (h : MB w M ok nodes flows win que node ep up hops) : Calls Tryz.prog 19 #[.pointer (some ⟨M, 0, none⟩)] w fun e w' => e = .returned (.int .u64 ep) ∧ Below w.heap.size w w' :=
  (mepoch_calls w M ok nodes flows win que node ep up hops h).mono fun e w' ⟨h1, h2⟩ => ⟨h1, by rw [← h2]; exact Below.refl _ _⟩
theorem MB.nodeB (h : MB w M ok nodes flows win que node ep up hops) : Calls Tryz.prog 20 #[.pointer (some ⟨M, 0, none⟩)] w fun e w' => e = .returned (.int .i64 node) ∧ Below w.heap.size w w' :=
  (mnode_calls w M ok nodes flows win que node ep up hops h).mono fun e w' ⟨h1, h2⟩ => ⟨h1, by rw [← h2]; exact Below.refl _ _⟩
end
def RetLs (w : World) (zs : List Int) (e : Ending) (w' : World) : Prop := ∃ A n c, e = .returned (.slice A n c) ∧ Hid (RdI w' (fun _ => True) A n zs) ∧ Below w.heap.size w w'
theorem RetI.ls {w w' : World} {zs : List Int} {e : Ending} (h : RetI w zs e w') : RetLs w zs e w' := by
  obtain ⟨v, rfl, hO, hb⟩ := h
  obtain ⟨A, n, c, rfl, hr⟩ := hO.toRd
  exact ⟨A, n, c, rfl, Lib.hid (hr.mono fun _ _ _ => trivial), hb⟩
theorem sameB_calls (w : World) (A B : Option Addr) (n c m d : Nat) (xs : List Int) (hr : RdI w (fun _ => True) A n xs) (hs : RdI w (fun _ => True) B m xs) :
    Calls Tryz.prog 13 #[.slice A n c, .slice B m d] w fun e w' => e = .returned (.bool true) ∧ Below w.heap.size w w' :=
  (same_calls w _ _ A B n c m d xs xs hr hs).mono fun e w' ⟨h1, q, h2⟩ => ⟨by rw [h1, decide_eq_true rfl], by rw [h2]; exact belowDrewN (Below.refl _ _) q⟩
theorem rsameB_calls (w : World) (ok1 ok2 : Nat → Prop) (va vb : Value) (ep : Int) (up : List Bool) (hops : List (List Ed)) (h1 : TopoV w ok1 va ep up hops) (h2 : TopoV w ok2 vb ep up hops) :
    Calls Tryz.prog 21 #[va, vb] w fun e w' => e = .returned (.bool true) ∧ Below w.heap.size w w' :=
  (rsame_calls w ok1 ok2 va vb ep up hops ep up hops h1 h2).mono fun e w' ⟨h3, h4⟩ => ⟨by rw [h3]; unfold sameT; simp, h4⟩
end Go.Proofs.YthgnjojkncodeaaGreat
