/-
  Words for MemberEpochs.
-/
import Derived.Test.YthgnjojkncodeaaMbM
import Derived.Deep.CutBlock
namespace Go.Proofs.Ythgnjojkncodeaa
open Go.RowKit
set_option linter.unusedVariables false
set_option linter.unusedSimpArgs false

theorem stepBN {w w' : World} {q : Nat} (h : Below (w.drewN q).heap.size (w.drewN q) w') : Below w.heap.size w w' := ⟨h.os, h.tape, h.output, h.size, h.block⟩
abbrev elTo : El (Nat × List Bool × List (List Ed)) := El.prod El.u64 (El.prod (El.slice El.bool) (El.slice elEs))
def frCells (r : FrR) (kind frm dst fep flow : Int) : Array Value := #[.int .i64 kind, .int .i64 frm, .int .i64 dst, .int .u64 fep, .int .u64 r.life, .int .i64 flow, .int .u64 r.gen, .int .u64 r.seq, .int .u64 r.fo, .slice r.A r.nA r.cA, .slice r.B r.nB r.cB, .slice r.C r.nC r.cC, .int .u64 r.te, .slice r.D r.nD r.cD, .slice r.E r.nE r.cE]
/-- What stays of MemberEpochs' arguments; the frame's box. -/
structure EB (w : World) (PC PF : Nat) (nodes : Int) (AF : Option Addr) (nF cF : Nat) (flows : List Flw) (win que : Int) (AL : Option Addr) (nL : Nat) (ls : List (Nat × List Bool × List (List Ed))) (r : FrR) (kind frm dst fep flow : Int) (ok : Nat → Prop) : Prop where
  bc : w.heap[PC]? = some (.cells #[.int .i64 nodes, .slice AF nF cF, .int .i64 win, .int .i64 que] 24 (0, 0))
  bf : w.heap[PF]? = some (.cells (frCells r kind frm dst fep flow) 49 (0, 0))
  i : inI nodes ∧ inI win ∧ inI que
  le : nF ≤ cF
  rf : Rd elFl w ok AF nF flows
  rl : Rd elTo w ok AL nL ls
section
variable {w w' : World} {PC PF : Nat} {nodes : Int} {AF : Option Addr} {nF cF : Nat} {flows : List Flw} {win que : Int} {AL : Option Addr} {nL : Nat} {ls : List (Nat × List Bool × List (List Ed))} {r : FrR} {kind frm dst fep flow : Int} {ok S : Nat → Prop}
theorem EB.chg (h : EB w PC PF nodes AF nF cF flows win que AL nL ls r kind frm dst fep flow ok) (hc : Chg S w w') (hS : ∀ k, k < w.heap.size → S k → k ≠ PC ∧ k ≠ PF ∧ ¬ ok k) : EB w' PC PF nodes AF nF cF flows win que AL nL ls r kind frm dst fep flow ok :=
  have lc := (Array.getElem?_eq_some_iff.1 h.bc).1
  have lf := (Array.getElem?_eq_some_iff.1 h.bf).1
  ⟨(hc.block _ lc fun e => (hS _ lc e).1 rfl).trans h.bc, (hc.block _ lf fun e => (hS _ lf e).2.1 rfl).trans h.bf, h.i, h.le, h.rf.chg hc fun k hk ho hs => (hS k hk hs).2.2 ho, h.rl.chg hc fun k hk ho hs => (hS k hk hs).2.2 ho⟩
theorem EB.below (h : EB w PC PF nodes AF nF cF flows win que AL nL ls r kind frm dst fep flow ok) (hb : Below w.heap.size w w') : EB w' PC PF nodes AF nF cF flows win que AL nL ls r kind frm dst fep flow ok := h.chg (S := NoB) (Chg.ofBelow hb) fun _ _ h => h.elim
theorem EB.c (h : EB w PC PF nodes AF nF cF flows win que AL nL ls r kind frm dst fep flow ok) : w.cell? ⟨PC, 0, none⟩ = some (.int .i64 nodes) ∧ w.cell? ⟨PC, 1, none⟩ = some (.slice AF nF cF) ∧ w.cell? ⟨PC, 2, none⟩ = some (.int .i64 win) ∧ w.cell? ⟨PC, 3, none⟩ = some (.int .i64 que) := by
  have hb := h.bc
  exact ⟨by simp [World.cell?, hb], by simp [World.cell?, hb], by simp [World.cell?, hb], by simp [World.cell?, hb]⟩
theorem EB.conf (h : EB w PC PF nodes AF nF cF flows win que AL nL ls r kind frm dst fep flow ok) : ConfV w ok (.agg #[.int .i64 nodes, .slice AF nF cF, .int .i64 win, .int .i64 que]) nodes flows win que :=
  ⟨_, _, _, rfl, h.le, h.i.1, h.i.2.1, h.i.2.2, h.rf⟩
/-- The frame's receiver is laid anew. -/
theorem EB.to (h : EB w PC PF nodes AF nF cF flows win que AL nL ls r kind frm dst fep flow ok) (hP : PC ≠ PF) (hn : ¬ ok PF) (d2 : Int) : EB (w.setCell ⟨PF, 2, none⟩ (.int .i64 d2)) PC PF nodes AF nF cF flows win que AL nL ls r kind frm d2 fep flow ok := by
  have hc := Chg.set w ⟨PF, 2, none⟩ (.int .i64 d2)
  refine ⟨(hc.block _ (Array.getElem?_eq_some_iff.1 h.bc).1 fun e => hP e).trans h.bc, ?_, h.i, h.le, h.rf.chg hc fun k _ ho e => hn (by have e : k = PF := e; rw [← e]; exact ho), h.rl.chg hc fun k _ ho e => hn (by have e : k = PF := e; rw [← e]; exact ho)⟩
  have := h.bf
  simp [World.setCell, Array.getElem?_modify, this, frCells]
theorem EB.ep (h : EB w PC PF nodes AF nF cF flows win que AL nL ls r kind frm dst fep flow ok) (hP : PC ≠ PF) (hn : ¬ ok PF) (e2 : Int) : EB (w.setCell ⟨PF, 3, none⟩ (.int .u64 e2)) PC PF nodes AF nF cF flows win que AL nL ls r kind frm dst e2 flow ok := by
  have hc := Chg.set w ⟨PF, 3, none⟩ (.int .u64 e2)
  refine ⟨(hc.block _ (Array.getElem?_eq_some_iff.1 h.bc).1 fun e => hP e).trans h.bc, ?_, h.i, h.le, h.rf.chg hc fun k _ ho e => hn (by have e : k = PF := e; rw [← e]; exact ho), h.rl.chg hc fun k _ ho e => hn (by have e : k = PF := e; rw [← e]; exact ho)⟩
  have := h.bf
  simp [World.setCell, Array.getElem?_modify, this, frCells]
end
end Go.Proofs.Ythgnjojkncodeaa
