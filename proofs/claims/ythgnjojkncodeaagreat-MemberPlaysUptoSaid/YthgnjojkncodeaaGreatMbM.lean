/-
  A configuration and a topology that came in, each in its box.
-/
import Derived.Test.YthgnjojkncodeaaGreatMbL
namespace Go.Proofs.YthgnjojkncodeaaGreat
open Go.RowKit
set_option linter.unusedVariables false
set_option linter.unusedSimpArgs false

theorem two_made (w : World) (o1 o2 : Obj) : ((w.alloc o1).alloc o2).drew.heap[w.heap.size]? = some o1 ∧ ((w.alloc o1).alloc o2).drew.heap[w.heap.size + 1]? = some o2 ∧ Below w.heap.size w ((w.alloc o1).alloc o2).drew := by
  have b1 : Below w.heap.size w (w.alloc o1) := (Below.refl _ _).alloc (Nat.le_refl _) _
  have s1 : (w.alloc o1).heap.size = w.heap.size + 1 := by simp
  have b2 : Below (w.alloc o1).heap.size (w.alloc o1) ((w.alloc o1).alloc o2) := (Below.refl _ _).alloc (Nat.le_refl _) _
  refine ⟨?_, ?_, (belowThen b1 b1.size b2).drew⟩
  · show ((w.alloc o1).alloc o2).heap[w.heap.size]? = _
    rw [b2.block _ (by omega)]
    exact heap_alloc_new w o1
  · show ((w.alloc o1).alloc o2).heap[w.heap.size + 1]? = _
    rw [← s1]
    exact heap_alloc_new (w.alloc o1) o2
/-- The configuration's box at PC, the topology's at PT. -/
structure CT (w : World) (PC PT : Nat) (nodes : Int) (AF : Option Addr) (nF cF : Nat) (flows : List Flw) (win que ep : Int) (AU : Option Addr) (nU cU : Nat) (up : List Bool) (AH : Option Addr) (nH cH : Nat) (hops : List (List Ed)) (ok : Nat → Prop) : Prop where
  bc : w.heap[PC]? = some (.cells #[.int .i64 nodes, .slice AF nF cF, .int .i64 win, .int .i64 que] 24 (0, 0))
  bt : w.heap[PT]? = some (.cells #[.int .u64 ep, .slice AU nU cU, .slice AH nH cH] 38 (0, 0))
  i : inI nodes ∧ inI win ∧ inI que
  le : nF ≤ cF ∧ nU ≤ cU ∧ nH ≤ cH
  rf : Rd elFl w ok AF nF flows
  ru : Rd El.bool w ok AU nU up
  rh : Rd elEs w ok AH nH hops
  few : Few hops
  big : up.length ≤ 1048576 ∧ hops.length ≤ 1048576
section
variable {w w' : World} {PC PT : Nat} {nodes : Int} {AF : Option Addr} {nF cF : Nat} {flows : List Flw} {win que ep : Int} {AU : Option Addr} {nU cU : Nat} {up : List Bool} {AH : Option Addr} {nH cH : Nat} {hops : List (List Ed)} {ok S : Nat → Prop}
theorem CT.chg (h : CT w PC PT nodes AF nF cF flows win que ep AU nU cU up AH nH cH hops ok) (hc : Chg S w w') (hS : ∀ k, k < w.heap.size → S k → k ≠ PC ∧ k ≠ PT ∧ ¬ ok k) : CT w' PC PT nodes AF nF cF flows win que ep AU nU cU up AH nH cH hops ok :=
  have lc := (Array.getElem?_eq_some_iff.1 h.bc).1
  have lt := (Array.getElem?_eq_some_iff.1 h.bt).1
  ⟨(hc.block _ lc fun e => (hS _ lc e).1 rfl).trans h.bc, (hc.block _ lt fun e => (hS _ lt e).2.1 rfl).trans h.bt, h.i, h.le, h.rf.chg hc fun k hk ho hs => (hS k hk hs).2.2 ho, h.ru.chg hc fun k hk ho hs => (hS k hk hs).2.2 ho, h.rh.chg hc fun k hk ho hs => (hS k hk hs).2.2 ho, h.few, h.big⟩
theorem CT.below (h : CT w PC PT nodes AF nF cF flows win que ep AU nU cU up AH nH cH hops ok) (hb : Below w.heap.size w w') : CT w' PC PT nodes AF nF cF flows win que ep AU nU cU up AH nH cH hops ok := h.chg (S := NoB) (Chg.ofBelow hb) fun _ _ h => h.elim
theorem CT.c (h : CT w PC PT nodes AF nF cF flows win que ep AU nU cU up AH nH cH hops ok) : w.cell? ⟨PC, 0, none⟩ = some (.int .i64 nodes) ∧ w.cell? ⟨PC, 1, none⟩ = some (.slice AF nF cF) ∧ w.cell? ⟨PC, 2, none⟩ = some (.int .i64 win) ∧ w.cell? ⟨PC, 3, none⟩ = some (.int .i64 que) := by
  have hb := h.bc
  exact ⟨by simp [World.cell?, hb], by simp [World.cell?, hb], by simp [World.cell?, hb], by simp [World.cell?, hb]⟩
theorem CT.t (h : CT w PC PT nodes AF nF cF flows win que ep AU nU cU up AH nH cH hops ok) : w.cell? ⟨PT, 0, none⟩ = some (.int .u64 ep) ∧ w.cell? ⟨PT, 1, none⟩ = some (.slice AU nU cU) ∧ w.cell? ⟨PT, 2, none⟩ = some (.slice AH nH cH) := by
  have hb := h.bt
  exact ⟨by simp [World.cell?, hb], by simp [World.cell?, hb], by simp [World.cell?, hb]⟩
theorem CT.conf (h : CT w PC PT nodes AF nF cF flows win que ep AU nU cU up AH nH cH hops ok) : ConfV w (fun k => k < w.heap.size) (.agg #[.int .i64 nodes, .slice AF nF cF, .int .i64 win, .int .i64 que]) nodes flows win que :=
  ⟨_, _, _, rfl, h.le.1, h.i.1, h.i.2.1, h.i.2.2, h.rf.mono fun k _ hk => hk⟩
theorem CT.tv (h : CT w PC PT nodes AF nF cF flows win que ep AU nU cU up AH nH cH hops ok) : TopoV w ok (.agg #[.int .u64 ep, .slice AU nU cU, .slice AH nH cH]) ep up hops :=
  ⟨_, _, _, _, _, _, rfl, h.le.2.1, h.le.2.2, h.ru, h.rh⟩
theorem CT.config (h : CT w PC PT nodes AF nF cF flows win que ep AU nU cU up AH nH cH hops ok) (r : Bool) (hr : configOk nodes flows win que = r) :
    Calls Tryz.prog 29 #[.agg #[.int .i64 nodes, .slice AF nF cF, .int .i64 win, .int .i64 que]] w fun e w' => e = .returned (.bool r) ∧ Below w.heap.size w w' := by
  rw [← hr]; exact config_calls w _ nodes flows win que h.conf
theorem CT.may (h : CT w PC PT nodes AF nF cF flows win que ep AU nU cU up AH nH cH hops ok) (r : Bool) (hr : mayOk nodes flows win que ep up hops = r) :
    Calls Tryz.prog 34 #[.agg #[.int .i64 nodes, .slice AF nF cF, .int .i64 win, .int .i64 que], .agg #[.int .u64 ep, .slice AU nU cU, .slice AH nH cH]] w fun e w' => e = .returned (.bool r) ∧ Below w.heap.size w w' := by
  rw [← hr]; exact may_calls w _ _ nodes flows win que ep up hops h.conf (h.tv.mono fun k _ hk => hk) h.few
theorem CT.new (h : CT w PC PT nodes AF nF cF flows win que ep AU nU cU up AH nH cH hops ok) (hok : ∀ k, ok k → k < w.heap.size) (hc : configOk nodes flows win que = true) (x : Int) (h0 : 0 ≤ x) (h1 : x < nodes) :
    Calls Tryz.prog 5 #[.agg #[.int .i64 nodes, .slice AF nF cF, .int .i64 win, .int .i64 que], .int .i64 x] w fun e w' => ∃ M, e = .returned (.tuple #[.pointer (some ⟨M, 0, none⟩), .int .i64 0]) ∧ w.heap.size ≤ M ∧ MB w' M (fun k => ok k ∨ (w.heap.size ≤ k ∧ k ≠ M)) nodes flows win que x 0 [] [] ∧ Below w.heap.size w w' :=
  new_yes w _ nodes flows win que x ok hok ⟨_, _, _, rfl, h.le.1, h.i.1, h.i.2.1, h.i.2.2, h.rf⟩ hc h0 h1
end
end Go.Proofs.YthgnjojkncodeaaGreat
