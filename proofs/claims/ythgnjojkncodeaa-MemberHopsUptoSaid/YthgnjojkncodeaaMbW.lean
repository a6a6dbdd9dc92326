/-
  Words for MemberHops: its argument in its box.
-/
import Derived.Test.YthgnjojkncodeaaMbV
namespace Go.Proofs.Ythgnjojkncodeaa
open Go.RowKit
set_option linter.unusedVariables false
set_option linter.unusedSimpArgs false

/-- The argument's box at P. -/
structure HX (w : World) (P : Nat) (nodes : Int) (AF : Option Addr) (nF cF : Nat) (flows : List Flw) (win que ep : Int) (AU : Option Addr) (nU cU : Nat) (up : List Bool) (AH : Option Addr) (nH cH : Nat) (hops : List (List Ed)) (a b : Int) (ok : Nat → Prop) : Prop where
  bx : w.heap[P]? = some (.cells #[.int .i64 nodes, .slice AF nF cF, .int .i64 win, .int .i64 que, .int .u64 ep, .slice AU nU cU, .slice AH nH cH, .int .u8 a, .int .u8 b] 31 (0, 0))
  i : inI nodes ∧ inI win ∧ inI que
  le : nF ≤ cF ∧ nU ≤ cU ∧ nH ≤ cH
  rf : Rd elFl w ok AF nF flows
  ru : Rd El.bool w ok AU nU up
  rh : Rd elEs w ok AH nH hops
  few : Few hops
  big : up.length ≤ 1048576 ∧ hops.length ≤ 1048576
section
variable {w w' : World} {P : Nat} {nodes : Int} {AF : Option Addr} {nF cF : Nat} {flows : List Flw} {win que ep : Int} {AU : Option Addr} {nU cU : Nat} {up : List Bool} {AH : Option Addr} {nH cH : Nat} {hops : List (List Ed)} {a b : Int} {ok S : Nat → Prop}
theorem HX.lt (h : HX w P nodes AF nF cF flows win que ep AU nU cU up AH nH cH hops a b ok) : P < w.heap.size := (Array.getElem?_eq_some_iff.1 h.bx).1
theorem HX.chg (h : HX w P nodes AF nF cF flows win que ep AU nU cU up AH nH cH hops a b ok) (hc : Chg S w w') (hS : ∀ k, k < w.heap.size → S k → k ≠ P ∧ ¬ ok k) : HX w' P nodes AF nF cF flows win que ep AU nU cU up AH nH cH hops a b ok :=
  ⟨(hc.block _ h.lt fun e => (hS _ h.lt e).1 rfl).trans h.bx, h.i, h.le, h.rf.chg hc fun k hk ho hs => (hS k hk hs).2 ho, h.ru.chg hc fun k hk ho hs => (hS k hk hs).2 ho, h.rh.chg hc fun k hk ho hs => (hS k hk hs).2 ho, h.few, h.big⟩
theorem HX.below (h : HX w P nodes AF nF cF flows win que ep AU nU cU up AH nH cH hops a b ok) (hb : Below w.heap.size w w') : HX w' P nodes AF nF cF flows win que ep AU nU cU up AH nH cH hops a b ok := h.chg (S := NoB) (Chg.ofBelow hb) fun _ _ h => h.elim
theorem HX.drew (h : HX w P nodes AF nF cF flows win que ep AU nU cU up AH nH cH hops a b ok) : HX w.drew P nodes AF nF cF flows win que ep AU nU cU up AH nH cH hops a b ok := h.below ⟨rfl, rfl, rfl, Nat.le_refl _, fun _ _ => rfl⟩
theorem HX.c (h : HX w P nodes AF nF cF flows win que ep AU nU cU up AH nH cH hops a b ok) : w.cell? ⟨P, 0, none⟩ = some (.int .i64 nodes) ∧ w.cell? ⟨P, 1, none⟩ = some (.slice AF nF cF) ∧ w.cell? ⟨P, 2, none⟩ = some (.int .i64 win) ∧ w.cell? ⟨P, 3, none⟩ = some (.int .i64 que) := by
  have hb := h.bx
  exact ⟨by simp [World.cell?, hb], by simp [World.cell?, hb], by simp [World.cell?, hb], by simp [World.cell?, hb]⟩
theorem HX.t (h : HX w P nodes AF nF cF flows win que ep AU nU cU up AH nH cH hops a b ok) : w.cell? ⟨P, 4, none⟩ = some (.int .u64 ep) ∧ w.cell? ⟨P, 5, none⟩ = some (.slice AU nU cU) ∧ w.cell? ⟨P, 6, none⟩ = some (.slice AH nH cH) := by
  have hb := h.bx
  exact ⟨by simp [World.cell?, hb], by simp [World.cell?, hb], by simp [World.cell?, hb]⟩
theorem HX.na (h : HX w P nodes AF nF cF flows win que ep AU nU cU up AH nH cH hops a b ok) : w.cell? ⟨P, 7, none⟩ = some (.int .u8 a) := by
  have hb := h.bx
  simp [World.cell?, hb]
theorem HX.conf (h : HX w P nodes AF nF cF flows win que ep AU nU cU up AH nH cH hops a b ok) : ConfV w (fun k => k < w.heap.size) (.agg #[.int .i64 nodes, .slice AF nF cF, .int .i64 win, .int .i64 que]) nodes flows win que :=
  ⟨_, _, _, rfl, h.le.1, h.i.1, h.i.2.1, h.i.2.2, h.rf.mono fun k _ hk => hk⟩
theorem HX.tv (h : HX w P nodes AF nF cF flows win que ep AU nU cU up AH nH cH hops a b ok) : TopoV w ok (.agg #[.int .u64 ep, .slice AU nU cU, .slice AH nH cH]) ep up hops :=
  ⟨_, _, _, _, _, _, rfl, h.le.2.1, h.le.2.2, h.ru, h.rh⟩
theorem HX.config (h : HX w P nodes AF nF cF flows win que ep AU nU cU up AH nH cH hops a b ok) (r : Bool) (hr : configOk nodes flows win que = r) :
    Calls Try.prog 8 #[.agg #[.int .i64 nodes, .slice AF nF cF, .int .i64 win, .int .i64 que]] w fun e w' => e = .returned (.bool r) ∧ Below w.heap.size w w' := by
  rw [← hr]; exact config_calls w _ nodes flows win que h.conf
theorem HX.may (h : HX w P nodes AF nF cF flows win que ep AU nU cU up AH nH cH hops a b ok) (r : Bool) (hr : mayOk nodes flows win que ep up hops = r) :
    Calls Try.prog 9 #[.agg #[.int .i64 nodes, .slice AF nF cF, .int .i64 win, .int .i64 que], .agg #[.int .u64 ep, .slice AU nU cU, .slice AH nH cH]] w fun e w' => e = .returned (.bool r) ∧ Below w.heap.size w w' := by
  rw [← hr]; exact may_calls w _ _ nodes flows win que ep up hops h.conf (h.tv.mono fun k _ hk => hk) h.few
theorem HX.new (h : HX w P nodes AF nF cF flows win que ep AU nU cU up AH nH cH hops a b ok) (hok : ∀ k, ok k → k < w.heap.size) (hc : configOk nodes flows win que = true) (x : Int) (h0 : 0 ≤ x) (h1 : x < nodes) :
    Calls Try.prog 10 #[.agg #[.int .i64 nodes, .slice AF nF cF, .int .i64 win, .int .i64 que], .int .i64 x] w fun e w' => ∃ M, e = .returned (.tuple #[.pointer (some ⟨M, 0, none⟩), .int .i64 0]) ∧ w.heap.size ≤ M ∧ MB w' M (fun k => ok k ∨ (w.heap.size ≤ k ∧ k ≠ M)) nodes flows win que x 0 [] [] ∧ Below w.heap.size w w' :=
  new_yes w _ nodes flows win que x ok hok ⟨_, _, _, rfl, h.le.1, h.i.1, h.i.2.1, h.i.2.2, h.rf⟩ hc h0 h1
theorem HX.own (h : HX w P nodes AF nF cF flows win que ep AU nU cU up AH nH cH hops a b ok) :
    Calls Try.prog 23 #[.agg #[.int .u64 ep, .slice AU nU cU, .slice AH nH cH]] w (RetTO w ep up hops) := own_calls w _ ep up hops (h.tv.mono fun k _ hk => hk) h.few h.big.1 h.big.2
theorem HX.next (h : HX w P nodes AF nF cF flows win que ep AU nU cU up AH nH cH hops a b ok) (k x : Int) (hk : inI k) :
    Calls Try.prog 25 #[.agg #[.int .u64 ep, .slice AU nU cU, .slice AH nH cH], .int .i64 k, .int .i64 x] w (RetI w (nextOf hops k x)) := next_calls w _ ep up hops (h.tv.mono fun k _ hk => hk) h.few k x hk
theorem HX.prev (h : HX w P nodes AF nF cF flows win que ep AU nU cU up AH nH cH hops a b ok) (k x : Int) (hk : inI k) :
    Calls Try.prog 26 #[.agg #[.int .u64 ep, .slice AU nU cU, .slice AH nH cH], .int .i64 k, .int .i64 x] w (RetI w (prevOf hops k x)) := prev_calls w _ ep up hops (h.tv.mono fun k _ hk => hk) h.few k x hk
end
theorem OwnI.row2 {w : World} {base : Nat} {v : Value} {zs : List Int} (h : OwnI w base v zs) : ∃ A n c, v = .slice A n c ∧ Hid (zs.length = n) ∧ n ≤ 9223372036854775807 ∧ Hid (RdI w (fun k => base ≤ k) A n zs) := by
  obtain ⟨A, c, e, h1, h2, _, h4⟩ := h.rd
  exact ⟨A, _, c, e, Lib.hid rfl, by omega, Lib.hid (h4.mono fun k hk _ => hk.1)⟩
theorem sameT_self (ep : Int) (up : List Bool) (hops : List (List Ed)) : sameT ep up hops ep up hops = true := by
  unfold sameT
  simp
end Go.Proofs.Ythgnjojkncodeaa
