/-
  The map of chunks' ends.
-/
import Derived.Maps.OwnOps
import Derived.Maps.Views
import Derived.Maps.OwnSet
import Derived.Test.YtnadohbgnanpiaaPadI
namespace Go.Proofs.Ytnadohbgnanpiaa
open Go.RowKit Go.Maps

theorem mapLaw : Keyed Try.prog 3 := int_keyed Try.underlying3
theorem zeroInt (w : World) : (zeroValue 3).run Try.prog w = .ok (.int .i64 0) w := by kernel_rfl
theorem wpList_insert_own {H : Type} {P : Program} (w : World) {ops : Array Oper} {rest : List Oper} {o : Oper} {a : Act} {Q : Exit → Act → World → Prop}
    (hg : o.guard = none) (m x v : Operand) (t : TypeId) (hop : o.op = Op.insert t m x v)
    (k e : TypeId) (K : Keyed P k) (ht : P.underlying t = some (.map k e)) (R : Value → Option (DataW H × List MemPlace)) (b n : Nat) (D : DataW H)
    (hm : a.eval m = .map (some b)) (hown : w.ownsMap P k R b n D) (hn : n < maxLen) (key val : Value) (kl : Lit) (hx : a.eval x = key) (hv : a.eval v = val) (hkey : keyOf P k key = some kl)
    (d : DataW H) (ps : List MemPlace) (hval : R val = some (d, ps))
    (hK : ∀ w', w'.ownsMap P k R b (n + 1) (D.put kl d) → w.grownBy w' (some b) → wpList P ops Q rest (a.put o.dst undef) w') :
    wpList P ops Q (o :: rest) a w := by
  refine wpList_plain hg fun K' hK' => ?_
  obtain ⟨w', hrun, r1, r2⟩ := hown.update K ht hn hkey hval
  unfold Oper.wp
  simp [execOp, hop, hm, hx, hv, hrun, Result.andThen]
  exact hK' _ _ (hK w' r1 r2)
/-- Block M is a map that reads 1 at each of the keys. -/
def Ones (w : World) (M n : Nat) (p : Nat → Prop) : Prop := ∃ D : DataW Unit, w.ownsMap Try.prog 3 (plainElem Try.prog 3) M n D ∧ ∀ z, p z → D.atKey (.int .i64 (z : Int)) (.lit (.int .i64 0)) = .lit (.int .i64 1)
theorem Ones.put {w w' : World} {M n : Nat} {D : DataW Unit} {p : Nat → Prop} {n0 : Nat} (z : Nat) (h0 : w.ownsMap Try.prog 3 (plainElem Try.prog 3) M n0 D) (hD : ∀ y, p y → D.atKey (.int .i64 (y : Int)) (.lit (.int .i64 0)) = .lit (.int .i64 1))
    (h : w'.ownsMap Try.prog 3 (plainElem Try.prog 3) M n (D.put (.int .i64 (z : Int)) (.lit (.int .i64 1)))) (q : Nat → Prop) (hq : ∀ y, q y → p y ∨ y = z) : Ones w' M n q := by
  refine ⟨_, h, fun y hy => ?_⟩
  by_cases e : y = z
  · subst e
    exact atKey_put_same h0.isMap (by first | exact trivial | simp [WideAt.IsKeyLit] | constructor) _ _
  · rw [atKey_put_other (fun h => e (by injection h with _ h; omega))]
    exact hD y ((hq y hy).resolve_right e)
theorem Ones.grown {w w' : World} {M n : Nat} {p : Nat → Prop} {row : Option Nat} (h : Ones w M n p) (hg : w.grownBy w' row) (hne : some M ≠ row) : Ones w' M n p := by
  obtain ⟨D, h1, h2⟩ := h
  exact ⟨D, h1.kept hg hne, h2⟩
theorem Ones.below {w w' : World} {M n : Nat} {p : Nat → Prop} (h : Ones w M n p) (hb : Below w.heap.size w w') : Ones w' M n p := h.grown (grownOfBelow hb none) (by simp)
theorem Ones.lt {w : World} {M n : Nat} {p : Nat → Prop} (h : Ones w M n p) : M < w.heap.size := by
  obtain ⟨D, h1, _⟩ := h
  exact h1.lt
theorem Ones.made (w : World) : Ones (w.alloc (.map #[] 0)) w.heap.size 0 (fun _ => False) := ⟨_, World.ownsMap_made _ _ _ _, fun _ h => h.elim⟩
section
variable {ops : Array Oper} {rest : List Oper} {o : Oper} {a : Act} {Q : Exit → Act → World → Prop}
theorem onesInsert (w : World) (hg : o.guard = none) (m x v : Operand) (hop : o.op = Op.insert 54 m x v) (M n z : Nat) (p : Nat → Prop) (hm : a.eval m = .map (some M)) (h : Ones w M n p) (hn : n < maxLen) (hz : z ≤ 1099511627776)
    (hx : a.eval x = .int .i64 (z : Int)) (hv : a.eval v = .int .i64 1)
    (hK : ∀ w', Ones w' M (n + 1) (fun y => p y ∨ y = z) → w.grownBy w' (some M) → wpList Try.prog ops Q rest (a.put o.dst undef) w') : wpList Try.prog ops Q (o :: rest) a w := by
  obtain ⟨D, h1, h2⟩ := h
  refine wpList_insert_own w hg m x v 54 hop 3 3 mapLaw Try.underlying54 _ M n D hm h1 hn _ _ (.int .i64 (z : Int)) hx hv (keyOf_int_mk Try.underlying3 (WalkArith.wf_i64 (by omega))) _ [] (plainElem_int Try.underlying3 (WalkArith.wf_i64 (by omega))) fun w' k1 k2 => hK w' (Ones.put z h1 h2 k1 _ fun y hy => hy) k2
theorem onesUpdate (w : World) (hg : o.guard = none) (m x v : Operand) (hop : o.op = Op.mapUpdate 54 m x v) (M n z : Nat) (p : Nat → Prop) (hm : a.eval m = .map (some M)) (h : Ones w M n p) (hn : n < maxLen) (hz : z ≤ 1099511627776)
    (hx : a.eval x = .int .i64 (z : Int)) (hv : a.eval v = .int .i64 1)
    (hK : ∀ w', Ones w' M (n + 1) (fun y => p y ∨ y = z) → w.grownBy w' (some M) → wpList Try.prog ops Q rest (a.put o.dst undef) w') : wpList Try.prog ops Q (o :: rest) a w := by
  obtain ⟨D, h1, h2⟩ := h
  refine wpList_mapUpdate_own w hg m x v 54 hop 3 3 mapLaw Try.underlying54 _ M n D hm h1 hn _ _ (.int .i64 (z : Int)) hx hv (keyOf_int_mk Try.underlying3 (WalkArith.wf_i64 (by omega))) _ [] (plainElem_int Try.underlying3 (WalkArith.wf_i64 (by omega))) fun w' k1 k2 => hK w' (Ones.put z h1 h2 k1 _ fun y hy => hy) k2
theorem onesLookup (w : World) (hg : o.guard = none) (m x : Operand) (hop : o.op = Op.lookup 54 m x false) (M n z : Nat) (p : Nat → Prop) (hm : a.eval m = .map (some M)) (h : Ones w M n p) (hp : p z) (hz : z ≤ 1099511627776)
    (hx : a.eval x = .int .i64 (z : Int))
    (hK : wpList Try.prog ops Q rest (a.put o.dst (.int .i64 1)) w) : wpList Try.prog ops Q (o :: rest) a w := by
  obtain ⟨D, h1, h2⟩ := h
  refine wpList_lookup_own_int w hg m x 54 hop 3 3 .i64 mapLaw Try.underlying54 Try.underlying3 (zeroInt _) M n D hm h1 _ (.int .i64 (z : Int)) hx (keyOf_int_mk Try.underlying3 (WalkArith.wf_i64 (by omega))) fun c hc _ => ?_
  rw [h2 z hp] at hc
  injection hc with hc
  injection hc with _ hc
  rw [← hc]
  exact hK
end
end Go.Proofs.Ytnadohbgnanpiaa
