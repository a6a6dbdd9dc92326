/-
  Words of this seat: slices of uint64 that are read, rows of uint64 of a call's own; what appends make of them. (Written by program from XBase.)
-/
import Derived.Test.YtplkmcjobmhneaaProg
import Derived.WalkKit
import Derived.WalkSpells
import Derived.KernelRfl
import Derived.Lib.Hide
import Derived.Maps.AppendAt
import Derived.Deep.Draws
import Derived.Deep.QuietTactic
import Derived.BigQuiet
import Derived.Deep.RegionHeld3
import Derived.Deep.AppendLies
import Derived.Deep.RegionLaw
import Derived.Deep.DeepCutAuto
import Derived.Laws.BytesArg
import Derived.Laws.MakeOwn
import Derived.Laws.OwnMore
import Derived.Lib.SlBytesConst
import Derived.Deep.OwnRows
namespace Go.Proofs.Ytplkmcjobmhneaa
open Go.RowKit

/-! ### Addresses and worlds -/
theorem addBlock (a : Addr) (n : Nat) : (a.add n).block = a.block := by unfold Addr.add; split <;> rfl
theorem addAdd (a : Addr) (i j : Nat) : (a.add i).add j = a.add (i + j) := by
  unfold Addr.add
  by_cases hi : i = 0 <;> by_cases hj : j = 0 <;> simp [hi, hj, Nat.add_assoc]
theorem addPlain (b o j : Nat) : (⟨b, o, none⟩ : Addr).add j = ⟨b, o + j, none⟩ := by unfold Addr.add; split <;> simp_all
theorem addZero (a : Addr) : a.add 0 = a := by simp [Addr.add]
theorem belowAlloc {B : Nat} {w W : World} (h : Below B w W) (hB : B ≤ W.heap.size) (o : Obj) : Below B w (W.alloc o) := h.alloc hB o
theorem belowDrewN {B : Nat} {w W : World} (h : Below B w W) (n : Nat) : Below B w (W.drewN n) := ⟨h.os, h.tape, h.output, h.size, h.block⟩
theorem belowThen {B : Nat} {w w1 w2 : World} (h : Below B w w1) (hB : B ≤ w1.heap.size) (k : Below w1.heap.size w1 w2) : Below B w w2 :=
  h.trans ⟨k.os, k.tape, k.output, k.size, fun i hi => k.block i (Nat.lt_of_lt_of_le hi hB)⟩
theorem belowSelf {w w1 : World} (h : Below w.heap.size w w1) : w.heap.size ≤ w1.heap.size := h.size
theorem grownOfBelow {w w1 : World} (h : Below w.heap.size w w1) (row : Option Nat) : w.grownBy w1 row := ⟨h.os, h.tape, h.output, h.size, fun i hi _ => h.block i hi⟩
theorem cellBelow {w w1 : World} (h : Below w.heap.size w w1) {a : Addr} {v : Value} (hc : w.cell? a = some v) : w1.cell? a = some v :=
  (h.cell (World.block_lt_of_cell? w a hc)).trans hc

/-! ### Bytes -/
def nth (xs : List Nat) (j : Nat) : Nat := xs[j]?.getD 0
theorem nth_eq (xs : List Nat) (j : Nat) (h : j < xs.length) : nth xs j = xs[j] := by simp [nth, h]
def uvals (xs : List Nat) : List Value := xs.map fun (b : Nat) => .int .u64 ((b : Nat) : Int)
theorem uvals_length (xs : List Nat) : (uvals xs).length = xs.length := by simp [uvals]
theorem uvals_append (xs ys : List Nat) : uvals (xs ++ ys) = uvals xs ++ uvals ys := by simp [uvals]
theorem uvals_get (xs : List Nat) (j : Nat) (h : j < xs.length) : (uvals xs)[j]? = some (.int .u64 (nth xs j : Int)) := by
  simp [uvals, h, nth_eq]
theorem uvals_one (xs : List Nat) : ∀ u ∈ uvals xs, u.oneCell' = true := by
  intro u hu
  simp only [uvals, List.mem_map] at hu
  obtain ⟨b, _, rfl⟩ := hu
  rfl

/-- The slice '.slice A n c' reads as xs; its block meets 'ok'. -/
def RdU (w : World) (ok : Nat → Prop) (A : Option Addr) (n : Nat) (xs : List Nat) : Prop :=
  xs.length = n ∧ n ≤ 9223372036854775807 ∧ (0 < n → ∃ ad, A = some ad ∧ ok ad.block ∧ ad.block < w.heap.size ∧ ad.spot = none ∧ ∀ j, j < n → w.cell? (ad.add j) = some (.int .u64 (nth xs j : Int)))
/-- A row of bytes of the call's own. -/
def OwnU (w : World) (base : Nat) (v : Value) (xs : List Nat) : Prop := w.ownsRow base 23 1 v xs.length (uvals xs)

section
variable {w w' : World} {ok ok' : Nat → Prop} {A : Option Addr} {n : Nat} {xs ys : List Nat} {base : Nat} {v : Value}
theorem RdU.len (h : RdU w ok A n xs) : xs.length = n := h.1
theorem RdU.max (h : RdU w ok A n xs) : n ≤ 9223372036854775807 := h.2.1
theorem RdU.keep (h : RdU w ok A n xs) (hs : w.heap.size ≤ w'.heap.size) (hk : ∀ k, ok k → k < w.heap.size → w'.heap[k]? = w.heap[k]?) : RdU w' ok A n xs := by
  refine ⟨h.1, h.2.1, fun hn => ?_⟩
  obtain ⟨ad, e, ho, hl, hs', hc⟩ := h.2.2 hn
  refine ⟨ad, e, ho, by omega, hs', fun j hj => ?_⟩
  rw [← hc j hj]
  exact World.cell?_of_block (by rw [addBlock]; exact hk _ ho hl)
theorem RdU.mono (h : RdU w ok A n xs) (hk : ∀ k, ok k → k < w.heap.size → ok' k) : RdU w ok' A n xs := by
  refine ⟨h.1, h.2.1, fun hn => ?_⟩
  obtain ⟨ad, e, ho, hl, r⟩ := h.2.2 hn
  exact ⟨ad, e, hk _ ho hl, hl, r⟩
theorem RdU.below (h : RdU w ok A n xs) (hb : Below w.heap.size w w') : RdU w' ok A n xs := h.keep hb.size fun k _ hl => hb.block k hl
theorem RdU.grown {row : Option Nat} (h : RdU w ok A n xs) (hg : w.grownBy w' row) (hr : ∀ k, ok k → some k ≠ row) : RdU w' ok A n xs := h.keep hg.size fun k ho hl => hg.block k hl (hr k ho)
theorem RdU.drewN (h : RdU w ok A n xs) (m : Nat) : RdU (w.drewN m) ok A n xs := h
theorem RdU.drew (h : RdU w ok A n xs) : RdU w.drew ok A n xs := h
theorem RdU.alloc (h : RdU w ok A n xs) (o : Obj) : RdU (w.alloc o) ok A n xs := h.below ((Below.refl _ _).alloc (Nat.le_refl _) o)
theorem RdU.set_ (h : RdU w ok A n xs) (p : Addr) (u : Value) (hr : ∀ k, ok k → k ≠ p.block) : RdU (w.setCell p u) ok A n xs :=
  h.keep (by simp [World.setCell]) fun k ho _ => Below.heap_setCell w p u k (hr k ho)
theorem RdU.nil (w : World) (ok : Nat → Prop) (A : Option Addr) : RdU w ok A 0 [] := ⟨rfl, by omega, fun h => absurd h (by omega)⟩
theorem RdU.cells (h : RdU w ok A n xs) : ∀ ad, A = some ad → ∀ j u, (uvals xs)[j]? = some u → w.cell? (ad.add j) = some u := by
  intro ad hA j u hu
  have hj : j < xs.length := by
    rcases Nat.lt_or_ge j xs.length with h1 | h1
    · exact h1
    · rw [List.getElem?_eq_none (by rw [uvals_length]; exact h1)] at hu; cases hu
  obtain ⟨ad', e, _, _, _, hc⟩ := h.2.2 (by have := h.1; omega)
  rw [hA] at e
  injection e with e
  subst e
  rw [uvals_get xs j hj] at hu
  injection hu with hu
  rw [← hu]
  exact hc j (by have := h.1; omega)
/-- A cell of it, under the condition that there is one. -/
theorem RdU.at_ (h : RdU w ok A n xs) (j : Nat) (hj : j < n) : ∃ b o, A = some ⟨b, o, none⟩ ∧ w.cell? ⟨b, o + j, none⟩ = some (.int .u64 (nth xs j : Int)) := by
  obtain ⟨⟨b, o, s⟩, e, _, _, hs, hc⟩ := h.2.2 (by omega)
  simp only at hs
  subst hs
  exact ⟨b, o, e, by rw [← addPlain]; exact hc j hj⟩
theorem RdU.atk (h : RdU w ok A n xs) (j : Nat) (hj : j < n) : ∃ b o, A = some ⟨b, o, none⟩ ∧ ok b ∧ w.cell? ⟨b, o + j, none⟩ = some (.int .u64 (nth xs j : Int)) := by
  obtain ⟨⟨b, o, s⟩, e, ho, _, hs, hc⟩ := h.2.2 (by omega)
  simp only at hs
  subst hs
  exact ⟨b, o, e, ho, by rw [← addPlain]; exact hc j hj⟩
theorem RdU.cut (h : RdU w ok A n xs) {c lo hi : Nat} (h1 : lo ≤ hi) (h2 : hi ≤ n) (h3 : n ≤ c) :
    RdU w ok (if c = lo then A else A.map fun a => a.add (lo * 1)) (hi - lo) ((xs.take hi).drop lo) := by
  refine ⟨by rw [List.length_drop, List.length_take, h.1]; omega, by have := h.2.1; omega, fun hn => ?_⟩
  obtain ⟨ad, rfl, ho, hl, hs, hc⟩ := h.2.2 (by omega)
  rw [if_neg (by omega)]
  refine ⟨ad.add (lo * 1), rfl, by rw [addBlock]; exact ho, by rw [addBlock]; exact hl, by unfold Addr.add; split <;> simp_all, fun j hj => ?_⟩
  rw [addAdd, Nat.mul_one, hc (lo + j) (by omega)]
  have e : nth ((xs.take hi).drop lo) j = nth xs (lo + j) := by
    unfold nth
    rw [List.getElem?_drop, List.getElem?_take, if_pos (by omega)]
  rw [e]

theorem OwnU.nil (w : World) (base : Nat) : OwnU w base (.slice none 0 0) [] := World.ownsRow_nil w base _ 1
theorem OwnU.drew (h : OwnU w base v xs) : OwnU w.drew base v xs := h
theorem OwnU.drewN (h : OwnU w base v xs) (m : Nat) : OwnU (w.drewN m) base v xs := h
theorem OwnU.grown {row : Option Nat} (h : OwnU w base v xs) (hg : w.grownBy w' row) (hr : ∀ k, v.ownBlock = some k → some k ≠ row) : OwnU w' base v xs := by
  refine World.ownsRow.kept h hg ?_
  cases e : v.ownBlock with
  | none => exact .inl rfl
  | some k => exact .inr (fun he => hr k e he)
theorem OwnU.below (h : OwnU w base v xs) (hb : Below w.heap.size w w') : OwnU w' base v xs := h.grown (grownOfBelow hb none) (by simp)
theorem OwnU.lt (h : OwnU w base v xs) : ∀ k, v.ownBlock = some k → base ≤ k ∧ k < w.heap.size := World.ownsRow.lt h
theorem OwnU.lower (h : OwnU w base v xs) {b : Nat} (hb : b ≤ base) : OwnU w b v xs := by
  refine ⟨h.1, ?_⟩
  rcases h.2 with h2 | ⟨g, cap, cur, h1, h2, r⟩
  · exact .inl h2
  · exact .inr ⟨g, cap, cur, h1, by omega, r⟩
/-- What is owned is read. -/
theorem OwnU.rd (h : OwnU w base v xs) : ∃ A c, v = .slice A xs.length c ∧ xs.length ≤ c ∧ (0 < xs.length → 0 < c) ∧ RdU w (fun k => base ≤ k ∧ v.ownBlock = some k) A xs.length xs := by
  rcases h.2 with ⟨rfl, h0⟩ | ⟨g, cap, cur, rfl, hb, hg, hn, hm, hc, ht⟩
  · refine ⟨none, 0, by rw [h0], by omega, by omega, rfl, by omega, fun h => absurd h (by omega)⟩
  · refine ⟨_, cap, rfl, hn, by omega, rfl, by simp only [maxLen] at hm; omega, fun h0 => ⟨⟨g, 0, none⟩, rfl, ⟨hb, rfl⟩, (Array.getElem?_eq_some_iff.1 hg).1, rfl, fun j hj => ?_⟩⟩
    exact World.ownsRow.cells h (g := g) rfl j _ (uvals_get xs j hj)
theorem OwnU.form (h : OwnU w base v xs) (h0 : 0 < xs.length) : ∃ g cap, v = .slice (some ⟨g, 0, none⟩) xs.length cap ∧ base ≤ g ∧ g < w.heap.size ∧ xs.length ≤ cap ∧
    (∀ j, j < xs.length → w.cell? ⟨g, j, none⟩ = some (.int .u64 (nth xs j : Int))) ∧ ∀ j, w.frozen? ⟨g, j, none⟩ = false := by
  rcases h.2 with ⟨_, h1⟩ | ⟨g, cap, cur, rfl, hb, hg, hn, hm, hc, ht⟩
  · omega
  · refine ⟨g, cap, rfl, hb, (Array.getElem?_eq_some_iff.1 hg).1, hn, fun j hj => ?_, fun j => by simp [World.frozen?, hg]⟩
    have := World.ownsRow.cells h (g := g) rfl j _ (uvals_get xs j hj)
    rwa [addPlain, Nat.zero_add] at this
theorem OwnU.store {g cap : Nat} (h : OwnU w base (.slice (some ⟨g, 0, none⟩) xs.length cap) xs) (j : Nat) (u : Nat) :
    OwnU (w.setCell ⟨g, j, none⟩ (.int .u64 (u : Int))) base (.slice (some ⟨g, 0, none⟩) xs.length cap) (xs.set j u) ∧ w.grownBy (w.setCell ⟨g, j, none⟩ (.int .u64 (u : Int))) (some g) := by
  have hs := World.ownsRow.stored h j (.int .u64 (u : Int))
  have he : (uvals xs).set j (.int .u64 (u : Int)) = uvals (xs.set j u) := by simp [uvals, List.map_set]
  rw [he] at hs
  exact ⟨by unfold OwnU; rw [List.length_set]; exact hs.1, hs.2⟩
theorem OwnU.lit (w : World) (base : Nat) (xs : List Nat) (hb : base ≤ w.heap.size) (hm : xs.length ≤ 9223372036854775807) :
    OwnU (w.alloc (.cells (uvals xs).toArray 23)) base (.slice (some ⟨w.heap.size, 0, none⟩) xs.length xs.length) xs := by
  have h := World.ownsRow_lit (base := base) (e := 23) (size := 1) w (uvals xs).toArray xs.length hb (by simpa [maxLen] using hm) (by simp [uvals])
  unfold OwnU
  simpa using h
end

theorem cellSet {w : World} {p q : Addr} {v u : Value} (h : w.cell? q = some v) (hne : q.block ≠ p.block) : (w.setCell p u).cell? q = some v :=
  (World.cell?_of_block (w := w) (Below.heap_setCell w p u q.block hne)).trans h
theorem info_u64 : (Try.prog.info? 23).map (fun i => (i.zero, i.size, i.bytes)) = some (some (.int .u64 0), 1, 8) := by kernel_rfl

/-! ### append(own, read...) -/
section
variable {P : Program} {ops : Array Oper} {rest : List Oper} {o : Oper} {a : Act} {Q : Exit → Act → World → Prop}
theorem run_appU {W : World} (base : Nat) (ty : TypeId) (v : Value) (xs ys : List Nat) (A : Option Addr) (m c : Nat) {ok : Nat → Prop}
    (HO : OwnU W base v xs) (HR : RdU W ok A m ys) (hbase : base ≤ W.heap.size) (hl : xs.length + m ≤ 17592186044416) :
    ∃ v1 w1, (Builtin.append_ #[22, 22] ty #[v, .slice A m c]).run Try.prog W = .ok v1 w1 ∧ OwnU w1 base v1 (xs ++ ys) ∧ W.grownBy w1 v.ownBlock ∧
      (v1.ownBlock = v.ownBlock ∨ v1.ownBlock = some W.heap.size) := by
  obtain ⟨i0, hi, hzz⟩ := Option.map_eq_some_iff.1 info_u64
  simp only [Prod.mk.injEq] at hzz
  obtain ⟨hz0, hz1, hz2⟩ := hzz
  have hm : ys.length = m := HR.1
  rcases A with _ | ad
  · have h0 : m = 0 := by
      rcases Nat.eq_zero_or_pos m with h0 | h0
      · exact h0
      · obtain ⟨ad, h, _⟩ := HR.2.2 h0
        cases h
    subst h0
    obtain rfl : ys = [] := List.eq_nil_of_length_eq_zero hm
    refine ⟨v, W, ?_, by simpa using HO, World.grownBy.refl W _, .inl rfl⟩
    rcases HO.2 with ⟨rfl, hn⟩ | ⟨g, cap, cur, rfl, _, _, hnc, _⟩
    · simp [Builtin.append_, run_underlying Try.underlying22, sizeOf, typeInfo, hi, Builtin.lenOf, Builtin.firstCells]
    · simp [Builtin.append_, run_underlying Try.underlying22, sizeOf, typeInfo, hi, Builtin.lenOf, Builtin.firstCells, hnc, storeCells]
  · obtain ⟨v1, w1, hr, h2, h3, _, h5⟩ := run_append_own_at (P := Try.prog) W base 22 ty 23 i0 (.int .u64 0) 1 8 Try.underlying22 hi hz0 hz1 hz2 rfl (by omega) v xs.length (uvals xs) HO ad m c (uvals ys) (by rw [uvals_length]; omega)
      (HR.cells ad rfl) (uvals_one ys) (by simp only [maxLen]; omega) (by omega) hbase
    exact ⟨v1, w1, hr, by unfold OwnU; rw [List.length_append, hm, uvals_append]; exact h2, h3, h5⟩
theorem wpList_wanted {w : World} (hw : Region.wanted o (yielded ops a.tmps) = true)
    (h : ∀ K : Act → World → Prop, (∀ a w, wpList P ops Q rest a w → K a w) → o.wp P a w K Q) : wpList P ops Q (o :: rest) a w := by
  unfold wpList
  rw [if_pos hw]
  exact .inl (h _ fun _ _ h => h)
theorem appU {w0 W : World} (B base : Nat) (hgd : Region.wanted o (yielded ops a.tmps) = true) (s x : Operand)
    (ho : o.op = .call { callee := .builtin .append, args := #[s, x], argTypes := #[22, 22] })
    (v : Value) (xs ys : List Nat) (A : Option Addr) (m c : Nat) {ok : Nat → Prop} (hs : a.eval s = v) (hx : a.eval x = .slice A m c)
    (HO : OwnU W base v xs) (HR : RdU W ok A m ys) (HB : Below B w0 W) (hbase : base ≤ W.heap.size) (hBb : B ≤ base) (hl : xs.length + m ≤ 17592186044416)
    (h : ∀ v1 w1, OwnU w1 base v1 (xs ++ ys) → Below B w0 w1 → W.grownBy w1 v.ownBlock → (v1.ownBlock = v.ownBlock ∨ v1.ownBlock = some W.heap.size) → wpList Try.prog ops Q rest (a.put o.dst v1) w1) :
    wpList Try.prog ops Q (o :: rest) a W := by
  obtain ⟨v1, w1, hr, h2, h3, h5⟩ := run_appU base o.type v xs ys A m c HO HR hbase hl
  refine wpList_wanted hgd fun K hK => ?_
  unfold Oper.wp execOp
  simp only [ho, resolve, invoke, builtin, Sem.run_bind, Sem.run_pure, Result.andThen_ok, List.map_toArray, List.map_cons, List.map_nil, hs, hx, hr]
  exact hK _ _ (h v1 w1 h2 (HB.grown h3 (by omega) (fun k hk => by have := HO.lt k hk; omega)) h3 h5)
/-- The same at a step of a region that draws ('go_region_law'). -/
theorem stepAppU {w0 W : World} {K : Act → World → Prop} {E : Prop} (B base : Nat) (hgd : o.guard = none) (s x : Operand)
    (ho : o.op = .call { callee := .builtin .append, args := #[s, x], argTypes := #[22, 22] })
    (v : Value) (xs ys : List Nat) (A : Option Addr) (m c : Nat) {ok : Nat → Prop} (hs : a.eval s = v) (hx : a.eval x = .slice A m c)
    (HO : OwnU W base v xs) (HR : RdU W ok A m ys) (HB : Below B w0 W) (hbase : base ≤ W.heap.size) (hBb : B ≤ base) (hl : xs.length + m ≤ 17592186044416)
    (h : ∀ v1 w1, OwnU w1 base v1 (xs ++ ys) → Below B w0 w1 → W.grownBy w1 v.ownBlock → (v1.ownBlock = v.ownBlock ∨ v1.ownBlock = some W.heap.size) → K (a.put o.dst v1) w1) :
    if Region.wanted o (yielded ops a.tmps) = true then Oper.wp Try.prog o a W K Q else E := by
  have hw : Region.wanted o (yielded ops a.tmps) = true := by simp [Region.wanted, hgd]
  rw [if_pos hw]
  obtain ⟨v1, w1, hr, h2, h3, h5⟩ := run_appU base o.type v xs ys A m c HO HR hbase hl
  unfold Oper.wp execOp
  simp only [ho, resolve, invoke, builtin, Sem.run_bind, Sem.run_pure, Result.andThen_ok, List.map_toArray, List.map_cons, List.map_nil, hs, hx, hr]
  exact h v1 w1 h2 (HB.grown h3 (by omega) (fun k hk => by have := HO.lt k hk; omega)) h3 h5
end
theorem quietL {P : Program} {f : FuncId} {args : Array Value} {w : World} {n : Nat} {v : Value}
    (h : Calls P f args (w.drewN n) fun e w' => e = .returned v ∧ w.drewN n = w') : Calls P f args (w.drewN n) fun e w'' => e = .returned v ∧ ∃ m, w'' = w.drewN m :=
  h.mono fun _ _ ⟨he, hm⟩ => ⟨he, n, hm.symm⟩
theorem quietD {P : Program} {f : FuncId} {args : Array Value} {w : World} {n : Nat} {v : Value}
    (h : Calls P f args (w.drewN n) fun e w' => e = .returned v ∧ ∃ m, w' = (w.drewN n).drewN m) : Calls P f args (w.drewN n) fun e w'' => e = .returned v ∧ ∃ m, w'' = w.drewN m :=
  Calls.quiet_of h
/-- A contract that leaves the world as it was, told by 'Below'. -/
theorem weakB {P : Program} {f : FuncId} {args : Array Value} {w : World} {v : Value} (h : Calls P f args w fun e w' => e = .returned v ∧ w = w') : Calls P f args w fun e w' => e = .returned v ∧ Below w.heap.size w w' :=
  h.mono fun _ _ ⟨he, hw⟩ => ⟨he, by subst hw; exact Below.refl _ _⟩
theorem weakD {P : Program} {f : FuncId} {args : Array Value} {w : World} {v : Value} (h : Calls P f args w fun e w' => e = .returned v ∧ ∃ k, w' = w.drewN k) : Calls P f args w fun e w' => e = .returned v ∧ Below w.heap.size w w' :=
  h.mono fun _ _ ⟨he, k, hw⟩ => ⟨he, by subst hw; exact belowDrewN (Below.refl _ _) _⟩
/-- What a call leaves that hands back a new row of bytes. -/
def RetU (w : World) (xs : List Nat) (e : Ending) (w' : World) : Prop := ∃ v, e = .returned v ∧ OwnU w' w.heap.size v xs ∧ Below w.heap.size w w'
end Go.Proofs.Ytplkmcjobmhneaa
