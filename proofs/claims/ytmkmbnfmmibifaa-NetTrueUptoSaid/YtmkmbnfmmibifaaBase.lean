/-
  Words of this seat: slices of bytes that are read, rows of bytes of a call's own; what cuts, appends and conversions make of them.
-/
import Derived.Test.YtmkmbnfmmibifaaProg
import Derived.WalkKit
import Derived.WalkSpells
import Derived.KernelRfl
import Derived.Lib.Hide
import Derived.Maps.AppendAt
import Derived.Deep.Draws
import Derived.Deep.QuietTactic
import Derived.BigQuiet
import Derived.Deep.RegionHeld3
import Derived.Deep.AppendLies
import Derived.Deep.RegionLaw
import Derived.Deep.DeepCutAuto
import Derived.Laws.BytesArg
import Derived.Laws.MakeOwn
import Derived.Laws.OwnMore
import Derived.Lib.SlBytesConst
import Derived.Deep.OwnRows
namespace Go.Proofs.Ytmkmbnfmmibifaa
open Go.RowKit

/-! ### Addresses and worlds -/
theorem addBlock (a : Addr) (n : Nat) : (a.add n).block = a.block := by unfold Addr.add; split <;> rfl
theorem addAdd (a : Addr) (i j : Nat) : (a.add i).add j = a.add (i + j) := by
  unfold Addr.add
  by_cases hi : i = 0 <;> by_cases hj : j = 0 <;> simp [hi, hj, Nat.add_assoc]
theorem addPlain (b o j : Nat) : (⟨b, o, none⟩ : Addr).add j = ⟨b, o + j, none⟩ := by unfold Addr.add; split <;> simp_all
theorem addZero (a : Addr) : a.add 0 = a := by simp [Addr.add]
theorem belowAlloc {B : Nat} {w W : World} (h : Below B w W) (hB : B ≤ W.heap.size) (o : Obj) : Below B w (W.alloc o) := h.alloc hB o
theorem belowDrewN {B : Nat} {w W : World} (h : Below B w W) (n : Nat) : Below B w (W.drewN n) := ⟨h.os, h.tape, h.output, h.size, h.block⟩
theorem belowThen {B : Nat} {w w1 w2 : World} (h : Below B w w1) (hB : B ≤ w1.heap.size) (k : Below w1.heap.size w1 w2) : Below B w w2 :=
  h.trans ⟨k.os, k.tape, k.output, k.size, fun i hi => k.block i (Nat.lt_of_lt_of_le hi hB)⟩
theorem belowSelf {w w1 : World} (h : Below w.heap.size w w1) : w.heap.size ≤ w1.heap.size := h.size
theorem grownOfBelow {w w1 : World} (h : Below w.heap.size w w1) (row : Option Nat) : w.grownBy w1 row := ⟨h.os, h.tape, h.output, h.size, fun i hi _ => h.block i hi⟩
theorem cellBelow {w w1 : World} (h : Below w.heap.size w w1) {a : Addr} {v : Value} (hc : w.cell? a = some v) : w1.cell? a = some v :=
  (h.cell (World.block_lt_of_cell? w a hc)).trans hc

/-! ### Bytes -/
def byt (xs : List UInt8) (j : Nat) : Nat := (xs[j]?.getD 0).toNat
theorem byt_lt (xs : List UInt8) (j : Nat) : byt xs j < 256 := (xs[j]?.getD 0).toNat_lt
theorem byt_eq (xs : List UInt8) (j : Nat) (h : j < xs.length) : byt xs j = (xs[j]).toNat := by simp [byt, h]
def bvals (xs : List UInt8) : List Value := xs.map fun b => .int .u8 (b.toNat : Int)
theorem bvals_length (xs : List UInt8) : (bvals xs).length = xs.length := by simp [bvals]
theorem bvals_append (xs ys : List UInt8) : bvals (xs ++ ys) = bvals xs ++ bvals ys := by simp [bvals]
theorem bvals_get (xs : List UInt8) (j : Nat) (h : j < xs.length) : (bvals xs)[j]? = some (.int .u8 (byt xs j : Int)) := by
  simp [bvals, h, byt_eq]
theorem bvals_one (xs : List UInt8) : ∀ u ∈ bvals xs, u.oneCell' = true := by
  intro u hu
  simp only [bvals, List.mem_map] at hu
  obtain ⟨b, _, rfl⟩ := hu
  rfl

/-- The slice '.slice A n c' reads as xs; its block meets 'ok'. -/
def RdB (w : World) (ok : Nat → Prop) (A : Option Addr) (n : Nat) (xs : List UInt8) : Prop :=
  xs.length = n ∧ n ≤ 9223372036854775807 ∧ (0 < n → ∃ ad, A = some ad ∧ ok ad.block ∧ ad.block < w.heap.size ∧ ad.spot = none ∧ ∀ j, j < n → w.cell? (ad.add j) = some (.int .u8 (byt xs j : Int)))
/-- A row of bytes of the call's own. -/
def OwnB (w : World) (base : Nat) (v : Value) (xs : List UInt8) : Prop := w.ownsRow base 5 1 v xs.length (bvals xs)

section
variable {w w' : World} {ok ok' : Nat → Prop} {A : Option Addr} {n : Nat} {xs ys : List UInt8} {base : Nat} {v : Value}
theorem RdB.len (h : RdB w ok A n xs) : xs.length = n := h.1
theorem RdB.max (h : RdB w ok A n xs) : n ≤ 9223372036854775807 := h.2.1
theorem RdB.keep (h : RdB w ok A n xs) (hs : w.heap.size ≤ w'.heap.size) (hk : ∀ k, ok k → k < w.heap.size → w'.heap[k]? = w.heap[k]?) : RdB w' ok A n xs := by
  refine ⟨h.1, h.2.1, fun hn => ?_⟩
  obtain ⟨ad, e, ho, hl, hs', hc⟩ := h.2.2 hn
  refine ⟨ad, e, ho, by omega, hs', fun j hj => ?_⟩
  rw [← hc j hj]
  exact World.cell?_of_block (by rw [addBlock]; exact hk _ ho hl)
theorem RdB.mono (h : RdB w ok A n xs) (hk : ∀ k, ok k → k < w.heap.size → ok' k) : RdB w ok' A n xs := by
  refine ⟨h.1, h.2.1, fun hn => ?_⟩
  obtain ⟨ad, e, ho, hl, r⟩ := h.2.2 hn
  exact ⟨ad, e, hk _ ho hl, hl, r⟩
theorem RdB.below (h : RdB w ok A n xs) (hb : Below w.heap.size w w') : RdB w' ok A n xs := h.keep hb.size fun k _ hl => hb.block k hl
theorem RdB.grown {row : Option Nat} (h : RdB w ok A n xs) (hg : w.grownBy w' row) (hr : ∀ k, ok k → some k ≠ row) : RdB w' ok A n xs := h.keep hg.size fun k ho hl => hg.block k hl (hr k ho)
theorem RdB.drewN (h : RdB w ok A n xs) (m : Nat) : RdB (w.drewN m) ok A n xs := h
theorem RdB.drew (h : RdB w ok A n xs) : RdB w.drew ok A n xs := h
theorem RdB.alloc (h : RdB w ok A n xs) (o : Obj) : RdB (w.alloc o) ok A n xs := h.below ((Below.refl _ _).alloc (Nat.le_refl _) o)
theorem RdB.set_ (h : RdB w ok A n xs) (p : Addr) (u : Value) (hr : ∀ k, ok k → k ≠ p.block) : RdB (w.setCell p u) ok A n xs :=
  h.keep (by simp [World.setCell]) fun k ho _ => Below.heap_setCell w p u k (hr k ho)
theorem RdB.nil (w : World) (ok : Nat → Prop) (A : Option Addr) : RdB w ok A 0 [] := ⟨rfl, by omega, fun h => absurd h (by omega)⟩
theorem RdB.cells (h : RdB w ok A n xs) : ∀ ad, A = some ad → ∀ j u, (bvals xs)[j]? = some u → w.cell? (ad.add j) = some u := by
  intro ad hA j u hu
  have hj : j < xs.length := by
    rcases Nat.lt_or_ge j xs.length with h1 | h1
    · exact h1
    · rw [List.getElem?_eq_none (by rw [bvals_length]; exact h1)] at hu; cases hu
  obtain ⟨ad', e, _, _, _, hc⟩ := h.2.2 (by have := h.1; omega)
  rw [hA] at e
  injection e with e
  subst e
  rw [bvals_get xs j hj] at hu
  injection hu with hu
  rw [← hu]
  exact hc j (by have := h.1; omega)
/-- A cell of it, under the condition that there is one. -/
theorem RdB.at_ (h : RdB w ok A n xs) (j : Nat) (hj : j < n) : ∃ b o, A = some ⟨b, o, none⟩ ∧ w.cell? ⟨b, o + j, none⟩ = some (.int .u8 (byt xs j : Int)) := by
  obtain ⟨⟨b, o, s⟩, e, _, _, hs, hc⟩ := h.2.2 (by omega)
  simp only at hs
  subst hs
  exact ⟨b, o, e, by rw [← addPlain]; exact hc j hj⟩
theorem RdB.atk (h : RdB w ok A n xs) (j : Nat) (hj : j < n) : ∃ b o, A = some ⟨b, o, none⟩ ∧ ok b ∧ w.cell? ⟨b, o + j, none⟩ = some (.int .u8 (byt xs j : Int)) := by
  obtain ⟨⟨b, o, s⟩, e, ho, _, hs, hc⟩ := h.2.2 (by omega)
  simp only at hs
  subst hs
  exact ⟨b, o, e, ho, by rw [← addPlain]; exact hc j hj⟩
theorem RdB.cut (h : RdB w ok A n xs) {c lo hi : Nat} (h1 : lo ≤ hi) (h2 : hi ≤ n) (h3 : n ≤ c) :
    RdB w ok (if c = lo then A else A.map fun a => a.add (lo * 1)) (hi - lo) ((xs.take hi).drop lo) := by
  refine ⟨by rw [List.length_drop, List.length_take, h.1]; omega, by have := h.2.1; omega, fun hn => ?_⟩
  obtain ⟨ad, rfl, ho, hl, hs, hc⟩ := h.2.2 (by omega)
  rw [if_neg (by omega)]
  refine ⟨ad.add (lo * 1), rfl, by rw [addBlock]; exact ho, by rw [addBlock]; exact hl, by unfold Addr.add; split <;> simp_all, fun j hj => ?_⟩
  rw [addAdd, Nat.mul_one, hc (lo + j) (by omega)]
  have e : byt ((xs.take hi).drop lo) j = byt xs (lo + j) := by
    unfold byt
    rw [List.getElem?_drop, List.getElem?_take, if_pos (by omega)]
  rw [e]

theorem OwnB.nil (w : World) (base : Nat) : OwnB w base (.slice none 0 0) [] := World.ownsRow_nil w base _ 1
theorem OwnB.drew (h : OwnB w base v xs) : OwnB w.drew base v xs := h
theorem OwnB.drewN (h : OwnB w base v xs) (m : Nat) : OwnB (w.drewN m) base v xs := h
theorem OwnB.grown {row : Option Nat} (h : OwnB w base v xs) (hg : w.grownBy w' row) (hr : ∀ k, v.ownBlock = some k → some k ≠ row) : OwnB w' base v xs := by
  refine World.ownsRow.kept h hg ?_
  cases e : v.ownBlock with
  | none => exact .inl rfl
  | some k => exact .inr (fun he => hr k e he)
theorem OwnB.below (h : OwnB w base v xs) (hb : Below w.heap.size w w') : OwnB w' base v xs := h.grown (grownOfBelow hb none) (by simp)
theorem OwnB.lt (h : OwnB w base v xs) : ∀ k, v.ownBlock = some k → base ≤ k ∧ k < w.heap.size := World.ownsRow.lt h
theorem OwnB.lower (h : OwnB w base v xs) {b : Nat} (hb : b ≤ base) : OwnB w b v xs := by
  refine ⟨h.1, ?_⟩
  rcases h.2 with h2 | ⟨g, cap, cur, h1, h2, r⟩
  · exact .inl h2
  · exact .inr ⟨g, cap, cur, h1, by omega, r⟩
/-- What is owned is read. -/
theorem OwnB.rd (h : OwnB w base v xs) : ∃ A c, v = .slice A xs.length c ∧ xs.length ≤ c ∧ (0 < xs.length → 0 < c) ∧ RdB w (fun k => base ≤ k ∧ v.ownBlock = some k) A xs.length xs := by
  rcases h.2 with ⟨rfl, h0⟩ | ⟨g, cap, cur, rfl, hb, hg, hn, hm, hc, ht⟩
  · refine ⟨none, 0, by rw [h0], by omega, by omega, rfl, by omega, fun h => absurd h (by omega)⟩
  · refine ⟨_, cap, rfl, hn, by omega, rfl, by simp only [maxLen] at hm; omega, fun h0 => ⟨⟨g, 0, none⟩, rfl, ⟨hb, rfl⟩, (Array.getElem?_eq_some_iff.1 hg).1, rfl, fun j hj => ?_⟩⟩
    exact World.ownsRow.cells h (g := g) rfl j _ (bvals_get xs j hj)
theorem OwnB.form (h : OwnB w base v xs) (h0 : 0 < xs.length) : ∃ g cap, v = .slice (some ⟨g, 0, none⟩) xs.length cap ∧ base ≤ g ∧ g < w.heap.size ∧ xs.length ≤ cap ∧
    (∀ j, j < xs.length → w.cell? ⟨g, j, none⟩ = some (.int .u8 (byt xs j : Int))) ∧ ∀ j, w.frozen? ⟨g, j, none⟩ = false := by
  rcases h.2 with ⟨_, h1⟩ | ⟨g, cap, cur, rfl, hb, hg, hn, hm, hc, ht⟩
  · omega
  · refine ⟨g, cap, rfl, hb, (Array.getElem?_eq_some_iff.1 hg).1, hn, fun j hj => ?_, fun j => by simp [World.frozen?, hg]⟩
    have := World.ownsRow.cells h (g := g) rfl j _ (bvals_get xs j hj)
    rwa [addPlain, Nat.zero_add] at this
theorem OwnB.store {g cap : Nat} (h : OwnB w base (.slice (some ⟨g, 0, none⟩) xs.length cap) xs) (j : Nat) (u : UInt8) :
    OwnB (w.setCell ⟨g, j, none⟩ (.int .u8 (u.toNat : Int))) base (.slice (some ⟨g, 0, none⟩) xs.length cap) (xs.set j u) ∧ w.grownBy (w.setCell ⟨g, j, none⟩ (.int .u8 (u.toNat : Int))) (some g) := by
  have hs := World.ownsRow.stored h j (.int .u8 (u.toNat : Int))
  have he : (bvals xs).set j (.int .u8 (u.toNat : Int)) = bvals (xs.set j u) := by simp [bvals, List.map_set]
  rw [he] at hs
  exact ⟨by unfold OwnB; rw [List.length_set]; exact hs.1, hs.2⟩
theorem OwnB.lit (w : World) (base : Nat) (xs : List UInt8) (hb : base ≤ w.heap.size) (hm : xs.length ≤ 9223372036854775807) :
    OwnB (w.alloc (.cells (bvals xs).toArray 5)) base (.slice (some ⟨w.heap.size, 0, none⟩) xs.length xs.length) xs := by
  have h := World.ownsRow_lit (base := base) (e := 5) (size := 1) w (bvals xs).toArray xs.length hb (by simpa [maxLen] using hm) (by simp [bvals])
  unfold OwnB
  simpa using h
end

theorem cellSet {w : World} {p q : Addr} {v u : Value} (h : w.cell? q = some v) (hne : q.block ≠ p.block) : (w.setCell p u).cell? q = some v :=
  (World.cell?_of_block (w := w) (Below.heap_setCell w p u q.block hne)).trans h
/-! ### Strings -/
def strOf (xs : List UInt8) : ByteArray := ⟨xs.toArray⟩
theorem toList_loop (s : ByteArray) : ∀ (d i : Nat) (r : List UInt8), s.size - i = d → ByteArray.toList.loop s i r = r.reverse ++ s.data.toList.drop i := by
  intro d
  induction d with
  | zero =>
    intro i r h
    rw [ByteArray.toList.loop, if_neg (by omega)]
    have : s.data.toList.length ≤ i := by rw [Array.length_toList]; show s.size ≤ i; omega
    rw [List.drop_eq_nil_of_le this, List.append_nil]
  | succ d ih =>
    intro i r h
    have hi : i < s.data.toList.length := by rw [Array.length_toList]; show i < s.size; omega
    rw [ByteArray.toList.loop, if_pos (by omega), ih (i + 1) _ (by omega), List.drop_eq_getElem_cons hi]
    have hg : s.get! i = s.data.toList[i] := by
      show s.data[i]! = _
      have : i < s.data.size := by simpa using hi
      rw [getElem!_pos s.data i this, Array.getElem_toList]
    rw [hg]
    simp
theorem toList_data (s : ByteArray) : s.toList = s.data.toList := by
  rw [ByteArray.toList, toList_loop s _ 0 [] rfl]
  simp
theorem strOf_toList (xs : List UInt8) : (strOf xs).toList = xs := by rw [toList_data]; rfl
theorem strOf_beq (xs ys : List UInt8) : ((strOf xs).toList == (strOf ys).toList) = decide (xs = ys) := by
  rw [strOf_toList, strOf_toList]
  by_cases h : xs = ys
  · simp [h]
  · rw [decide_eq_false h]; exact beq_eq_false_iff_ne.2 h
theorem strOf_inj {xs ys : List UInt8} : strOf xs = strOf ys ↔ xs = ys := by
  constructor
  · intro h
    have := congrArg (fun s => s.data.toList) h
    simpa [strOf] using this
  · intro h; rw [h]

theorem info_u8 : (Try.prog.info? 5).map (fun i => (i.zero, i.size, i.bytes)) = some (some (.int .u8 0), 1, 1) := by kernel_rfl

section
variable {w : World} {ok : Nat → Prop} {A : Option Addr} {n : Nat} {xs : List UInt8}
/-- string(b). -/
theorem conv_string (h : RdB w ok A n xs) (c : Nat) : (convert 28 9 (.slice A n c)).run Try.prog w = .ok (.string (strOf xs)) w := by
  obtain ⟨hl, hm, hc⟩ := h
  rcases Nat.eq_zero_or_pos n with h0 | h0
  · subst h0
    obtain rfl : xs = [] := List.eq_nil_of_length_eq_zero hl
    rcases A with _ | ad
    · exact run_convert_bytes_nil w _ _ Try.underlying28 Try.underlying5 0 c _ Try.underlying9
    · have h1 : (loadCells ad 0).run Try.prog w = .ok #[] w := by rfl
      rw [run_convert_bytes_string w _ 9 _ _ 0 c Try.underlying28 Try.underlying5 Try.underlying9]
      have h2 := run_bytesToString (P := Try.prog) w ad 0 c [] (by simpa using h1)
      rw [h2]
      rfl
  · obtain ⟨ad, rfl, _, _, hs, hcc⟩ := hc h0
    obtain ⟨b, o, s⟩ := ad
    simp only at hs
    subst hs
    have hx := run_convert_bytes_arg (P := Try.prog) w _ _ Try.underlying28 Try.underlying5 b o n c (xs.map fun b => (b.toNat : Int)) (by simpa using hl) (fun i hi => by
      have := hcc i hi
      rw [addPlain] at this
      rw [this, byt_eq xs i (by omega)]
      simp [List.getD_eq_getElem?_getD, show i < xs.length by omega]) _ Try.underlying9
    rw [hx]
    congr 2
    unfold strOfNums strOf
    congr 2
    simp [List.map_map, Function.comp_def]
end

/-! ### append(own, read...) -/
section
variable {P : Program} {ops : Array Oper} {rest : List Oper} {o : Oper} {a : Act} {Q : Exit → Act → World → Prop}
theorem run_appB {W : World} (base : Nat) (ty : TypeId) (v : Value) (xs ys : List UInt8) (A : Option Addr) (m c : Nat) {ok : Nat → Prop}
    (HO : OwnB W base v xs) (HR : RdB W ok A m ys) (hbase : base ≤ W.heap.size) (hl : xs.length + m ≤ 140737488355328) :
    ∃ v1 w1, (Builtin.append_ #[28, 28] ty #[v, .slice A m c]).run Try.prog W = .ok v1 w1 ∧ OwnB w1 base v1 (xs ++ ys) ∧ W.grownBy w1 v.ownBlock ∧
      (v1.ownBlock = v.ownBlock ∨ v1.ownBlock = some W.heap.size) := by
  obtain ⟨i0, hi, hzz⟩ := Option.map_eq_some_iff.1 info_u8
  simp only [Prod.mk.injEq] at hzz
  obtain ⟨hz0, hz1, hz2⟩ := hzz
  have hm : ys.length = m := HR.1
  rcases A with _ | ad
  · have h0 : m = 0 := by
      rcases Nat.eq_zero_or_pos m with h0 | h0
      · exact h0
      · obtain ⟨ad, h, _⟩ := HR.2.2 h0
        cases h
    subst h0
    obtain rfl : ys = [] := List.eq_nil_of_length_eq_zero hm
    refine ⟨v, W, ?_, by simpa using HO, World.grownBy.refl W _, .inl rfl⟩
    rcases HO.2 with ⟨rfl, hn⟩ | ⟨g, cap, cur, rfl, _, _, hnc, _⟩
    · simp [Builtin.append_, run_underlying Try.underlying28, sizeOf, typeInfo, hi, Builtin.lenOf, Builtin.firstCells]
    · simp [Builtin.append_, run_underlying Try.underlying28, sizeOf, typeInfo, hi, Builtin.lenOf, Builtin.firstCells, hnc, storeCells]
  · obtain ⟨v1, w1, hr, h2, h3, _, h5⟩ := run_append_own_at (P := Try.prog) W base 28 ty 5 i0 (.int .u8 0) 1 1 Try.underlying28 hi hz0 hz1 hz2 rfl (by omega) v xs.length (bvals xs) HO ad m c (bvals ys) (by rw [bvals_length]; omega)
      (HR.cells ad rfl) (bvals_one ys) (by simp only [maxLen]; omega) (by omega) hbase
    exact ⟨v1, w1, hr, by unfold OwnB; rw [List.length_append, hm, bvals_append]; exact h2, h3, h5⟩
theorem wpList_wanted {w : World} (hw : Region.wanted o (yielded ops a.tmps) = true)
    (h : ∀ K : Act → World → Prop, (∀ a w, wpList P ops Q rest a w → K a w) → o.wp P a w K Q) : wpList P ops Q (o :: rest) a w := by
  unfold wpList
  rw [if_pos hw]
  exact .inl (h _ fun _ _ h => h)
theorem appB {w0 W : World} (B base : Nat) (hgd : Region.wanted o (yielded ops a.tmps) = true) (s x : Operand)
    (ho : o.op = .call { callee := .builtin .append, args := #[s, x], argTypes := #[28, 28] })
    (v : Value) (xs ys : List UInt8) (A : Option Addr) (m c : Nat) {ok : Nat → Prop} (hs : a.eval s = v) (hx : a.eval x = .slice A m c)
    (HO : OwnB W base v xs) (HR : RdB W ok A m ys) (HB : Below B w0 W) (hbase : base ≤ W.heap.size) (hBb : B ≤ base) (hl : xs.length + m ≤ 140737488355328)
    (h : ∀ v1 w1, OwnB w1 base v1 (xs ++ ys) → Below B w0 w1 → W.grownBy w1 v.ownBlock → (v1.ownBlock = v.ownBlock ∨ v1.ownBlock = some W.heap.size) → wpList Try.prog ops Q rest (a.put o.dst v1) w1) :
    wpList Try.prog ops Q (o :: rest) a W := by
  obtain ⟨v1, w1, hr, h2, h3, h5⟩ := run_appB base o.type v xs ys A m c HO HR hbase hl
  refine wpList_wanted hgd fun K hK => ?_
  unfold Oper.wp execOp
  simp only [ho, resolve, invoke, builtin, Sem.run_bind, Sem.run_pure, Result.andThen_ok, List.map_toArray, List.map_cons, List.map_nil, hs, hx, hr]
  exact hK _ _ (h v1 w1 h2 (HB.grown h3 (by omega) (fun k hk => by have := HO.lt k hk; omega)) h3 h5)
/-- The same at a step of a region that draws ('go_region_law'). -/
theorem stepAppB {w0 W : World} {K : Act → World → Prop} {E : Prop} (B base : Nat) (hgd : o.guard = none) (s x : Operand)
    (ho : o.op = .call { callee := .builtin .append, args := #[s, x], argTypes := #[28, 28] })
    (v : Value) (xs ys : List UInt8) (A : Option Addr) (m c : Nat) {ok : Nat → Prop} (hs : a.eval s = v) (hx : a.eval x = .slice A m c)
    (HO : OwnB W base v xs) (HR : RdB W ok A m ys) (HB : Below B w0 W) (hbase : base ≤ W.heap.size) (hBb : B ≤ base) (hl : xs.length + m ≤ 140737488355328)
    (h : ∀ v1 w1, OwnB w1 base v1 (xs ++ ys) → Below B w0 w1 → W.grownBy w1 v.ownBlock → (v1.ownBlock = v.ownBlock ∨ v1.ownBlock = some W.heap.size) → K (a.put o.dst v1) w1) :
    if Region.wanted o (yielded ops a.tmps) = true then Oper.wp Try.prog o a W K Q else E := by
  have hw : Region.wanted o (yielded ops a.tmps) = true := by simp [Region.wanted, hgd]
  rw [if_pos hw]
  obtain ⟨v1, w1, hr, h2, h3, h5⟩ := run_appB base o.type v xs ys A m c HO HR hbase hl
  unfold Oper.wp execOp
  simp only [ho, resolve, invoke, builtin, Sem.run_bind, Sem.run_pure, Result.andThen_ok, List.map_toArray, List.map_cons, List.map_nil, hs, hx, hr]
  exact h v1 w1 h2 (HB.grown h3 (by omega) (fun k hk => by have := HO.lt k hk; omega)) h3 h5
end
/-- s[lo:hi] of a slice of bytes. -/
theorem cut_run (A : Option Addr) (n c lo hi : Nat) (h1 : lo ≤ hi) (h2 : hi ≤ n) (h3 : n ≤ c) :
    ∃ A' : Option Addr, (∀ (kl kh : IntKind) (W : World), (Instr.slice 28 (.slice A n c) (some (.int kl (lo : Int))) (some (.int kh (hi : Int))) none).run Try.prog W = .ok (.slice A' (hi - lo) (c - lo)) W) ∧
      ∀ (w : World) (ok : Nat → Prop) (xs : List UInt8), RdB w ok A n xs → RdB w ok A' (hi - lo) ((xs.take hi).drop lo) := by
  refine ⟨_, fun kl kh W => ?_, fun w ok xs h => h.cut h1 h2 h3⟩
  rw [run_slice_lh W _ A n c (by kernel_rfl) kl kh lo hi (by omega) (by omega) (by omega)]
  have hsz : (sizeOf (Try.prog.elem 28)).run Try.prog W = .ok 1 W := by rfl
  rw [hsz]
  rfl
theorem cutFrom_run (A : Option Addr) (n c lo : Nat) (h1 : lo ≤ n) (h3 : n ≤ c) :
    ∃ A' : Option Addr, (∀ (kl : IntKind) (W : World), (Instr.slice 28 (.slice A n c) (some (.int kl (lo : Int))) none none).run Try.prog W = .ok (.slice A' (n - lo) (c - lo)) W) ∧
      ∀ (w : World) (ok : Nat → Prop) (xs : List UInt8), RdB w ok A n xs → RdB w ok A' (n - lo) (xs.drop lo) := by
  refine ⟨if c = lo then A else A.map fun a => a.add (lo * 1), fun kl W => ?_, fun w ok xs h => ?_⟩
  · rw [run_slice_l W _ A n c (by kernel_rfl) kl lo (by omega) (by omega)]
    have hsz : (sizeOf (Try.prog.elem 28)).run Try.prog W = .ok 1 W := by rfl
    rw [hsz]
    rfl
  · have := h.cut h1 (Nat.le_refl _) h3
    rwa [List.take_of_length_le (by rw [h.len]; exact Nat.le_refl _)] at this
theorem cutTo_run (A : Option Addr) (n c hi : Nat) (h2 : hi ≤ n) (h3 : n ≤ c) :
    ∃ A' : Option Addr, (∀ (kh : IntKind) (W : World), (Instr.slice 28 (.slice A n c) none (some (.int kh (hi : Int))) none).run Try.prog W = .ok (.slice A' hi c) W) ∧
      ∀ (w : World) (ok : Nat → Prop) (xs : List UInt8), RdB w ok A n xs → RdB w ok A' hi (xs.take hi) := by
  refine ⟨if c = 0 then A else A.map fun a => a.add (0 * 1), fun kh W => ?_, fun w ok xs h => ?_⟩
  · rw [run_slice_h W _ A n c (by kernel_rfl) kh hi (by omega) (by omega)]
    have hsz : (sizeOf (Try.prog.elem 28)).run Try.prog W = .ok 1 W := by rfl
    rw [hsz]
    rfl
  · exact h.cut (Nat.zero_le _) h2 h3
theorem quietL {P : Program} {f : FuncId} {args : Array Value} {w : World} {n : Nat} {v : Value}
    (h : Calls P f args (w.drewN n) fun e w' => e = .returned v ∧ w.drewN n = w') : Calls P f args (w.drewN n) fun e w'' => e = .returned v ∧ ∃ m, w'' = w.drewN m :=
  h.mono fun _ _ ⟨he, hm⟩ => ⟨he, n, hm.symm⟩
theorem quietD {P : Program} {f : FuncId} {args : Array Value} {w : World} {n : Nat} {v : Value}
    (h : Calls P f args (w.drewN n) fun e w' => e = .returned v ∧ ∃ m, w' = (w.drewN n).drewN m) : Calls P f args (w.drewN n) fun e w'' => e = .returned v ∧ ∃ m, w'' = w.drewN m :=
  Calls.quiet_of h
theorem conv_const (w : World) (C : Array Value) (n c : Nat) : (convert 28 28 (.slice (some ⟨w.heap.size, 0, none⟩) n c)).run Try.prog (w.alloc (.cells C 5)) = .ok (.slice (some ⟨w.heap.size, 0, none⟩) n c) (w.alloc (.cells C 5 (C.size, C.size + 1))) :=
  Lib.run_convert_bytes_const (P := Try.prog) w 28 5 C n c Try.underlying28 Try.underlying5
/-- A new row of bytes is read. -/
theorem rdLitN (w : World) (s : Nat) (hs : w.heap.size = s) (cs : Array Value) (fr : Nat × Nat) (n : Nat) (xs : List UInt8) (hc : (bvals xs).toArray = cs) (hn : xs.length = n) (hm : n ≤ 9223372036854775807) :
    RdB (w.alloc (.cells cs 5 fr)) (fun k => k = s) (some ⟨s, 0, none⟩) n xs := by
  subst hc
  subst hn
  subst hs
  refine ⟨rfl, hm, fun _ => ⟨_, rfl, rfl, by simp, rfl, fun j hj => ?_⟩⟩
  rw [addPlain, cell_of_row _ w.heap.size (0 + j) _ 5 fr (heap_alloc_new w _), Nat.zero_add]
  have := bvals_get xs j hj
  simpa using this
theorem min3_run (a b c m : Nat) (hm : m = min (min a b) c) : ∀ W : World, (Builtin.min_ #[3, 3, 3] 3 #[.int .i64 (a : Int), .int .i64 (b : Int), .int .i64 (c : Int)]).run Try.prog W = .ok (.int .i64 (m : Int)) W := by
  intro W
  have h1 : (if (b : Int) < (a : Int) then (b : Int) else a) = ((min a b : Nat) : Int) := by split <;> omega
  have h2 : (if (c : Int) < ((min a b : Nat) : Int) then (c : Int) else ((min a b : Nat) : Int)) = (m : Int) := by split <;> omega
  simp only [Builtin.min_, List.foldlM_cons, List.foldlM_nil, Sem.run_bind, Builtin.min2, Sem.run_pure, Result.andThen_ok, h1, h2]
theorem min2_run (a b m : Nat) (hm : m = min a b) : ∀ W : World, (Builtin.min_ #[3, 3] 3 #[.int .i64 (a : Int), .int .i64 (b : Int)]).run Try.prog W = .ok (.int .i64 (m : Int)) W := by
  intro W
  have h1 : (if (b : Int) < (a : Int) then (b : Int) else a) = (m : Int) := by split <;> omega
  simp only [Builtin.min_, List.foldlM_cons, List.foldlM_nil, Sem.run_bind, Builtin.min2, Sem.run_pure, Result.andThen_ok, h1]
/-- make([]byte, m). -/
theorem makeB_run (m : Nat) (hm : m ≤ 281474976710656) : ∀ W : World, (Instr.makeSlice 28 (.int .i64 (m : Int)) (.int .i64 (m : Int))).run Try.prog W = .ok (.slice (some ⟨W.heap.size, 0, none⟩) m m) (W.alloc (.cells (madeCells #[.int .u8 0] m) 5)) :=
  fun W => run_make_row' 28 5 (.int .u8 0) 1 Try.underlying28 info_u8 rfl .i64 .i64 m (by omega) (by omega) W
theorem makeB_runK (k : IntKind) (m : Nat) (hm : m ≤ 281474976710656) : ∀ W : World, (Instr.makeSlice 28 (.int k (m : Int)) (.int k (m : Int))).run Try.prog W = .ok (.slice (some ⟨W.heap.size, 0, none⟩) m m) (W.alloc (.cells (madeCells #[.int .u8 0] m) 5)) :=
  fun W => run_make_row' 28 5 (.int .u8 0) 1 Try.underlying28 info_u8 rfl k k m (by omega) (by omega) W
theorem makeB_own (w : World) (base m : Nat) (hb : base ≤ w.heap.size) (hm : m ≤ 9223372036854775807) : OwnB (w.alloc (.cells (madeCells #[.int .u8 0] m) 5)) base (.slice (some ⟨w.heap.size, 0, none⟩) m m) (List.replicate m 0) := by
  have h := OwnB.lit w base (List.replicate m (0 : UInt8)) hb (by simpa using hm)
  have e : (bvals (List.replicate m (0 : UInt8))).toArray = madeCells #[.int .u8 0] m := by
    apply Array.ext
    · simp [bvals, madeCells]
    · intro i h1 h2
      simp [bvals, madeCells, Nat.mod_one]
  rw [e] at h
  simpa using h
/-- A contract that leaves the world as it was, told by 'Below'. -/
theorem weakB {P : Program} {f : FuncId} {args : Array Value} {w : World} {v : Value} (h : Calls P f args w fun e w' => e = .returned v ∧ w = w') : Calls P f args w fun e w' => e = .returned v ∧ Below w.heap.size w w' :=
  h.mono fun _ _ ⟨he, hw⟩ => ⟨he, by subst hw; exact Below.refl _ _⟩
theorem weakD {P : Program} {f : FuncId} {args : Array Value} {w : World} {v : Value} (h : Calls P f args w fun e w' => e = .returned v ∧ ∃ k, w' = w.drewN k) : Calls P f args w fun e w' => e = .returned v ∧ Below w.heap.size w w' :=
  h.mono fun _ _ ⟨he, k, hw⟩ => ⟨he, by subst hw; exact belowDrewN (Below.refl _ _) _⟩
/-- What a call leaves that hands back a new row of bytes. -/
def RetB (w : World) (xs : List UInt8) (e : Ending) (w' : World) : Prop := ∃ v, e = .returned v ∧ OwnB w' w.heap.size v xs ∧ Below w.heap.size w w'
end Go.Proofs.Ytmkmbnfmmibifaa
