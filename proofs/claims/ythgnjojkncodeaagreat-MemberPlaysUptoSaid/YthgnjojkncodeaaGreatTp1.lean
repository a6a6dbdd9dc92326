/-
  Rows of ints: read, or of a call's own; the library's Sort, Compact, Delete, Contains on them.
-/
import Derived.Test.YthgnjojkncodeaaGreatNSt3
import Derived.Test.YthgnjojkncodeaaGreatShelf
import Derived.Lib.OwnBridge
import Derived.Sort.Grow
namespace Go.Proofs.YthgnjojkncodeaaGreat
open Go.RowKit

def ivals (zs : List Int) : List Value := zs.map fun z => .int .i64 z
theorem ivals_length (zs : List Int) : (ivals zs).length = zs.length := by simp [ivals]
theorem ivals_append (xs ys : List Int) : ivals (xs ++ ys) = ivals xs ++ ivals ys := by simp [ivals]
theorem ivals_get (zs : List Int) (j : Nat) (h : j < zs.length) : (ivals zs)[j]? = some (.int .i64 (zs[j]?.getD 0)) := by simp [ivals, h]
theorem ivals_one (zs : List Int) : ∀ u ∈ ivals zs, u.oneCell' = true := by
  intro u hu
  obtain ⟨b, _, rfl⟩ := List.mem_map.1 hu
  rfl
/-- A row of ints that is read. -/
def RdI (w : World) (ok : Nat → Prop) (A : Option Addr) (n : Nat) (zs : List Int) : Prop :=
  zs.length = n ∧ n ≤ 9223372036854775807 ∧ (0 < n → ∃ b o, A = some ⟨b, o, none⟩ ∧ ok b ∧ b < w.heap.size ∧ ∀ j, j < n → w.cell? ⟨b, o + j, none⟩ = some (.int .i64 (zs[j]?.getD 0)))
/-- A row of ints of a call's own. -/
def OwnI (w : World) (base : Nat) (v : Value) (zs : List Int) : Prop := w.ownsRow base 3 1 v zs.length (ivals zs)
section
variable {w w' : World} {ok ok' : Nat → Prop} {A : Option Addr} {n base : Nat} {zs : List Int} {v : Value}
theorem RdI.len (h : RdI w ok A n zs) : zs.length = n := h.1
theorem RdI.keep (h : RdI w ok A n zs) (hs : w.heap.size ≤ w'.heap.size) (hk : ∀ k, ok k → k < w.heap.size → w'.heap[k]? = w.heap[k]?) : RdI w' ok A n zs := by
  refine ⟨h.1, h.2.1, fun h0 => ?_⟩
  obtain ⟨b, o, e, h1, h2, h3⟩ := h.2.2 h0
  refine ⟨b, o, e, h1, by omega, fun j hj => ?_⟩
  have := h3 j hj
  unfold World.cell? at this ⊢
  rw [hk b h1 h2]
  exact this
theorem RdI.mono (h : RdI w ok A n zs) (hk : ∀ k, ok k → k < w.heap.size → ok' k) : RdI w ok' A n zs := by
  refine ⟨h.1, h.2.1, fun h0 => ?_⟩
  obtain ⟨b, o, e, h1, h2, h3⟩ := h.2.2 h0
  exact ⟨b, o, e, hk b h1 h2, h2, h3⟩
theorem RdI.below (h : RdI w ok A n zs) (hb : Below w.heap.size w w') : RdI w' ok A n zs := h.keep hb.size fun k _ hl => hb.block k hl
theorem RdI.nil (w : World) (ok : Nat → Prop) (A : Option Addr) : RdI w ok A 0 [] := ⟨rfl, by omega, fun h => absurd h (by omega)⟩
theorem RdI.at_ (h : RdI w ok A n zs) (j : Nat) (hj : j < n) : ∃ b o, A = some ⟨b, o, none⟩ ∧ b < w.heap.size ∧ w.cell? ⟨b, o + j, none⟩ = some (.int .i64 (zs[j]?.getD 0)) := by
  obtain ⟨b, o, e, h1, h2, h3⟩ := h.2.2 (by omega)
  exact ⟨b, o, e, h2, h3 j hj⟩
theorem RdI.cells (h : RdI w ok A n zs) : ∀ ad, A = some ad → ∀ j u, (ivals zs)[j]? = some u → w.cell? (ad.add j) = some u := by
  intro ad e j u hu
  have hj : j < zs.length := by rw [← ivals_length]; exact (List.getElem?_eq_some_iff.1 hu).1
  rw [ivals_get zs j hj] at hu
  injection hu with hu
  subst hu
  have hl := h.1
  obtain ⟨b, o, e', _, _, hc⟩ := h.2.2 (by omega)
  rw [e] at e'
  injection e' with e'
  subst e'
  rw [addPlain]
  exact hc j (by omega)
theorem OwnI.nil (w : World) (base : Nat) : OwnI w base (.slice none 0 0) [] := World.ownsRow_nil w base _ 1
theorem OwnI.grown {row : Option Nat} (h : OwnI w base v zs) (hg : w.grownBy w' row) (hr : ∀ k, v.ownBlock = some k → some k ≠ row) : OwnI w' base v zs := by
  refine World.ownsRow.kept h hg ?_
  cases e : v.ownBlock with
  | none => exact .inl rfl
  | some k => exact .inr (fun he => hr k e he)
theorem OwnI.below (h : OwnI w base v zs) (hb : Below w.heap.size w w') : OwnI w' base v zs := h.grown (grownOfBelow hb none) (by simp)
theorem OwnI.lt (h : OwnI w base v zs) : ∀ k, v.ownBlock = some k → base ≤ k ∧ k < w.heap.size := World.ownsRow.lt h
theorem OwnI.lower (h : OwnI w base v zs) {b : Nat} (hb : b ≤ base) : OwnI w b v zs := by
  refine ⟨h.1, ?_⟩
  rcases h.2 with h2 | ⟨g, cap, cur, e, h1, r⟩
  · exact .inl h2
  · exact .inr ⟨g, cap, cur, e, by omega, r⟩
theorem OwnI.rd (h : OwnI w base v zs) : ∃ A c, v = .slice A zs.length c ∧ zs.length ≤ c ∧ c ≤ 9223372036854775807 ∧ (A = none → zs.length = 0) ∧ RdI w (fun k => base ≤ k ∧ v.ownBlock = some k) A zs.length zs := by
  rcases h.2 with ⟨rfl, h0⟩ | ⟨g, cap, cur, rfl, hb, hg, hn, hm, hc, ht⟩
  · exact ⟨none, 0, by rw [h0], by omega, by omega, (fun _ => h0), rfl, by omega, fun h => absurd h (by omega)⟩
  · refine ⟨_, cap, rfl, hn, hm, (fun e => by cases e), rfl, by simp only [maxLen] at hm; omega, fun h0 => ⟨g, 0, rfl, ⟨hb, rfl⟩, (Array.getElem?_eq_some_iff.1 hg).1, fun j hj => ?_⟩⟩
    have := World.ownsRow.cells h (g := g) rfl j _ (ivals_get zs j hj)
    rwa [addPlain] at this
end
theorem info_int : (Tryz.prog.info? 3).map (fun i => (i.zero, i.size, i.bytes)) = some (some (.int .i64 0), 1, 8) := by kernel_rfl
section
variable {P : Program} {ops : Array Oper} {rest : List Oper} {o : Oper} {a : Act} {Q : Exit → Act → World → Prop}
theorem run_appI {W : World} (base : Nat) (ty : TypeId) (v : Value) (zs : List Int) (z : Int)
    (HO : OwnI W base v zs) (hbase : base ≤ W.heap.size) (hl : zs.length ≤ 1099511627776) :
    ∃ v1 w1, (Builtin.append_ #[54, 54] ty #[v, .slice (some ⟨W.heap.size, 0, none⟩) 1 1]).run Tryz.prog (W.alloc (.cells #[.int .i64 z] 3)) = .ok v1 w1 ∧ OwnI w1 base v1 (zs ++ [z]) ∧
      (W.alloc (.cells #[.int .i64 z] 3)).grownBy w1 v.ownBlock := by
  obtain ⟨i0, hi, hzz⟩ := Option.map_eq_some_iff.1 info_int
  simp only [Prod.mk.injEq] at hzz
  obtain ⟨hz0, hz1, hz2⟩ := hzz
  have hz : base ≤ (W.alloc (.cells #[.int .i64 z] 3)).heap.size := by simp; omega
  have h2a : (W.alloc (.cells #[.int .i64 z] 3)).ownsRow base 3 1 v zs.length (ivals zs) := World.ownsRow.alloc HO _
  obtain ⟨v1, w1, hr, k2, k3, _, _⟩ := run_append_own_at (P := Tryz.prog) (W.alloc (.cells #[.int .i64 z] 3)) base 54 ty 3 i0 (.int .i64 0) 1 8 Tryz.underlying54 hi hz0 hz1 hz2 rfl (by omega) v zs.length (ivals zs) h2a ⟨W.heap.size, 0, none⟩ 1 1 [.int .i64 z] rfl
    (cell_one_new _ _ _) (by simp [Value.oneCell']) (by simp only [maxLen]; omega) (by omega) hz
  exact ⟨v1, w1, hr, by unfold OwnI; rw [List.length_append, ivals_append]; exact k2, k3⟩
theorem appI {w0 W : World} (B base : Nat) (hgd : Region.wanted o (yielded ops a.tmps) = true) (s x : Operand)
    (ho : o.op = .call { callee := .builtin .append, args := #[s, x], argTypes := #[54, 54] })
    (v : Value) (zs : List Int) (z : Int) (hs : a.eval s = v) (hx : a.eval x = .slice (some ⟨W.heap.size, 0, none⟩) 1 1)
    (HO : OwnI W base v zs) (HB : Below B w0 W) (hbase : base ≤ W.heap.size) (hBb : B ≤ base) (hl : zs.length ≤ 1099511627776)
    (h : ∀ v1 w1, OwnI w1 base v1 (zs ++ [z]) → Below B w0 w1 → wpList Tryz.prog ops Q rest (a.put o.dst v1) w1) :
    wpList Tryz.prog ops Q (o :: rest) a (W.alloc (.cells #[.int .i64 z] 3)) := by
  obtain ⟨v1, w1, hr, h2, h3⟩ := run_appI base o.type v zs z HO hbase hl
  have hlt := HO.lt
  refine wpList_wanted hgd fun K hK => ?_
  unfold Oper.wp execOp
  simp only [ho, resolve, invoke, builtin, Sem.run_bind, Sem.run_pure, Result.andThen_ok, List.map_toArray, List.map_cons, List.map_nil, hs, hx, hr]
  exact hK _ _ (h v1 w1 h2 ((HB.alloc (by omega) _).grown h3 (by simp; omega) (fun k hk => by have := hlt k hk; omega)))
end
/-! ### The library on rows of one's own -/
def leI : Int → Int → Bool := fun x y => decide (x ≤ y)
def sortI (zs : List Int) : List Int := zs.mergeSort leI
theorem sortI_length (zs : List Int) : (sortI zs).length = zs.length := List.length_mergeSort zs
section
variable {w0 w : World} {base B : Nat} {v : Value} {zs : List Int}
theorem OwnI.holds (h : OwnI w base v zs) (h0 : 0 < zs.length) : ∃ g cap, v = .slice (some ⟨g, 0, none⟩) zs.length cap ∧ base ≤ g ∧ g < w.heap.size ∧ zs.length ≤ cap ∧ cap ≤ 9223372036854775807 ∧ Sort.Holds (Value.int .i64) w g 0 zs.toArray := by
  obtain ⟨g, cap, e, h1, h2, h3, h4, _, h5⟩ := Lib.holds_of_ownsRow (enc := Value.int .i64) h (fun e => by
    subst e
    rcases h.2 with ⟨_, h⟩ | ⟨g, cap, cur, e, _⟩
    · omega
    · cases e)
  exact ⟨g, cap, e, h1, h2, h3, h4, h5⟩
theorem grow_below {B : Nat} {w0 w : World} (h : Below B w0 w) (hB : B ≤ w.heap.size) (os : Array Obj) : Below B w0 (Sort.grow w os) :=
  ⟨h.os, h.tape, h.output, by have := h.size; simp [Sort.grow]; omega, fun k hk => by
    rw [← h.block k hk]
    exact Sort.heap_grow_old _ _ (by omega)⟩
theorem ownsRow_grow {w : World} {base : Nat} {e : TypeId} {k n : Nat} {v : Value} {us : List Value} (h : w.ownsRow base e k v n us) (os : Array Obj) : (Sort.grow w os).ownsRow base e k v n us := by
  refine ⟨h.1, ?_⟩
  rcases h.2 with h2 | ⟨g, cap, cur, e, h1, hg, r⟩
  · exact .inl h2
  · refine .inr ⟨g, cap, cur, e, h1, ?_, r⟩
    have hl : g < w.heap.size := (Array.getElem?_eq_some_iff.1 hg).1
    rw [Sort.heap_grow_old _ _ hl]
    exact hg
/-- What a call leaves that turns a row of one's own into another. -/
def KeptI (B base : Nat) (w0 : World) (v : Value) (zs : List Int) (w' : World) : Prop := OwnI w' base v zs ∧ Below B w0 w'
theorem sort_calls (h : OwnI w base v zs) (hb : Below B w0 w) (hB : B ≤ base) (hl : zs.length ≤ 1099511627776) :
    Calls Tryz.prog 69 #[v] w fun e w' => e = .returned (.tuple #[]) ∧ KeptI B base w0 v (sortI zs) w' := by
  rcases Nat.eq_zero_or_pos zs.length with h0 | h0
  · obtain rfl : zs = [] := List.eq_nil_of_length_eq_zero h0
    obtain ⟨A, c, rfl, _⟩ := h.rd
    refine (Tryz.slices_Sort_int_none A c w).mono ?_
    rintro e w' ⟨rfl, rfl⟩
    have hs : sortI [] = [] := by simp [sortI]
    rw [hs]
    exact ⟨rfl, h, hb⟩
  · obtain ⟨g, cap, rfl, h1, h2, h3, h4, h5⟩ := h.holds h0
    refine (Tryz.slices_Sort_int g 0 cap zs w h5 h2 (by omega)).mono ?_
    rintro e w' ⟨rfl, n, os, rfl⟩
    have := Lib.ownsRow_putRow (q := n) (k := zs.length) (ys := sortI zs) (enc := Value.int .i64) h (sortI_length zs) (Nat.le_refl _)
    rw [List.take_of_length_le (by rw [sortI_length]; exact Nat.le_refl _)] at this
    refine ⟨rfl, ?_, grow_below (Lib.below_putRow hb (by omega)) (by simp [Sort.putRow, Sort.mapBlock, Sort.ahead]; omega) os⟩
    unfold OwnI
    rw [sortI_length]
    exact ownsRow_grow this os
theorem compact_calls (h : OwnI w base v zs) (hb : Below B w0 w) (hB : B ≤ base) :
    Calls Tryz.prog 70 #[v] w fun e w' => ∃ v1, e = .returned v1 ∧ KeptI B base w0 v1 (Lib.compact zs) w' := by
  rcases Nat.eq_zero_or_pos zs.length with h0 | h0
  · obtain rfl : zs = [] := List.eq_nil_of_length_eq_zero h0
    obtain ⟨A, c, rfl, _⟩ := h.rd
    refine (Tryz.slices_Compact_int_empty A c w).mono ?_
    rintro e w' ⟨rfl, rfl⟩
    have hs : Lib.compact ([] : List Int) = [] := rfl
    rw [hs]
    exact ⟨_, rfl, h, hb⟩
  · obtain ⟨g, cap, rfl, h1, h2, h3, h4, h5⟩ := h.holds h0
    refine (Tryz.slices_Compact_int g 0 cap zs w h5 (by omega) h3).mono ?_
    rintro e w' ⟨rfl, q, rfl⟩
    have hle := Lib.compact_length_le zs
    have := Lib.ownsRow_putRow (q := q) (k := (Lib.compact zs).length) (ys := Lib.compact zs ++ List.replicate (zs.length - (Lib.compact zs).length) 0) (enc := Value.int .i64) h (by simp; omega) hle
    rw [List.take_left] at this
    exact ⟨_, rfl, this, Lib.below_putRow hb (by omega)⟩
theorem delete_calls (h : OwnI w base v zs) (hb : Below B w0 w) (hB : B ≤ base) (i j : Nat) (hij : i ≤ j) (hj : j ≤ zs.length) (h0 : 0 < zs.length) :
    Calls Tryz.prog 84 #[v, .int .i64 i, .int .i64 j] w fun e w' => ∃ v1, e = .returned v1 ∧ KeptI B base w0 v1 (zs.take i ++ zs.drop j) w' := by
  obtain ⟨g, cap, rfl, h1, h2, h3, h4, h5⟩ := h.holds h0
  refine (Tryz.slices_Delete_int g 0 cap i j zs w h5 h3 h4 hij hj).mono ?_
  rintro e w' ⟨rfl, q, rfl⟩
  have hl : (zs.take i ++ zs.drop j).length = zs.length - (j - i) := by simp; omega
  have := Lib.ownsRow_putRow (q := q) (k := zs.length - (j - i)) (ys := zs.take i ++ zs.drop j ++ List.replicate (j - i) 0) (enc := Value.int .i64) h (by simp; omega) (by omega)
  rw [← hl, List.take_left] at this
  rw [← hl]
  exact ⟨_, rfl, this, Lib.below_putRow hb (by omega)⟩
end
/-- slices.Contains of a row of ints. -/
theorem contains_calls {w : World} {ok : Nat → Prop} {A : Option Addr} {n c : Nat} {zs : List Int} (h : RdI w ok A n zs) (x : Int) :
    Calls Tryz.prog 38 #[.slice A n c, .int .i64 x] w fun e w' => e = .returned (.bool (zs.contains x)) ∧ w = w' := by
  have hl := h.1
  rcases Nat.eq_zero_or_pos n with h0 | h0
  · subst h0
    obtain rfl : zs = [] := List.eq_nil_of_length_eq_zero hl
    exact (Tryz.slices_Contains_int_empty A c x w).mono fun _ _ ⟨h1, h2⟩ => ⟨h1, h2.symm⟩
  · obtain ⟨b, o, rfl, _, _, hc⟩ := h.2.2 h0
    have := Tryz.slices_Contains_int b o n c zs x w (by omega) h.2.1 (fun j hj => by rw [hc j (by omega)]; simp [List.getD_eq_getElem?_getD])
    rw [List.take_of_length_le (by omega)] at this
    exact this.mono fun _ _ ⟨h1, h2⟩ => ⟨h1, h2.symm⟩
end Go.Proofs.YthgnjojkncodeaaGreat
