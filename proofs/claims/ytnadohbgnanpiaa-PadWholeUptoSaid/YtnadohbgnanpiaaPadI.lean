/-
  Rows of ints of a call's own.
-/
import Derived.Test.YtnadohbgnanpiaaPadW
import Derived.Test.YtnadohbgnanpiaaPadChunks
namespace Go.Proofs.Ytnadohbgnanpiaa
open Go.RowKit

def ivals (zs : List Int) : List Value := zs.map fun z => .int .i64 z
theorem ivals_length (zs : List Int) : (ivals zs).length = zs.length := by simp [ivals]
theorem ivals_append (xs ys : List Int) : ivals (xs ++ ys) = ivals xs ++ ivals ys := by simp [ivals]
theorem ivals_get (zs : List Int) (j : Nat) (h : j < zs.length) : (ivals zs)[j]? = some (.int .i64 (zs[j]?.getD 0)) := by simp [ivals, h]
theorem ivals_one (zs : List Int) : ∀ u ∈ ivals zs, u.oneCell' = true := by
  intro u hu
  obtain ⟨b, _, rfl⟩ := List.mem_map.1 hu
  rfl
def OwnI (w : World) (base : Nat) (v : Value) (zs : List Int) : Prop := w.ownsRow base 3 1 v zs.length (ivals zs)
theorem RdI.cells {w : World} {ok : Nat → Prop} {A : Option Addr} {n : Nat} {zs : List Int} (h : RdI w ok A n zs) : ∀ ad, A = some ad → ∀ j u, (ivals zs)[j]? = some u → w.cell? (ad.add j) = some u := by
  intro ad e j u hu
  have hj : j < zs.length := by rw [← ivals_length]; exact (List.getElem?_eq_some_iff.1 hu).1
  rw [ivals_get zs j hj] at hu
  injection hu with hu
  subst hu
  obtain ⟨ad', e', _, _, _, hc⟩ := h.2.2.2 (by have := h.1; omega)
  rw [e] at e'
  injection e' with e'
  subst e'
  exact hc j (by have := h.1; omega)
section
variable {w w' : World} {base : Nat} {v : Value} {zs : List Int}
theorem OwnI.nil (w : World) (base : Nat) : OwnI w base (.slice none 0 0) [] := World.ownsRow_nil w base _ 1
theorem OwnI.grown {row : Option Nat} (h : OwnI w base v zs) (hg : w.grownBy w' row) (hr : ∀ k, v.ownBlock = some k → some k ≠ row) : OwnI w' base v zs := by
  refine World.ownsRow.kept h hg ?_
  cases e : v.ownBlock with
  | none => exact .inl rfl
  | some k => exact .inr (fun he => hr k e he)
theorem OwnI.below (h : OwnI w base v zs) (hb : Below w.heap.size w w') : OwnI w' base v zs := h.grown (grownOfBelow hb none) (by simp)
theorem OwnI.lt (h : OwnI w base v zs) : ∀ k, v.ownBlock = some k → base ≤ k ∧ k < w.heap.size := World.ownsRow.lt h
theorem OwnI.rd (h : OwnI w base v zs) (hz : ∀ z ∈ zs, -9223372036854775808 ≤ z ∧ z ≤ 9223372036854775807) : ∃ A c, v = .slice A zs.length c ∧ zs.length ≤ c ∧ RdI w (fun k => base ≤ k ∧ v.ownBlock = some k) A zs.length zs := by
  rcases h.2 with ⟨rfl, h0⟩ | ⟨g, cap, cur, rfl, hb, hg, hn, hm, hc, ht⟩
  · refine ⟨none, 0, by rw [h0], by omega, rfl, by omega, hz, fun h => absurd h (by omega)⟩
  · refine ⟨_, cap, rfl, hn, rfl, by simp only [maxLen] at hm; omega, hz, fun h0 => ⟨⟨g, 0, none⟩, rfl, ⟨hb, rfl⟩, (Array.getElem?_eq_some_iff.1 hg).1, rfl, fun j hj => ?_⟩⟩
    exact World.ownsRow.cells h (g := g) rfl j _ (ivals_get zs j hj)
end
theorem info_int : (Try.prog.info? 3).map (fun i => (i.zero, i.size, i.bytes)) = some (some (.int .i64 0), 1, 8) := by kernel_rfl
section
variable {P : Program} {ops : Array Oper} {rest : List Oper} {o : Oper} {a : Act} {Q : Exit → Act → World → Prop}
theorem run_appI {W : World} (base : Nat) (ty : TypeId) (v : Value) (zs : List Int) (z : Int)
    (HO : OwnI W base v zs) (hbase : base ≤ W.heap.size) (hl : zs.length ≤ 1099511627776) :
    ∃ v1 w1, (Builtin.append_ #[33, 33] ty #[v, .slice (some ⟨W.heap.size, 0, none⟩) 1 1]).run Try.prog (W.alloc (.cells #[.int .i64 z] 3)) = .ok v1 w1 ∧ OwnI w1 base v1 (zs ++ [z]) ∧
      (W.alloc (.cells #[.int .i64 z] 3)).grownBy w1 v.ownBlock := by
  obtain ⟨i0, hi, hzz⟩ := Option.map_eq_some_iff.1 info_int
  simp only [Prod.mk.injEq] at hzz
  obtain ⟨hz0, hz1, hz2⟩ := hzz
  have hz : base ≤ (W.alloc (.cells #[.int .i64 z] 3)).heap.size := by simp; omega
  have hsa : (W.alloc (.cells #[.int .i64 z] 3)).heap.size = W.heap.size + 1 := by simp
  have h2a : (W.alloc (.cells #[.int .i64 z] 3)).ownsRow base 3 1 v zs.length (ivals zs) := World.ownsRow.alloc HO _
  obtain ⟨v1, w1, hr, k2, k3, _, _⟩ := run_append_own_at (P := Try.prog) (W.alloc (.cells #[.int .i64 z] 3)) base 33 ty 3 i0 (.int .i64 0) 1 8 Try.underlying33 hi hz0 hz1 hz2 rfl (by omega) v zs.length (ivals zs) h2a ⟨W.heap.size, 0, none⟩ 1 1 [.int .i64 z] rfl
    (cell_one_new _ _ _) (by simp [Value.oneCell']) (by simp only [maxLen]; omega) (by omega) hz
  exact ⟨v1, w1, hr, by unfold OwnI; rw [List.length_append, ivals_append]; exact k2, k3⟩
theorem appI {w0 W : World} (B base : Nat) (hgd : Region.wanted o (yielded ops a.tmps) = true) (s x : Operand)
    (ho : o.op = .call { callee := .builtin .append, args := #[s, x], argTypes := #[33, 33] })
    (v : Value) (zs : List Int) (z : Int) (hs : a.eval s = v) (hx : a.eval x = .slice (some ⟨W.heap.size, 0, none⟩) 1 1)
    (HO : OwnI W base v zs) (HB : Below B w0 W) (hbase : base ≤ W.heap.size) (hBb : B ≤ base) (hl : zs.length ≤ 1099511627776)
    (h : ∀ v1 w1, OwnI w1 base v1 (zs ++ [z]) → Below B w0 w1 → wpList Try.prog ops Q rest (a.put o.dst v1) w1) :
    wpList Try.prog ops Q (o :: rest) a (W.alloc (.cells #[.int .i64 z] 3)) := by
  obtain ⟨v1, w1, hr, h2, h3⟩ := run_appI base o.type v zs z HO hbase hl
  have hlt := HO.lt
  refine wpList_wanted hgd fun K hK => ?_
  unfold Oper.wp execOp
  simp only [ho, resolve, invoke, builtin, Sem.run_bind, Sem.run_pure, Result.andThen_ok, List.map_toArray, List.map_cons, List.map_nil, hs, hx, hr]
  exact hK _ _ (h v1 w1 h2 ((HB.alloc (by omega) _).grown h3 (by simp; omega) (fun k hk => by have := hlt k hk; omega)))
end
/-- The next cut: 'last + uint(c) % uint(L - last + 1)'. -/
def nextCut (L last : Nat) (c : Int) : Nat := last + (c % 18446744073709551616).toNat % (L - last + 1)
theorem nextCut_le (L last : Nat) (c : Int) (h : last ≤ L) : last ≤ nextCut L last c ∧ nextCut L last c ≤ L := by
  unfold nextCut
  have := Nat.mod_lt (c % 18446744073709551616).toNat (show 0 < L - last + 1 by omega)
  omega
theorem rising_snoc (L : Nat) : ∀ (zs : List Int) (a last z : Nat), Rising L zs a → (zs = [] → last = a) → (∀ h : zs ≠ [], zs.getLast h = (last : Int)) → last ≤ z → z ≤ L → Rising L (zs ++ [(z : Int)]) a := by
  intro zs
  induction zs with
  | nil =>
    intro a last z _ h1 _ h3 h4
    have := h1 rfl
    subst this
    exact ⟨by omega, by omega, trivial⟩
  | cons c cs ih =>
    intro a last z h h1 h2 h3 h4
    obtain ⟨k1, k2, k3⟩ := h
    refine ⟨k1, k2, ih c.toNat last z k3 (fun e => ?_) (fun hne => ?_) h3 h4⟩
    · subst e
      have := h2 (by simp)
      simp at this
      omega
    · have := h2 (by simp)
      rwa [List.getLast_cons hne] at this
end Go.Proofs.Ytnadohbgnanpiaa
