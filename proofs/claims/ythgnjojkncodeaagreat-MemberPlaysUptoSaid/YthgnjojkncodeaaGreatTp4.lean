/-
  append(own ints, ints...); slices.Grow, slices.Concat of ints.
-/
import Derived.Lib.AppendZeros
import Derived.Test.YthgnjojkncodeaaGreatTp3
namespace Go.Proofs.YthgnjojkncodeaaGreat
open Go.RowKit

section
variable {P : Program} {ops : Array Oper} {rest : List Oper} {o : Oper} {a : Act} {Q : Exit → Act → World → Prop}
theorem run_appIs {W : World} (base : Nat) (ty : TypeId) (v : Value) (xs ys : List Int) (A : Option Addr) (m c : Nat) {ok : Nat → Prop}
    (HO : OwnI W base v xs) (HR : RdI W ok A m ys) (hbase : base ≤ W.heap.size) (hl : xs.length + m ≤ 1099511627776) :
    ∃ v1 w1, (Builtin.append_ #[54, 54] ty #[v, .slice A m c]).run Tryz.prog W = .ok v1 w1 ∧ OwnI w1 base v1 (xs ++ ys) ∧ W.grownBy w1 v.ownBlock := by
  obtain ⟨i0, hi, hzz⟩ := Option.map_eq_some_iff.1 info_int
  simp only [Prod.mk.injEq] at hzz
  obtain ⟨hz0, hz1, hz2⟩ := hzz
  have hm : ys.length = m := HR.1
  rcases A with _ | ad
  · have h0 : m = 0 := by
      rcases Nat.eq_zero_or_pos m with h0 | h0
      · exact h0
      · obtain ⟨b, o, h, _⟩ := HR.2.2 h0
        cases h
    subst h0
    obtain rfl : ys = [] := List.eq_nil_of_length_eq_zero hm
    refine ⟨v, W, ?_, by simpa using HO, World.grownBy.refl W _⟩
    rcases HO.2 with ⟨rfl, hn⟩ | ⟨g, cap, cur, rfl, _, _, hnc, _⟩
    · simp [Builtin.append_, run_underlying Tryz.underlying54, sizeOf, typeInfo, hi, Builtin.lenOf, Builtin.firstCells]
    · simp [Builtin.append_, run_underlying Tryz.underlying54, sizeOf, typeInfo, hi, Builtin.lenOf, Builtin.firstCells, hnc, storeCells]
  · obtain ⟨v1, w1, hr, h2, h3, _, h5⟩ := run_append_own_at (P := Tryz.prog) W base 54 ty 3 i0 (.int .i64 0) 1 8 Tryz.underlying54 hi hz0 hz1 hz2 rfl (by omega) v xs.length (ivals xs) HO ad m c (ivals ys) (by rw [ivals_length]; omega)
      (HR.cells ad rfl) (ivals_one ys) (by simp only [maxLen]; omega) (by omega) hbase
    exact ⟨v1, w1, hr, by unfold OwnI; rw [List.length_append, hm, ivals_append]; exact h2, h3⟩
theorem appIs {w0 W : World} (B base : Nat) (hgd : Region.wanted o (yielded ops a.tmps) = true) (s x : Operand)
    (ho : o.op = .call { callee := .builtin .append, args := #[s, x], argTypes := #[54, 54] })
    (v : Value) (xs ys : List Int) (A : Option Addr) (m c : Nat) {ok : Nat → Prop} (hs : a.eval s = v) (hx : a.eval x = .slice A m c)
    (HO : OwnI W base v xs) (HR : RdI W ok A m ys) (HB : Below B w0 W) (hbase : base ≤ W.heap.size) (hBb : B ≤ base) (hl : xs.length + m ≤ 1099511627776)
    (h : ∀ v1 w1, OwnI w1 base v1 (xs ++ ys) → Below B w0 w1 → wpList Tryz.prog ops Q rest (a.put o.dst v1) w1) :
    wpList Tryz.prog ops Q (o :: rest) a W := by
  obtain ⟨v1, w1, hr, h2, h3⟩ := run_appIs base o.type v xs ys A m c HO HR hbase hl
  refine wpList_wanted hgd fun K hK => ?_
  unfold Oper.wp execOp
  simp only [ho, resolve, invoke, builtin, Sem.run_bind, Sem.run_pure, Result.andThen_ok, List.map_toArray, List.map_cons, List.map_nil, hs, hx, hr]
  exact hK _ _ (h v1 w1 h2 (HB.grown h3 (by omega) (fun k hk => by have := HO.lt k hk; omega)))
end
theorem wpList_app_run {P : Program} {ops : Array Oper} {rest : List Oper} {o : Oper} {a : Act} {Q : Exit → Act → World → Prop} {W W1 : World} {v yv v1 : Value} (hgd : Region.wanted o (yielded ops a.tmps) = true) (s y : Operand) (st sn : TypeId)
    (ho : o.op = .call { callee := .builtin .append, args := #[s, y], argTypes := #[st, sn] }) (hs : a.eval s = v) (hy : a.eval y = yv) (hr : (Builtin.append_ #[st, sn] o.type #[v, yv]).run P W = .ok v1 W1)
    (h : wpList P ops Q rest (a.put o.dst v1) W1) : wpList P ops Q (o :: rest) a W := by
  refine wpList_wanted hgd fun G hG => ?_
  unfold Oper.wp execOp
  simp only [ho, resolve, invoke, builtin, Sem.run_bind, Sem.run_pure, Result.andThen_ok, List.map_toArray, List.map_cons, List.map_nil, hs, hy, hr]
  exact hG _ _ h
/-- An int, of whatever size. -/
def El.int0 : El Int where
  k := 1
  bulk := fun _ => 1
  V := fun _ _ vs x => vs = [.int .i64 x]
  len := by rintro w ok vs x rfl; rfl
  one := by rintro w ok vs x rfl u hu; simp at hu; subst hu; rfl
  keep := fun h _ _ => h
  mono := fun h _ => h
theorem RdI.toRd {w : World} {ok : Nat → Prop} {A : Option Addr} {n : Nat} {zs : List Int} (h : RdI w ok A n zs) : Rd El.int0 w ok A n zs := by
  refine ⟨h.1, h.2.1, fun h0 => ?_⟩
  obtain ⟨b, o, e, h1, h2, h3⟩ := h.2.2 h0
  refine ⟨b, o, e, h1, h2, fun j x hx => ⟨_, rfl, fun r u hu => ?_⟩⟩
  obtain ⟨rfl, rfl⟩ : r = 0 ∧ u = .int .i64 x := by
    cases r with
    | zero => simp at hu; exact ⟨rfl, hu.symm⟩
    | succ r => simp at hu
  have hj := (List.getElem?_eq_some_iff.1 hx).1
  have := h3 j (by have := h.1; omega)
  rw [hx] at this
  simpa [El.int0] using this
theorem RdI.ofRd {w : World} {ok : Nat → Prop} {A : Option Addr} {n : Nat} {zs : List Int} (h : Rd El.int0 w ok A n zs) : RdI w ok A n zs := by
  refine ⟨h.1, h.2.1, fun h0 => ?_⟩
  obtain ⟨b, o, e, h1, h2, h3⟩ := h.2.2 h0
  refine ⟨b, o, e, h1, h2, fun j hj => ?_⟩
  have hl := h.1
  obtain ⟨vs, rfl, hc⟩ := h3 j zs[j] (List.getElem?_eq_getElem (by omega))
  have := hc 0 _ rfl
  simpa [El.int0, show j < zs.length by omega] using this
theorem RdI.ofRdInt {w : World} {ok : Nat → Prop} {A : Option Addr} {n : Nat} {zs : List Int} (h : Rd El.int w ok A n zs) : RdI w ok A n zs := by
  refine ⟨h.1, h.2.1, fun h0 => ?_⟩
  obtain ⟨b, o, e, h1, h2, h3⟩ := h.2.2 h0
  refine ⟨b, o, e, h1, h2, fun j hj => ?_⟩
  have hl := h.1
  obtain ⟨vs, ⟨rfl, _⟩, hc⟩ := h3 j zs[j] (List.getElem?_eq_getElem (by omega))
  have := hc 0 _ rfl
  simpa [El.int, show j < zs.length by omega] using this
abbrev elIs : El (List Int) := El.slice El.int0
set_option maxHeartbeats 800000 in
/-- slices.Grow(nil, m). -/
theorem grow_calls (w : World) (m : Nat) (hm : m ≤ 1099511627776) :
    Calls Tryz.prog 90 #[.slice none 0 0, .int .i64 (m : Int)] w (RetI w []) := by
  obtain ⟨i0, hi, hzz⟩ := Option.map_eq_some_iff.1 info_int
  simp only [Prod.mk.injEq] at hzz
  obtain ⟨hz0, hz1, hz2⟩ := hzz
  have h1 : ¬ ((m : Int) < 0) := by omega
  rcases Nat.eq_zero_or_pos m with h0 | h0
  · subst h0
    clear h1
    go_enter Tryz.func90, Tryz.ntmps90
    go_wp2
    go_ret
    exact ⟨_, rfl, OwnI.nil _ _, Below.refl _ _⟩
  · have h2 : (m : Int) > 0 := by omega
    have hr := Lib.run_append_nil_zeros (P := Tryz.prog) w 54 3 54 3 i0 (.int .i64 0) .i64 .i64 Tryz.underlying54 Tryz.underlying3 hi hz0 m h0 (by rw [hz1]; omega) (by omega) (by rw [hz2]; omega)
    have hge := grownCap_ge w m 0 3
    have hcm : grownCap w m 0 3 ≤ maxLen := grownCap_le_maxLen w m 0 3 (by simp only [maxLen]; omega)
    obtain ⟨cp, hcp⟩ : ∃ cp, grownCap w m 0 3 = cp := ⟨_, rfl⟩
    rw [hcp] at hr hge hcm
    obtain ⟨w1, hw1⟩ : ∃ w1, w.drew.alloc (.cells (Builtin.zeroCells (Value.int .i64 0).cells m ++ Builtin.zeroCells (Value.int .i64 0).cells (cp - m)) 3) = w1 := ⟨_, rfl⟩
    have hO : OwnI w1 w.heap.size (.slice (some ⟨w.heap.size, 0, none⟩) 0 cp) [] := by
      rw [← hw1]
      refine ⟨rfl, .inr ⟨w.heap.size, _, _, rfl, Nat.le_refl _, heap_alloc_new w.drew _, Nat.zero_le _, hcm, ?_, by simp [ivals]⟩⟩
      simp only [Array.size_append, size_zeroCells]
      simp [Value.cells]
      omega
    have hB : Below w.heap.size w w1 := by rw [← hw1]; exact ((Below.refl w.heap.size w).drew).alloc (Nat.le_refl _) _
    rw [hw1] at hr
    have HR := Lib.hid hr
    clear hr hcp hw1 hz0 hz1 hz2 hi
    go_enter Tryz.func90, Tryz.ntmps90
    go_wp2_with (at_builtin; refine wpList_app_run rfl (.tmp 20) (.tmp 21) 54 3 rfl rfl rfl HR.out ?_)
    go_ret
    exact ⟨_, rfl, hO, hB⟩
theorem flat_take (rows : List (List Int)) (k : Nat) (x : List Int) (hx : rows[k]? = some x) : (rows.take (k + 1)).flatten = (rows.take k).flatten ++ x := by
  have hk : k < rows.length := (List.getElem?_eq_some_iff.1 hx).1
  have e : rows[k] = x := by rw [List.getElem?_eq_getElem hk] at hx; injection hx
  rw [List.take_succ_eq_append_getElem hk, List.flatten_append, e]; simp
theorem flat_le (rows : List (List Int)) (k : Nat) : (rows.take k).flatten.length ≤ rows.flatten.length := by
  have : rows.flatten = (rows.take k).flatten ++ (rows.drop k).flatten := by rw [← List.flatten_append, List.take_append_drop]
  rw [this, List.length_append]; omega
end Go.Proofs.YthgnjojkncodeaaGreat
