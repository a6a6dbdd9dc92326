/-
  append(own, make([]byte, m)...): noughts behind bytes of the call's own.
-/
import Derived.Lib.AppendZerosOnto
import Derived.Test.YtnadohbgnanpiaaBytes
namespace Go.Proofs.Ytnadohbgnanpiaa
open Go.RowKit

theorem zeros_eq (m : Nat) : (Builtin.zeroCells #[Value.int .u8 0] m).toList = bvals (List.replicate m 0) := by
  apply List.ext_getElem
  · simp [Builtin.zeroCells, bvals]
  · intro i h1 h2
    simp [Builtin.zeroCells, bvals, Nat.mod_one]
section
variable {ops : Array Oper} {rest : List Oper} {o : Oper} {a : Act} {Q : Exit → Act → World → Prop}
set_option maxHeartbeats 800000 in
theorem run_appZ {W : World} (base : Nat) (ty : TypeId) (v : Value) (xs : List UInt8) (m : Nat) (HO : OwnB W base v xs) (hbase : base ≤ W.heap.size) (hl : xs.length + m ≤ 1099511627776) :
    ∃ v1 w1, (Builtin.append_ #[28, 3] ty #[v, .int .i64 (m : Int)]).run Try.prog W = .ok v1 w1 ∧ OwnB w1 base v1 (xs ++ List.replicate m 0) ∧ W.grownBy w1 v.ownBlock ∧
      (v1.ownBlock = v.ownBlock ∨ v1.ownBlock = some W.heap.size) := by
  obtain ⟨i0, hi, hzz⟩ := Option.map_eq_some_iff.1 info_u8
  simp only [Prod.mk.injEq] at hzz
  obtain ⟨hz0, hz1, hz2⟩ := hzz
  have hw : IntKind.i64.wrap (m : Int) = (m : Int) := by rw [IntKind.wrap_i64]; omega
  have hneg : ¬ ((m : Int) < 0) := by omega
  have h48 : ¬ (281474976710656 < (m : Int) * (i0.bytes : Int)) := by rw [hz2]; omega
  rcases Nat.eq_zero_or_pos m with h0 | h0
  · subst h0
    refine ⟨v, W, ?_, by simpa using HO, World.grownBy.refl W _, .inl rfl⟩
    rcases HO.2 with ⟨rfl, hn⟩ | ⟨g, cap, cur, rfl, _, _, hnc, _⟩
    · simp [Builtin.append_, run_underlying Try.underlying28, run_underlying Try.underlying3, sizeOf, typeInfo, hi, asInt, asIntOf, IntKind.wrap_i64]
    · simp [Builtin.append_, run_underlying Try.underlying28, run_underlying Try.underlying3, sizeOf, typeInfo, hi, asInt, asIntOf, IntKind.wrap_i64, hnc, storeCells]
  -- what the growing arm leaves
  have grown : ∀ (old : Nat), old < xs.length + m → ∀ (row : Option Nat),
      OwnB (W.drew.alloc (.cells ((bvals xs).toArray ++ Builtin.zeroCells #[Value.int .u8 0] m ++ Builtin.zeroCells #[Value.int .u8 0] (grownCap W (xs.length + m) old 5 - (xs.length + m))) 5)) base
        (.slice (some ⟨W.heap.size, 0, none⟩) (xs.length + m) (grownCap W (xs.length + m) old 5)) (xs ++ List.replicate m 0) ∧
      W.grownBy (W.drew.alloc (.cells ((bvals xs).toArray ++ Builtin.zeroCells #[Value.int .u8 0] m ++ Builtin.zeroCells #[Value.int .u8 0] (grownCap W (xs.length + m) old 5 - (xs.length + m))) 5)) row := by
    intro old ho row
    have hge := grownCap_ge W (xs.length + m) old 5
    have hcm : grownCap W (xs.length + m) old 5 ≤ maxLen := grownCap_le_maxLen W (xs.length + m) old 5 (by simp only [maxLen]; omega)
    have hll : (xs ++ List.replicate m (0 : UInt8)).length = xs.length + m := by simp
    refine ⟨?_, ⟨rfl, rfl, rfl, by simp, fun k hk _ => Below.heap_alloc W.drew _ k hk⟩⟩
    unfold OwnB
    rw [hll]
    refine ⟨by rw [bvals_length]; simp, .inr ⟨W.heap.size, _, _, rfl, hbase, heap_alloc_new W.drew _, hge, hcm, ?_, ?_⟩⟩
    · simp only [Array.size_append, List.size_toArray, size_zeroCells, bvals_length]
      simp
      omega
    · simp only [Array.toList_append, zeros_eq]
      rw [bvals_append]
      have e : (xs.length + m) * 1 = (bvals xs ++ bvals (List.replicate m 0)).length := by simp [bvals_length]
      rw [e]
      exact List.take_left
  rcases HO.2 with ⟨rfl, hn⟩ | ⟨g, cap, cur, rfl, hbg, hg, hnc, hcm, hcs, htake⟩
  · obtain rfl : xs = [] := List.eq_nil_of_length_eq_zero hn
    have hr := Lib.run_append_nil_zeros (P := Try.prog) W 28 3 ty 5 i0 (.int .u8 0) .i64 .i64 Try.underlying28 Try.underlying3 hi hz0 m h0 (by rw [hz1]; omega) (by omega) (by rw [hz2]; omega)
    have hgr := grown 0 (by simp; omega) (Value.ownBlock (.slice none 0 0))
    simp only [List.length_nil, Nat.zero_add] at hgr
    have ez : (bvals ([] : List UInt8)).toArray = #[] := rfl
    rw [ez, Array.empty_append] at hgr
    exact ⟨_, _, hr, hgr.1, hgr.2, .inr rfl⟩
  · by_cases hroom : xs.length + m ≤ cap
    · have hfit : xs.length + (bvals (List.replicate m 0)).length ≤ cur.size := by rw [hcs, bvals_length, List.length_replicate]; omega
      have hst := run_storeCells_at Try.prog g xs.length 5 (bvals (List.replicate m 0)) 0 cur W hg (by simpa using hfit) (bvals_one _)
      simp only [Nat.add_zero] at hst
      refine ⟨.slice (some ⟨g, 0, none⟩) (xs.length + m) cap, W.setRow g (cur.toList.take xs.length ++ bvals (List.replicate m 0) ++ cur.toList.drop (xs.length + (bvals (List.replicate m 0)).length)).toArray, ?_, ?_, ⟨rfl, rfl, rfl, by simp, fun k _ hk => setRow_other W g k _ (fun e => hk (by simp [Value.ownBlock, e]))⟩, .inl rfl⟩
      · have hne : ¬ (m = 0) := by omega
        simp only [Builtin.append_]
        simp [run_underlying Try.underlying28, run_underlying Try.underlying3, sizeOf, typeInfo, zeroValue, hi, hz0, hz1, asInt, asIntOf, hw, hneg, hne, h48, hroom, Addr.add_lit]
        rw [show (Builtin.zeroCells (Value.int .u8 0).cells m).toList = bvals (List.replicate m 0) from zeros_eq m, hst]
        simp [Result.andThen_ok]
      · have hll : (xs ++ List.replicate m (0 : UInt8)).length = xs.length + m := by simp
        unfold OwnB
        rw [hll]
        refine ⟨by rw [bvals_length]; simp, .inr ⟨g, _, _, rfl, hbg, setRow_heap W g cur _ 5 _ hg, hroom, hcm, ?_, ?_⟩⟩
        · simp [bvals_length]
          omega
        · rw [bvals_append]
          have e1 : cur.toList.take xs.length = bvals xs := by have := htake; rw [Nat.mul_one] at this; exact this
          simp only [e1]
          have e : (xs.length + m) * 1 = (bvals xs ++ bvals (List.replicate m 0)).length := by simp [bvals_length]
          rw [e]
          exact List.take_left
    · have holds : ∀ j u, (bvals xs)[j]? = some u → W.drew.cell? ((⟨g, 0, none⟩ : Addr).add j) = some u := World.ownsRow.cells HO (g := g) rfl
      have hfc := run_firstCells_some (P := Try.prog) W.drew i0.size xs.length ⟨g, 0, none⟩ xs.length cap (bvals xs) (by rw [bvals_length, hz1]; omega) holds
      have hr := Lib.run_append_grow_zeros (P := Try.prog) W 28 3 ty 5 i0 (.int .u8 0) .i64 .i64 Try.underlying28 Try.underlying3 hi hz0 (some ⟨g, 0, none⟩) xs.length cap (bvals xs) hfc m h0 (by rw [hz1]; omega) (by omega) (by omega) (by rw [hz2]; omega)
        (by rw [hz2]; exact growslice_fits (by omega) (by omega))
      have hgr := grown cap (by omega) (Value.ownBlock (.slice (some ⟨g, 0, none⟩) xs.length cap))
      exact ⟨_, _, hr, hgr.1, hgr.2, .inr rfl⟩
theorem appZ {w0 W : World} (B base : Nat) (hgd : Region.wanted o (yielded ops a.tmps) = true) (s x : Operand)
    (ho : o.op = .call { callee := .builtin .append, args := #[s, x], argTypes := #[28, 3] })
    (v : Value) (xs : List UInt8) (m : Nat) (hs : a.eval s = v) (hx : a.eval x = .int .i64 (m : Int))
    (HO : OwnB W base v xs) (HB : Below B w0 W) (hbase : base ≤ W.heap.size) (hBb : B ≤ base) (hl : xs.length + m ≤ 1099511627776)
    (h : ∀ v1 w1, OwnB w1 base v1 (xs ++ List.replicate m 0) → Below B w0 w1 → W.grownBy w1 v.ownBlock → wpList Try.prog ops Q rest (a.put o.dst v1) w1) :
    wpList Try.prog ops Q (o :: rest) a W := by
  obtain ⟨v1, w1, hr, h2, h3, _⟩ := run_appZ base o.type v xs m HO hbase hl
  refine wpList_wanted hgd fun K hK => ?_
  unfold Oper.wp execOp
  simp only [ho, resolve, invoke, builtin, Sem.run_bind, Sem.run_pure, Result.andThen_ok, List.map_toArray, List.map_cons, List.map_nil, hs, hx, hr]
  exact hK _ _ (h v1 w1 h2 (HB.grown h3 (by omega) (fun k hk => by have := HO.lt k hk; omega)) h3)
end
end Go.Proofs.Ytnadohbgnanpiaa
