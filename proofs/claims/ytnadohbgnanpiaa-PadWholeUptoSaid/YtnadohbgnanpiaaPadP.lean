/-
  append of many rows.
-/
import Derived.Test.YtnadohbgnanpiaaPadPartsP
namespace Go.Proofs.Ytnadohbgnanpiaa
open Go.RowKit

theorem boxTwo (w : World) (u v : Value) (t : TypeId) (wS : World) (h : w.alloc (.cells #[u, v] t) = wS) :
    Below w.heap.size w wS ∧ wS.cell? ⟨w.heap.size, 0, none⟩ = some u ∧ wS.cell? ⟨w.heap.size, 1, none⟩ = some v := by
  subst h
  exact ⟨(Below.refl _ _).alloc (Nat.le_refl _) _, World.cell?_alloc_new _ _ _ 0, World.cell?_alloc_new _ _ _ 1⟩
section
variable {P : Program} {ops : Array Oper} {rest : List Oper} {o : Oper} {a : Act} {Q : Exit → Act → World → Prop}
theorem run_appRows {W : World} (base : Nat) (ty : TypeId) (v : Value) (ls ms : List (List UInt8)) (Am : Option Addr) (nm cm : Nat)
    (HO : OwnBB W base v ls) (HR : RdBB W (fun k => base ≤ k ∧ v.ownBlock ≠ some k) Am nm ms) (hbase : base ≤ W.heap.size) (hl : ls.length + nm ≤ 1099511627776) :
    ∃ v1 w1, (Builtin.append_ #[25, 25] ty #[v, .slice Am nm cm]).run Try.prog W = .ok v1 w1 ∧ OwnBB w1 base v1 (ls ++ ms) ∧ W.grownBy w1 v.ownBlock := by
  obtain ⟨i0, hi, hzz⟩ := Option.map_eq_some_iff.1 info_bb
  simp only [Prod.mk.injEq] at hzz
  obtain ⟨hz0, hz1, hz2⟩ := hzz
  rcases Am with _ | ad
  · have h0 : nm = 0 := by
      rcases Nat.eq_zero_or_pos nm with h0 | h0
      · exact h0
      · obtain ⟨ad, h, _⟩ := HR.2.2 h0
        cases h
    subst h0
    obtain rfl : ms = [] := List.eq_nil_of_length_eq_zero HR.1
    refine ⟨v, W, ?_, by simpa using HO, World.grownBy.refl W _⟩
    obtain ⟨vs, h1, h2, _⟩ := HO
    rcases h2.2 with ⟨rfl, hn⟩ | ⟨g, cap, cur, rfl, _, _, hnc, _⟩
    · simp [Builtin.append_, run_underlying Try.underlying25, sizeOf, typeInfo, hi, Builtin.lenOf, Builtin.firstCells]
    · simp [Builtin.append_, run_underlying Try.underlying25, sizeOf, typeInfo, hi, Builtin.lenOf, Builtin.firstCells, hnc, storeCells]
  obtain ⟨vs, h1, h2, h3⟩ := HO
  have hml := HR.len
  obtain ⟨us, hul, hus⟩ : ∃ us : List Value, us.length = nm ∧ ∀ j, j < nm → ∃ Aj nj cj, us[j]? = some (.slice Aj nj cj) ∧ W.cell? (ad.add j) = some (.slice Aj nj cj) ∧ nj ≤ cj ∧ RdB W (fun k => base ≤ k ∧ v.ownBlock ≠ some k) Aj nj (lrow ms j) := by
    refine ⟨(List.range nm).map fun j => (W.cell? (ad.add j)).getD undef, by simp, fun j hj => ?_⟩
    obtain ⟨ad', e, _, _, _, hc⟩ := HR.2.2 (by omega)
    cases e
    obtain ⟨Aj, nj, cj, k1, k2, k3⟩ := hc j hj
    exact ⟨Aj, nj, cj, by simp [hj, k1], k1, k2, k3⟩
  have hcell : ∀ j u, us[j]? = some u → W.cell? (ad.add j) = some u := fun j u hu => by
    have hj : j < nm := by rw [← hul]; exact (List.getElem?_eq_some_iff.1 hu).1
    obtain ⟨Aj, nj, cj, k1, k2, _⟩ := hus j hj
    rw [k1] at hu
    cases hu
    exact k2
  have hone : ∀ u ∈ us, u.oneCell' = true := fun u hu => by
    obtain ⟨j, hj, e⟩ := List.getElem_of_mem hu
    obtain ⟨Aj, nj, cj, k1, _⟩ := hus j (by omega)
    rw [List.getElem?_eq_getElem hj] at k1
    injection k1 with k1
    rw [← e, k1]
    rfl
  obtain ⟨v1, w1, hr, k2, k3, _, k5⟩ := run_append_own_at (P := Try.prog) W base 25 ty 28 i0 (.slice none 0 0) 1 24 Try.underlying25 hi hz0 hz1 hz2 rfl (by omega) v vs.length vs h2 ad nm cm us (by omega)
    hcell hone (by simp only [maxLen]; omega) (by omega) hbase
  refine ⟨v1, w1, hr, ⟨vs ++ us, by simp [h1, hul, hml], by rw [List.length_append, hul]; exact k2, fun j hj => ?_⟩, k3⟩
  have hown : ∀ k, base ≤ k ∧ v.ownBlock ≠ some k → k < W.heap.size → base ≤ k ∧ v1.ownBlock ≠ some k := fun k hk hl => ⟨hk.1, fun e => by
    rcases k5 with k5 | k5
    · exact hk.2 (by rw [← k5]; exact e)
    · rw [k5] at e
      simp at e
      omega⟩
  have keepB : ∀ {X : Option Addr} {nx : Nat} {xs : List UInt8}, RdB W (fun k => base ≤ k ∧ v.ownBlock ≠ some k) X nx xs → RdB w1 (fun k => base ≤ k ∧ v1.ownBlock ≠ some k) X nx xs := fun hx =>
    ((hx.mono fun k hk hl => show (base ≤ k ∧ v1.ownBlock ≠ some k) ∧ v.ownBlock ≠ some k from ⟨hown k hk hl, hk.2⟩).grown k3 fun k hk e => hk.2 e.symm).mono fun k hk _ => hk.1
  rw [List.length_append] at hj
  by_cases hlt : j < ls.length
  · obtain ⟨Aj, nj, cj, q1, q2, q3⟩ := h3 j hlt
    exact ⟨Aj, nj, cj, by rw [List.getElem?_append_left (by omega)]; exact q1, q2, by rw [lrow_left _ _ _ hlt]; exact keepB q3⟩
  · obtain ⟨Aj, nj, cj, q1, _, q2, q3⟩ := hus (j - ls.length) (by omega)
    refine ⟨Aj, nj, cj, by rw [List.getElem?_append_right (by omega), h1]; exact q1, q2, ?_⟩
    have e : lrow (ls ++ ms) j = lrow ms (j - ls.length) := by unfold lrow; rw [List.getElem?_append_right (by omega)]
    rw [e]
    exact keepB q3
theorem appRows {w0 W : World} (B base : Nat) (hgd : Region.wanted o (yielded ops a.tmps) = true) (s x : Operand)
    (ho : o.op = .call { callee := .builtin .append, args := #[s, x], argTypes := #[25, 25] })
    (v : Value) (ls ms : List (List UInt8)) (Am : Option Addr) (nm cm : Nat) (hs : a.eval s = v) (hx : a.eval x = .slice Am nm cm)
    (HO : OwnBB W base v ls) (HR : RdBB W (fun k => base ≤ k ∧ v.ownBlock ≠ some k) Am nm ms) (HB : Below B w0 W) (hbase : base ≤ W.heap.size) (hBb : B ≤ base) (hl : ls.length + nm ≤ 1099511627776)
    (h : ∀ v1 w1, OwnBB w1 base v1 (ls ++ ms) → Below B w0 w1 → W.grownBy w1 v.ownBlock → wpList Try.prog ops Q rest (a.put o.dst v1) w1) :
    wpList Try.prog ops Q (o :: rest) a W := by
  obtain ⟨v1, w1, hr, h2, h3⟩ := run_appRows base o.type v ls ms Am nm cm HO HR hbase hl
  have hlt := HO.lt
  refine wpList_wanted hgd fun K hK => ?_
  unfold Oper.wp execOp
  simp only [ho, resolve, invoke, builtin, Sem.run_bind, Sem.run_pure, Result.andThen_ok, List.map_toArray, List.map_cons, List.map_nil, hs, hx, hr]
  exact hK _ _ (h v1 w1 h2 (HB.grown h3 (by omega) (fun k hk => by have := hlt k hk; omega)) h3)
end
end Go.Proofs.Ytnadohbgnanpiaa
