/-
  append onto a slice that is full.
-/
import Derived.Test.YthgnjojkncodeaaGreatNSt2
namespace Go.Proofs.YthgnjojkncodeaaGreat
open Go.RowKit

section
variable {α : Type} {E : El α} {T : TypeId} {ok : Nat → Prop} {xs ys : List α}
theorem cellsOne {w : World} {vss : List (List Value)} (h : Cells E w ok vss xs) : ∀ u ∈ vss.flatten, u.oneCell' = true := fun u hu => by
  obtain ⟨vs, hvs, huv⟩ := List.mem_flatten.1 hu
  obtain ⟨q, hq⟩ := List.mem_iff_getElem?.1 hvs
  have hq2 : q < xs.length := by have := (List.getElem?_eq_some_iff.1 hq).1; rw [h.length] at this; exact this
  obtain ⟨us, j1, j2, _⟩ := h.at_ q xs[q] (List.getElem?_eq_getElem hq2)
  rw [hq] at j1
  injection j1 with j1
  subst j1
  exact E.one j2 u huv
/-- append(s[:n:n], others...): s itself where nothing is appended, or a new row. -/
theorem run_app_full {P : Program} {W : World} (st ty : TypeId) (i : TypeInfo) (z : Value) (bytes : Nat) (ht : P.underlying st = some (.slice T)) (hi : P.info? T = some i) (hz : i.zero = some z)
    (hsize : i.size = E.k) (hby : i.bytes = bytes) (hzs : z.cells.size = E.k) (hk : 0 < E.k) (A : Option Addr) (n : Nat) (HX : Rd E W ok A n xs) (hA : A = none → n = 0) (A' : Option Addr) (m c : Nat) (HY : Rd E W ok A' m ys)
    (hm : n + m ≤ maxLen) (hb : (n + m) * bytes ≤ 140737488355328) :
    ∃ A1 c1 w1, (Builtin.append_ #[st, st] ty #[.slice A n n, .slice A' m c]).run P W = .ok (.slice A1 (n + m) c1) w1 ∧ n + m ≤ c1 ∧ (A1 = none → n + m = 0) ∧ Rd E w1 (fun k => ok k ∨ (W.heap.size ≤ k ∧ k < w1.heap.size)) A1 (n + m) (xs ++ ys) ∧ Below W.heap.size W w1 := by
  have hxl := HX.len
  have hyl := HY.len
  rcases Nat.eq_zero_or_pos m with h0 | h0
  · subst h0
    obtain rfl : ys = [] := List.eq_nil_of_length_eq_zero hyl
    refine ⟨A, n, W, ?_, Nat.le_refl _, hA, by rw [List.append_nil]; exact HX.mono fun k hk _ => .inl hk, Below.refl _ _⟩
    have hl0 : ∀ ad : Addr, (loadCells ad 0).run P W = .ok #[] W := fun _ => rfl
    cases A' with
    | none =>
      cases A with
      | none => simp [Builtin.append_, run_underlying ht, sizeOf, typeInfo, hi, Builtin.lenOf, Builtin.firstCells]
      | some a0 => simp [Builtin.append_, run_underlying ht, sizeOf, typeInfo, hi, Builtin.lenOf, Builtin.firstCells, storeCells]
    | some ad =>
      cases A with
      | none =>
        have := hA rfl
        subst this
        simp [Builtin.append_, run_underlying ht, sizeOf, typeInfo, hi, Builtin.lenOf, Builtin.firstCells, hl0]
      | some a0 => simp [Builtin.append_, run_underlying ht, sizeOf, typeInfo, hi, Builtin.lenOf, Builtin.firstCells, hl0, storeCells]
  · obtain ⟨b', o', e', _, _, hc'⟩ := HY.2.2 h0
    subst e'
    obtain ⟨wss, k1, k2⟩ := Rd.cells (E := E) hk ys b' o' hc'
    have hnews : ∀ j u, wss.flatten[j]? = some u → W.cell? ((⟨b', o', none⟩ : Addr).add j) = some u := fun j u hu => by rw [addPlain]; exact k2 j u hu
    cases A with
    | none =>
      have := hA rfl
      subst this
      obtain rfl : xs = [] := List.eq_nil_of_length_eq_zero hxl
      obtain ⟨v1, w1, hr, q2, q3, q5⟩ := Own.apps (E := E) (T := T) (P := P) (W := W) st ty i z bytes ht hi hz hsize hby hzs hk (Own.nil E T W ok) HY (fun q _ hq => ⟨hq, by simp [Value.ownBlock]⟩) (by simpa using hm) (by simpa using hb) c
      have hb1 : Below W.heap.size W w1 := (Below.refl _ _).grown q3 (Nat.le_refl _) (fun k hk => by simp [Value.ownBlock] at hk)
      obtain ⟨A1, c1, rfl, hc1, hrd⟩ := q2.rd (by rw [List.nil_append, hyl]; unfold maxLen at hm; omega)
      rw [List.nil_append, hyl] at hr hc1 hrd
      refine ⟨A1, c1, w1, by rw [Nat.zero_add]; exact hr, by omega, fun e => ?_, ?_, hb1⟩
      · obtain ⟨b2, o2, e2, _⟩ := hrd.2.2 h0
        rw [e] at e2
        cases e2
      · rw [Nat.zero_add, List.nil_append]
        exact hrd.mono fun k hk hl => hk.imp_right fun e => ⟨by omega, hl⟩
    | some a0 =>
      have hol : ∃ vss, Cells E W ok vss xs ∧ ∀ j u, vss.flatten[j]? = some u → W.cell? (a0.add j) = some u := by
        rcases Nat.eq_zero_or_pos n with h1 | h1
        · obtain rfl : xs = [] := List.eq_nil_of_length_eq_zero (by omega)
          exact ⟨[], .nil, fun j u h => by simp at h⟩
        · obtain ⟨b, o, e, _, _, hc⟩ := HX.2.2 h1
          injection e with e
          subst e
          obtain ⟨vss, j1, j2⟩ := Rd.cells (E := E) hk xs b o hc
          exact ⟨vss, j1, fun j u hu => by rw [addPlain]; exact j2 j u hu⟩
      obtain ⟨vss, j1, j2⟩ := hol
      obtain ⟨v1, w1, hr, q2, q3⟩ := run_append_arg_grows (P := P) W st ty T i z E.k bytes ht hi hz hsize hby hzs hk a0 n n vss.flatten (by rw [j1.flat, hxl]) j2 ⟨b', o', none⟩ m c wss.flatten (by rw [k1.flat, hyl]) hnews (by omega) hm hb
      have hb1 : Below W.heap.size W w1 := (Below.refl _ _).grown q3 (Nat.le_refl _) (fun k hk => by cases hk)
      rcases q2.2 with ⟨_, h2⟩ | ⟨g, cap, cur, rfl, hgb, hgh, hgn, hgm, hgc, hgt⟩
      · omega
      · have hgl : g < w1.heap.size := (Array.getElem?_eq_some_iff.1 hgh).1
        refine ⟨_, cap, w1, hr, hgn, fun e => (by cases e), ⟨by rw [List.length_append]; omega, by unfold maxLen at hm; omega, fun _ => ⟨g, 0, rfl, .inr ⟨hgb, hgl⟩, hgl, fun j x hx => ?_⟩⟩, hb1⟩
        have hall : Cells E W ok (vss ++ wss) (xs ++ ys) := j1.append k1
        obtain ⟨vs, p1, p2, p3⟩ := hall.at_ j x hx
        rw [List.flatten_append] at p3
        refine ⟨vs, (E.below p2 hb1) |> fun h => E.mono h fun k hk _ => .inl hk, fun r u hu => ?_⟩
        have h5 := World.ownsRow.cells q2 (g := g) rfl (j * E.k + r) u (p3 r u hu)
        rw [addPlain] at h5
        exact h5
end
end Go.Proofs.YthgnjojkncodeaaGreat
