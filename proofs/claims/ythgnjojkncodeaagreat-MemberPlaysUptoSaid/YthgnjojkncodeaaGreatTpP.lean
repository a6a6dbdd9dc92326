/-
  Plain laws: sorted and compacted rows.
-/
import Derived.Test.YthgnjojkncodeaaGreatTp2
namespace Go.Proofs.YthgnjojkncodeaaGreat

theorem pw_range (zs : List Int) (h : zs.Pairwise (· ≤ ·)) (i j : Nat) (hij : i ≤ j) (hj : j < zs.length) : zs.toArray[i]! ≤ zs.toArray[j]! := by
  rcases Nat.eq_or_lt_of_le hij with rfl | hlt
  · exact Int.le_refl _
  · have := List.pairwise_iff_getElem.1 h i j (by omega) hj hlt
    simpa [getElem!_pos, hj, show i < zs.length by omega] using this
theorem compactUpTo_spec (zs : List Int) (h : zs.Pairwise (· ≤ ·)) (m : Nat) (hm : m ≤ zs.length) : (Lib.compactUpTo zs.toArray m).Pairwise (· < ·) ∧
    (∀ x, x ∈ Lib.compactUpTo zs.toArray m ↔ ∃ j, j < m ∧ zs.toArray[j]! = x) := by
  induction m with
  | zero => exact ⟨by simp [Lib.compactUpTo], fun x => by simp [Lib.compactUpTo]⟩
  | succ m ih =>
    obtain ⟨h1, h2⟩ := ih (by omega)
    rw [Lib.compactUpTo_succ]
    have hk : Lib.keeps zs.toArray m = true ↔ m = 0 ∨ zs.toArray[m]! ≠ zs.toArray[m - 1]! := by
      unfold Lib.keeps
      simp
    cases hq : Lib.keeps zs.toArray m with
    | true =>
      rw [if_pos rfl]
      have hlt : ∀ x ∈ Lib.compactUpTo zs.toArray m, x < zs.toArray[m]! := by
        intro x hx
        obtain ⟨j, hj, rfl⟩ := (h2 x).1 hx
        rcases hk.1 hq with h0 | h0
        · omega
        · have a := pw_range zs h j (m - 1) (by omega) (by omega)
          have b := pw_range zs h (m - 1) m (by omega) (by omega)
          omega
      refine ⟨List.pairwise_append.2 ⟨h1, by simp, fun x hx y hy => by
        rw [List.mem_singleton] at hy; subst hy; exact hlt x hx⟩, fun x => ?_⟩
      rw [List.mem_append, h2, List.mem_singleton]
      constructor
      · rintro (⟨j, hj, rfl⟩ | rfl)
        · exact ⟨j, by omega, rfl⟩
        · exact ⟨m, by omega, rfl⟩
      · rintro ⟨j, hj, rfl⟩
        rcases Nat.lt_or_ge j m with h' | h'
        · exact .inl ⟨j, h', rfl⟩
        · obtain rfl : j = m := by omega
          exact .inr rfl
    | false =>
      rw [if_neg (by simp), List.append_nil]
      refine ⟨h1, fun x => ?_⟩
      rw [h2]
      constructor
      · rintro ⟨j, hj, rfl⟩; exact ⟨j, by omega, rfl⟩
      · rintro ⟨j, hj, rfl⟩
        rcases Nat.lt_or_ge j m with h' | h'
        · exact ⟨j, h', rfl⟩
        · obtain rfl : j = m := by omega
          have : ¬ (j = 0 ∨ zs.toArray[j]! ≠ zs.toArray[j - 1]!) := fun e => by rw [hk.2 e] at hq; cases hq
          have h3 : zs.toArray[j]! = zs.toArray[j - 1]! := Classical.byContradiction fun e => this (.inr e)
          have h4 : j ≠ 0 := fun e => this (.inl e)
          exact ⟨j - 1, by omega, h3.symm⟩
theorem compact_spec (zs : List Int) (h : zs.Pairwise (· ≤ ·)) : (Lib.compact zs).Pairwise (· < ·) ∧ ∀ x, x ∈ Lib.compact zs ↔ x ∈ zs := by
  obtain ⟨h1, h2⟩ := compactUpTo_spec zs h zs.length (Nat.le_refl _)
  refine ⟨h1, fun x => ?_⟩
  show x ∈ Lib.compactUpTo zs.toArray zs.length ↔ _
  rw [h2, List.mem_iff_getElem]
  constructor
  · rintro ⟨j, hj, rfl⟩; exact ⟨j, hj, by simp [getElem!_pos, hj]⟩
  · rintro ⟨j, hj, rfl⟩; exact ⟨j, hj, by simp [getElem!_pos, hj]⟩
theorem sortI_spec (zs : List Int) : (sortI zs).Pairwise (· ≤ ·) ∧ ∀ x, x ∈ sortI zs ↔ x ∈ zs := by
  refine ⟨?_, fun x => (List.mergeSort_perm zs leI).mem_iff⟩
  have := List.pairwise_mergeSort (le := leI) (fun a b c h1 h2 => by simp [leI] at *; omega) (fun a b => by simp [leI]; omega) zs
  exact this.imp fun h => by simpa [leI] using h
theorem endsOf_spec (f : Ed → Int × Bool) (es : List Ed) : (endsOf f es).Pairwise (· < ·) ∧ ∀ x, x ∈ endsOf f es ↔ ∃ e ∈ es, (f e).2 = true ∧ (f e).1 = x := by
  have h1 := sortI_spec (picks f es)
  have h2 := compact_spec _ h1.1
  refine ⟨h2.1, fun x => ?_⟩
  show x ∈ Lib.compact (sortI (picks f es)) ↔ _
  rw [h2.2, h1.2]
  unfold picks
  rw [List.mem_filterMap]
  constructor
  · rintro ⟨e, he, h⟩
    cases hq : (f e).2 <;> simp [hq] at h
    exact ⟨e, he, hq, h⟩
  · rintro ⟨e, he, h, rfl⟩
    exact ⟨e, he, by simp [h]⟩
/-- Two rows that rise and have the same members are the same. -/
theorem rise_ext : ∀ (xs ys : List Int), xs.Pairwise (· < ·) → ys.Pairwise (· < ·) → (∀ x, x ∈ xs ↔ x ∈ ys) → xs = ys
  | [], [], _, _, _ => rfl
  | [], y :: ys, _, _, h => absurd ((h y).2 (by simp)) (by simp)
  | x :: xs, [], _, _, h => absurd ((h x).1 (by simp)) (by simp)
  | x :: xs, y :: ys, h1, h2, h => by
    rw [List.pairwise_cons] at h1 h2
    have e : x = y := by
      rcases List.mem_cons.1 ((h x).1 (by simp)) with e | e
      · exact e
      · rcases List.mem_cons.1 ((h y).2 (by simp)) with e2 | e2
        · exact e2.symm
        · have := h2.1 x e; have := h1.1 y e2; omega
    subst e
    rw [rise_ext xs ys h1.2 h2.2 fun z => ?_]
    constructor
    · intro hz
      rcases List.mem_cons.1 ((h z).1 (by simp [hz])) with e | e
      · have := h1.1 z hz; omega
      · exact e
    · intro hz
      rcases List.mem_cons.1 ((h z).2 (by simp [hz])) with e | e
      · have := h2.1 z hz; omega
      · exact e
end Go.Proofs.YthgnjojkncodeaaGreat
