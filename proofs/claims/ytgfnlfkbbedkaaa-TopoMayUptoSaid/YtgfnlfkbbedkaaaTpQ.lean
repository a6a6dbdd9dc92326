/-
  Plain laws: places in an order; nodes between 0 and 9.
-/
import Derived.Test.YtgfnlfkbbedkaaaTpT
namespace Go.Proofs.Ytgfnlfkbbedkaaa
open Go.RowKit

/-- Where a number stands in a row; -1, if it doesn't. -/
def posI (l : List Int) (n : Nat) : Int := if (n : Int) ∈ l then (l.idxOf (n : Int) : Int) else -1
def atc (l : List Int) : List Value := (List.range 10).map fun n => .int .i64 (posI l n)
theorem posI_no {l : List Int} {n : Nat} (h : (n : Int) ∉ l) : posI l n = -1 := by unfold posI; rw [if_neg h]
theorem posI_yes {l : List Int} {n : Nat} (h : (n : Int) ∈ l) : 0 ≤ posI l n := by unfold posI; rw [if_pos h]; omega
theorem posI_lt (l : List Int) (n : Nat) : posI l n < l.length + 1 := by
  unfold posI
  split
  · have := List.idxOf_lt_length_of_mem ‹_›; omega
  · omega
theorem posI_lo (l : List Int) (n : Nat) : -1 ≤ posI l n := by
  unfold posI
  split <;> omega
theorem posI_at {l : List Int} (hn : l.Nodup) {i : Nat} {n : Nat} (h : l[i]? = some (n : Int)) : posI l n = (i : Int) := by
  have hi := (List.getElem?_eq_some_iff.1 h).1
  have e : l[i] = (n : Int) := by rw [List.getElem?_eq_getElem hi] at h; injection h
  unfold posI
  rw [if_pos (List.mem_of_getElem? h), ← e, List.Nodup.idxOf_getElem hn]
theorem atc_get (l : List Int) (n : Nat) (h : n < 10) : (atc l)[n]? = some (.int .i64 (posI l n)) := by
  unfold atc
  rw [List.getElem?_map, List.getElem?_range h]; rfl
theorem atc_length (l : List Int) : (atc l).length = 10 := by simp [atc]
theorem atc_nil : atc [] = List.replicate 10 (.int .i64 (-1)) := by
  unfold atc
  have : ∀ n : Nat, posI [] n = -1 := fun n => posI_no (by simp)
  simp only [this]
  rfl
theorem atc_step {l : List Int} (hn : l.Nodup) {i : Nat} {v : Nat} (h : l[i]? = some (v : Int)) (hv : v < 10) : (atc (l.take i)).set v (.int .i64 (i : Int)) = atc (l.take (i + 1)) := by
  have hi := (List.getElem?_eq_some_iff.1 h).1
  have e : l[i] = (v : Int) := by rw [List.getElem?_eq_getElem hi] at h; injection h
  have hno : (v : Int) ∉ l.take i := by
    intro hm
    rw [List.mem_take_iff_getElem] at hm
    obtain ⟨j, hj, e2⟩ := hm
    have := (List.getElem_inj hn).1 (e2.trans e.symm)
    omega
  have hs : l.take (i + 1) = l.take i ++ [(v : Int)] := by rw [List.take_succ_eq_append_getElem hi, e]
  refine List.ext_getElem? fun n => ?_
  rcases Nat.lt_or_ge n 10 with hn10 | hn10
  · rw [atc_get _ n hn10, List.getElem?_set, atc_length]
    by_cases hvn : v = n
    · subst hvn
      rw [if_pos rfl, if_pos hn10]
      congr 2
      rw [hs]
      unfold posI
      rw [if_pos (by simp), List.idxOf_append, if_neg hno]
      simp [Nat.min_eq_left (Nat.le_of_lt hi)]
    · rw [if_neg hvn, atc_get _ n hn10]
      congr 2
      rw [hs]
      unfold posI
      have hne : (n : Int) ≠ (v : Int) := by omega
      by_cases hm : (n : Int) ∈ l.take i
      · rw [if_pos hm, if_pos (List.mem_append_left _ hm), List.idxOf_append, if_pos hm]
      · rw [if_neg hm, if_neg (by simp [hm, hne])]
  · rw [List.getElem?_eq_none (by simp [atc_length]; omega), List.getElem?_eq_none (by rw [atc_length]; omega)]
theorem take_no {l : List Int} (hn : l.Nodup) {i : Nat} {v : Int} (h : l[i]? = some v) : v ∉ l.take i := by
  have hi := (List.getElem?_eq_some_iff.1 h).1
  have e : l[i] = v := by rw [List.getElem?_eq_getElem hi] at h; injection h
  intro hm
  rw [List.mem_take_iff_getElem] at hm
  obtain ⟨j, hj, e2⟩ := hm
  have := (List.getElem_inj hn).1 (e2.trans e.symm)
  omega
theorem edgesB_in {l : List (Nat × Nat)} {a b : Int} (h : (a, b) ∈ edgesB l) : 0 ≤ a ∧ a ≤ 9 ∧ 0 ≤ b ∧ b ≤ 9 := by
  unfold edgesB at h
  obtain ⟨p, _, e⟩ := List.mem_map.1 h
  injection e with e1 e2
  omega
theorem reach_in {l : List (Nat × Nat)} {a b : Int} (h : Reaches (edgesB l) a b) : 0 ≤ a ∧ a ≤ 9 ∧ 0 ≤ b ∧ b ≤ 9 := by
  induction h with
  | one h => exact edgesB_in h
  | more _ h ih => have := edgesB_in h; omega
/-- An order of edges between ten nodes. -/
structure Ord10 (es : List Ed) (o : List Int) : Prop where
  nd : o.Nodup
  rng : ∀ x ∈ o, 0 ≤ x ∧ x ≤ 9
  mem : ∀ x, x ∈ o ↔ ∃ y, (x, y) ∈ es ∨ (y, x) ∈ es
  fwd : ∀ a b : Nat, ((a : Int), (b : Int)) ∈ es → posI o a < posI o b
  cons : ∀ (i : Nat) (m x : Int), o[i]? = some m → o[i + 1]? = some x → ¬ m < x → (m, x) ∈ es
theorem ord10 {l : List (Nat × Nat)} {o : List Int} (h : orderOf (edgesB l) = some o) : Ord10 (edgesB l) o := by
  have hi := order_some h
  have hmem : ∀ x, x ∈ o ↔ ∃ y, (x, y) ∈ edgesB l ∨ (y, x) ∈ edgesB l := by
    intro x
    have h1 := hi.mem x
    have h2 := (nodes_spec (edgesB l)).2 x
    constructor
    · intro hx
      obtain ⟨⟨a, b⟩, he, h3⟩ := h2.1 (h1.1 (.inl hx))
      rcases h3 with rfl | rfl
      · exact ⟨b, .inl he⟩
      · exact ⟨a, .inr he⟩
    · rintro ⟨y, hy⟩
      have : x ∈ nodesOf (edgesB l) := h2.2 (hy.elim (fun hy => ⟨_, hy, .inl rfl⟩) fun hy => ⟨_, hy, .inr rfl⟩)
      rcases h1.2 this with h4 | h4
      · exact h4
      · simp at h4
  have hnd : o.Nodup := by simpa using hi.nd
  refine ⟨hnd, fun x hx => ?_, hmem, fun a b hab => ?_, fun i m x hm hx hlt => ?_⟩
  · obtain ⟨y, hy | hy⟩ := (hmem x).1 hx
    · have := edgesB_in hy; omega
    · have := edgesB_in hy; omega
  · obtain ⟨i, hil, e⟩ := List.mem_iff_getElem.1 ((hmem (b : Int)).2 ⟨_, .inr hab⟩)
    have hb : o[i]? = some (b : Int) := by rw [List.getElem?_eq_getElem hil, e]
    obtain ⟨j, hj, ha⟩ := hi.fwd i _ hb _ hab
    rw [posI_at hnd ha, posI_at hnd hb]
    omega
  · have hne : m ≠ x := by
      intro e
      subst e
      have h1 := (List.getElem?_eq_some_iff.1 hm).1
      have h2 := (List.getElem?_eq_some_iff.1 hx).1
      rw [List.getElem?_eq_getElem h1] at hm
      rw [List.getElem?_eq_getElem h2] at hx
      have := (List.getElem_inj hnd).1 ((Option.some.inj hm).trans (Option.some.inj hx).symm)
      omega
    exact hi.cons i m x hm hx (by omega)
end Go.Proofs.Ytgfnlfkbbedkaaa
