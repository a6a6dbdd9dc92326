/-
  Four copies of a topology into four new boxes: one region that draws its order. Whatever the order, each box and each copy has blocks of its own.
-/
import Derived.Test.YtgfnlfkbbedkaaaTpX
import Derived.Deep.CutBlock
namespace Go.Proofs.Ytgfnlfkbbedkaaa
open Go.RowKit
set_option linter.unusedVariables false
set_option linter.unusedSimpArgs false

/-- A topology in memory of its own, in the blocks from L up to U. -/
def TOwnR (L U : Nat) (w : World) (v : Value) (ep : Int) (up : List Bool) (hops : List (List Ed)) : Prop :=
  ∃ vU vH, v = .agg #[.int .u64 ep, vU, vH] ∧ Own El.bool 4 w (fun k => L ≤ k ∧ k < U) vU up ∧ Own elOw 39 w (fun k => (L ≤ k ∧ k < U) ∧ vU.ownBlock ≠ some k) vH hops
theorem TOwn.range {L : Nat} {w : World} {v : Value} {ep : Int} {up : List Bool} {hops : List (List Ed)} (h : TOwn L w v ep up hops) : TOwnR L w.heap.size w v ep up hops := by
  obtain ⟨vU, vH, rfl, h1, h2⟩ := h
  exact ⟨vU, vH, rfl, h1.mono fun k hl hk => ⟨hk, hl⟩, h2.mono fun k hl hk => ⟨⟨hk.1, hl⟩, hk.2⟩⟩
theorem TOwnR.below {L U : Nat} {w w' : World} {v : Value} {ep : Int} {up : List Bool} {hops : List (List Ed)} (h : TOwnR L U w v ep up hops) (hb : Below w.heap.size w w') : TOwnR L U w' v ep up hops := by
  obtain ⟨vU, vH, rfl, h1, h2⟩ := h
  exact ⟨vU, vH, rfl, h1.below hb, h2.below hb⟩
abbrev Rng := Nat → Option (Nat × Nat)
def upd (r : Rng) (i : Nat) (p : Nat × Nat) : Rng := fun k => if k = i then some p else r k
def updV (f : Nat → Value) (i : Nat) (v : Value) : Nat → Value := fun k => if k = i then v else f k
def rdL (d : Nat → Bool) : List Nat :=
  (if d 0 then (if d 1 then (if d 2 then (if d 3 then [] else [7]) else [5]) else [3]) else [1]) ++ (if d 4 then [] else [8]) ++ (if d 5 then [] else [9]) ++ (if d 6 then [] else [10]) ++ (if d 7 then [] else [11]) ++
    (if d 0 && d 1 && d 2 && d 3 && d 4 && d 5 && d 6 && d 7 then [12] else [])
def todoB (d : Nat → Bool) : Nat := (!d 0).toNat + (!d 1).toNat + (!d 2).toNat + (!d 3).toNat + (!d 4).toNat + (!d 5).toNat + (!d 6).toNat + (!d 7).toNat
def lstB (d : Nat → Bool) : Array Bool := #[true, d 0, true, d 1, true, d 2, true, d 3, d 4, d 5, d 6, d 7, false, false, false, false]
def monoB (d : Nat → Bool) : Prop := (d 1 = true → d 0 = true) ∧ (d 2 = true → d 1 = true) ∧ (d 3 = true → d 2 = true)
def setB (d : Nat → Bool) (i : Nat) : Nat → Bool := fun k => if k = i then true else d k
theorem rdL_mem {d : Nat → Bool} (hd : monoB d) (ht : todoB d ≠ 0) {i : Nat} (hi : i ∈ rdL d) : ∃ k, k < 8 ∧ d k = false ∧ monoB (setB d k) ∧ todoB d = todoB (setB d k) + 1 ∧ (lstB d).setIfInBounds i true = lstB (setB d k) ∧
    ((k < 4 ∧ i = 2 * k + 1) ∨ (4 ≤ k ∧ i = 4 + k)) := by
  have key : ∀ k, k < 8 → d k = false → monoB (setB d k) → i = (if k < 4 then 2 * k + 1 else 4 + k) → ∃ k, k < 8 ∧ d k = false ∧ monoB (setB d k) ∧ todoB d = todoB (setB d k) + 1 ∧ (lstB d).setIfInBounds i true = lstB (setB d k) ∧ ((k < 4 ∧ i = 2 * k + 1) ∨ (4 ≤ k ∧ i = 4 + k)) := by
    intro k hk hdk hm he
    refine ⟨k, hk, hdk, hm, ?_, ?_, ?_⟩
    · unfold todoB setB
      match k, hk with
      | 0, _ | 1, _ | 2, _ | 3, _ | 4, _ | 5, _ | 6, _ | 7, _ => simp [hdk]; try omega
    · subst he
      match k, hk with
      | 0, _ | 1, _ | 2, _ | 3, _ | 4, _ | 5, _ | 6, _ | 7, _ => rfl
    · by_cases h4 : k < 4
      · rw [if_pos h4] at he; exact .inl ⟨h4, he⟩
      · rw [if_neg h4] at he; exact .inr ⟨by omega, he⟩
  unfold monoB at hd
  unfold rdL at hi
  unfold todoB at ht
  generalize e0 : d 0 = b0 at *
  generalize e1 : d 1 = b1 at *
  generalize e2 : d 2 = b2 at *
  generalize e3 : d 3 = b3 at *
  generalize e4 : d 4 = b4 at *
  generalize e5 : d 5 = b5 at *
  generalize e6 : d 6 = b6 at *
  generalize e7 : d 7 = b7 at *
  have hm : ∀ k, 4 ≤ k → monoB (setB d k) := fun k hk => by
    unfold monoB setB
    rw [if_neg (by omega), if_neg (by omega), if_neg (by omega), if_neg (by omega), e0, e1, e2, e3]
    exact hd
  simp only [List.mem_append] at hi
  rcases hi with ((((hi | hi) | hi) | hi) | hi) | hi
  · cases b0 with
    | false =>
      simp at hi
      refine key 0 (by omega) e0 ?_ (by simp [hi])
      unfold monoB setB
      simp [e1, e2, e3]
      clear key hm hi ht e0 e1 e2 e3 e4 e5 e6 e7
      revert hd
      cases b1 <;> cases b2 <;> cases b3 <;> simp
    | true =>
      cases b1 with
      | false =>
        simp at hi
        refine key 1 (by omega) e1 ?_ (by simp [hi])
        unfold monoB setB
        simp [e0, e2, e3]
        clear key hm hi ht e0 e1 e2 e3 e4 e5 e6 e7
        revert hd
        cases b2 <;> cases b3 <;> simp
      | true =>
        cases b2 with
        | false =>
          simp at hi
          refine key 2 (by omega) e2 ?_ (by simp [hi])
          unfold monoB setB
          simp [e0, e1, e3]
        | true =>
          cases b3 with
          | false =>
            simp at hi
            refine key 3 (by omega) e3 ?_ (by simp [hi])
            unfold monoB setB
            simp [e0, e1, e2]
          | true => simp at hi
  · cases b4 <;> simp at hi
    exact key 4 (by omega) e4 (hm 4 (by omega)) (by simp [hi])
  · cases b5 <;> simp at hi
    exact key 5 (by omega) e5 (hm 5 (by omega)) (by simp [hi])
  · cases b6 <;> simp at hi
    exact key 6 (by omega) e6 (hm 6 (by omega)) (by simp [hi])
  · cases b7 <;> simp at hi
    exact key 7 (by omega) e7 (hm 7 (by omega)) (by simp [hi])
  · exfalso
    cases b0 <;> cases b1 <;> cases b2 <;> cases b3 <;> cases b4 <;> cases b5 <;> cases b6 <;> cases b7 <;> simp at hi ht
theorem rdL_ne {d : Nat → Bool} (ht : todoB d ≠ 0) : rdL d ≠ [] := by
  unfold rdL
  unfold todoB at ht
  generalize d 0 = b0 at *
  generalize d 1 = b1 at *
  generalize d 2 = b2 at *
  generalize d 3 = b3 at *
  generalize d 4 = b4 at *
  generalize d 5 = b5 at *
  generalize d 6 = b6 at *
  generalize d 7 = b7 at *
  cases b0 <;> cases b1 <;> cases b2 <;> cases b3 <;> cases b4 <;> cases b5 <;> cases b6 <;> cases b7 <;> simp at ht ⊢
def dn (r : Rng) : Nat → Bool := fun k => (r k).isSome
theorem dn_upd (r : Rng) (k : Nat) (p : Nat × Nat) : dn (upd r k p) = setB (dn r) k := by
  funext x
  unfold dn upd setB
  by_cases h : x = k
  · rw [if_pos h, if_pos h]; rfl
  · rw [if_neg h, if_neg h]
end Go.Proofs.Ytgfnlfkbbedkaaa
