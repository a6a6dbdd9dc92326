/-
  topo.Copy.
-/
import Derived.Test.YtgfnlfkbbedkaaaTpC
namespace Go.Proofs.Ytgfnlfkbbedkaaa
open Go.RowKit
set_option linter.unusedVariables false

/-- A topology in memory of its own, from block L on. -/
def TOwn (L : Nat) (w : World) (v : Value) (ep : Int) (up : List Bool) (hops : List (List Ed)) : Prop :=
  ∃ vU vH, v = .agg #[.int .u64 ep, vU, vH] ∧ Own El.bool 4 w (fun k => L ≤ k) vU up ∧ Own elOw 39 w (fun k => L ≤ k ∧ vU.ownBlock ≠ some k) vH hops
def RetTO (w : World) (ep : Int) (up : List Bool) (hops : List (List Ed)) (e : Ending) (w' : World) : Prop := ∃ v, e = .returned v ∧ TOwn w.heap.size w' v ep up hops ∧ Below w.heap.size w w'
/-- Copy's loop: the box at PX; the first i rows are in new memory. -/
structure CSt (w : World) (PX : Nat) (vU vH : Value) (ep : Int) (up : List Bool) (hops : List (List Ed)) (i : Nat) (wr : World) : Prop where
  bel : Below w.heap.size w wr
  px : w.heap.size + 1 < PX
  box : wr.heap[PX]? = some (.cells #[.int .u64 ep, vU, vH] 27 (0, 0))
  b0 : wr.heap[w.heap.size + 1]? = some (.cells #[.int .u64 0, .slice none 0 0, .slice none 0 0] 27 (0, 0))
  ru : Own El.bool 4 wr (fun k => vU.ownBlock = some k ∧ w.heap.size + 1 < k ∧ k ≠ PX) vU up
  rh : ∃ vss : List (List Value), Cells elOw wr (fun k => w.heap.size + 1 < k ∧ k ≠ PX ∧ vU.ownBlock ≠ some k ∧ vH.ownBlock ≠ some k) (vss.take i) (hops.take i) ∧ Cells elEs wr (fun k => k < w.heap.size) (vss.drop i) (hops.drop i) ∧ wr.ownsRow 0 39 1 vH hops.length vss.flatten ∧ vss.length = hops.length
  bh : ∀ g, vH.ownBlock = some g → w.heap.size + 1 < g ∧ g ≠ PX ∧ vU.ownBlock ≠ some g
section
variable {w wr w' : World} {PX i : Nat} {vU vH vC : Value} {ep : Int} {up : List Bool} {hops : List (List Ed)} {es : List Ed}
theorem CSt.below (h : CSt w PX vU vH ep up hops i wr) (hb : Below wr.heap.size wr w') : CSt w PX vU vH ep up hops i w' := by
  obtain ⟨vss, h1, h2, h3, h4⟩ := h.rh
  have hk := h.bel.size
  exact ⟨belowThen h.bel h.bel.size hb, h.px, (hb.block _ (Array.getElem?_eq_some_iff.1 h.box).1).trans h.box, (hb.block _ (Array.getElem?_eq_some_iff.1 h.b0).1).trans h.b0, h.ru.below hb,
    ⟨vss, h1.keep hb.size fun k _ hl => hb.block k hl, h2.keep hb.size fun k _ hl => hb.block k hl, World.ownsRow.kept h3 (grownOfBelow hb none) (by
      cases e : vH.ownBlock with
      | none => exact .inl rfl
      | some k => exact .inr (fun he => by cases he)), h4⟩, h.bh⟩
/-- A load of the row's i-th element. -/
theorem CSt.at_ (h : CSt w PX vU vH ep up hops i wr) (hi : hops[i]? = some es) : ∃ g cap C p q, vH = .slice (some ⟨g, 0, none⟩) hops.length cap ∧ g < wr.heap.size ∧ wr.cell? ⟨g, i, none⟩ = some (.slice C p q) ∧ wr.frozen? ⟨g, i, none⟩ = false ∧ p ≤ q ∧
    Rd elEd wr (fun k => k < w.heap.size) C p es ∧ g ≠ PX := by
  obtain ⟨vss, h1, h2, h3, h4⟩ := h.rh
  have hil : i < hops.length := (List.getElem?_eq_some_iff.1 hi).1
  have h3' := h3
  rcases h3.2 with ⟨rfl, h0⟩ | ⟨g, cap, cur, rfl, hb, hg, hn, hmm, hc, ht⟩
  · omega
  · have hd : (hops.drop i)[0]? = some es := by rw [List.getElem?_drop, Nat.add_zero]; exact hi
    obtain ⟨vs, k1, ⟨C, p, q, rfl, hpq, hrd⟩, k3⟩ := h2.at_ 0 es hd
    have hvi : vss[i]? = some [.slice C p q] := by rw [List.getElem?_drop, Nat.add_zero] at k1; exact k1
    have hlen1 : ∀ vs ∈ vss, vs.length = 1 := by
      intro vs hvs
      obtain ⟨j, hj⟩ := List.mem_iff_getElem?.1 hvs
      rcases Nat.lt_or_ge j i with hji | hji
      · exact h1.lens vs (List.mem_of_getElem? (i := j) (by rw [List.getElem?_take, if_pos hji]; exact hj))
      · exact h2.lens vs (List.mem_of_getElem? (i := j - i) (by rw [List.getElem?_drop, show i + (j - i) = j by omega]; exact hj))
    have hfl : vss.flatten[i]? = some (.slice C p q) := by
      have e1 : (vss.take i).flatten.length = i := by
        rw [h1.flat, List.length_take, Nat.min_eq_left (Nat.le_of_lt hil)]; exact Nat.mul_one _
      have e2 := k3 0 (.slice C p q) rfl
      have e3 : vss.flatten = (vss.take i).flatten ++ (vss.drop i).flatten := by rw [← List.flatten_append, List.take_append_drop]
      rw [e3, List.getElem?_append_right (by omega), e1, Nat.sub_self]
      simpa using e2
    have hcell := World.ownsRow.cells h3' (g := g) rfl i _ hfl
    rw [addPlain, Nat.zero_add] at hcell
    exact ⟨g, cap, C, p, q, rfl, (Array.getElem?_eq_some_iff.1 hg).1, hcell, by simp [World.frozen?, hg], hpq, hrd, (h.bh g rfl).2.1⟩
theorem CSt.put {g cap : Nat} (h : CSt w PX vU (.slice (some ⟨g, 0, none⟩) hops.length cap) ep up hops i wr) (hi : hops[i]? = some es)
    (hv : elOw.V wr (fun k => w.heap.size + 1 < k ∧ k ≠ PX ∧ vU.ownBlock ≠ some k ∧ (Value.slice (some ⟨g, 0, none⟩) hops.length cap).ownBlock ≠ some k) [vC] es) :
    CSt w PX vU (.slice (some ⟨g, 0, none⟩) hops.length cap) ep up hops (i + 1) (wr.setCell ⟨g, i, none⟩ vC) := by
  obtain ⟨vss, h1, h2, h3, h4⟩ := h.rh
  have hil : i < hops.length := (List.getElem?_eq_some_iff.1 hi).1
  have hbh := h.bh g rfl
  have hc := Chg.set wr ⟨g, i, none⟩ vC
  have hlen1 : ∀ vs ∈ vss, vs.length = 1 := by
    intro vs hvs
    obtain ⟨j, hj⟩ := List.mem_iff_getElem?.1 hvs
    rcases Nat.lt_or_ge j i with hji | hji
    · exact h1.lens vs (List.mem_of_getElem? (i := j) (by rw [List.getElem?_take, if_pos hji]; exact hj))
    · exact h2.lens vs (List.mem_of_getElem? (i := j - i) (by rw [List.getElem?_drop, show i + (j - i) = j by omega]; exact hj))
  obtain ⟨vi, hvi⟩ : ∃ vi, vss[i]? = some vi := ⟨_, List.getElem?_eq_getElem (by omega)⟩
  have hvl := hlen1 vi (List.mem_of_getElem? hvi)
  have hset : vi.set 0 vC = [vC] := by
    match vi, hvl with
    | [u], _ => rfl
  refine ⟨hc.below h.bel h.bel.size fun k hk => by have e : k = g := hk; omega, h.px, (hc.block _ (Array.getElem?_eq_some_iff.1 h.box).1 fun e => by have e : PX = g := e; omega).trans h.box,
    (hc.block _ (Array.getElem?_eq_some_iff.1 h.b0).1 fun e => by have e : w.heap.size + 1 = g := e; omega).trans h.b0, h.ru.chg hc fun k hk hS e => ?_, ⟨vss.set i [vC], ?_, ?_, ?_, by rw [List.length_set]; exact h4⟩, h.bh⟩
  · have e : k = g := e
    exact hbh.2.2 (by rw [hS.1, e])
  · have e1 : (vss.set i [vC]).take (i + 1) = vss.take i ++ [[vC]] := by
      have hiv : i < vss.length := by omega
      rw [List.take_succ_eq_append_getElem (by rw [List.length_set]; exact hiv), List.getElem_set_self, List.take_set_of_le (Nat.le_refl _)]
    have e2 : hops.take (i + 1) = hops.take i ++ [es] := by
      rw [List.take_succ_eq_append_getElem hil]
      have : hops[i] = es := by rw [List.getElem?_eq_getElem hil] at hi; injection hi
      rw [this]
    rw [e1, e2]
    refine (h1.snoc hv).keep hc.size fun k hk hl => hc.block k hl fun e => ?_
    have e : k = g := e
    exact hk.2.2.2 (by rw [e]; rfl)
  · have e1 : (vss.set i [vC]).drop (i + 1) = vss.drop (i + 1) := List.drop_set_of_lt (by omega)
    have h2' := h2.drop 1
    rw [List.drop_drop, List.drop_drop] at h2'
    rw [e1]
    exact h2'.keep hc.size fun k hk hl => hc.block k hl fun e => by have e : k = g := e; omega
  · have hs := World.ownsRow.stored h3 (i * 1 + 0) vC
    rw [flatten_set 1 vss hlen1 i 0 vi vC hvi (by omega), hset] at hs
    have hs2 := hs.1
    rw [Nat.mul_one, Nat.add_zero] at hs2
    exact hs2
end
end Go.Proofs.Ytgfnlfkbbedkaaa
