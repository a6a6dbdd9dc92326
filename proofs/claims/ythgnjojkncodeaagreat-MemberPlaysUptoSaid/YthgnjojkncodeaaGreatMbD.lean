/-
  member.copied: a topology in new memory.
-/
import Derived.Test.YthgnjojkncodeaaGreatMbC
import Derived.Deep.RegionLaw
namespace Go.Proofs.YthgnjojkncodeaaGreat
open Go.RowKit
set_option linter.unusedVariables false
set_option linter.unusedSimpArgs false

theorem owns_shape {w : World} {T : TypeId} {b k n : Nat} {v : Value} {us : List Value} (h : w.ownsRow b T k v n us) : ∃ A n' c, v = .slice A n' c := by
  rcases h.2 with ⟨rfl, _⟩ | ⟨g, cap, cur, rfl, _⟩
  · exact ⟨_, _, _, rfl⟩
  · exact ⟨_, _, _, rfl⟩
theorem owns_chg {w w' : World} {T : TypeId} {b k n : Nat} {v : Value} {us : List Value} {S : Nat → Prop} (h : w.ownsRow b T k v n us) (hc : Chg S w w') (hs : ∀ g, v.ownBlock = some g → ¬ S g) : w'.ownsRow b T k v n us := by
  refine ⟨h.1, ?_⟩
  rcases h.2 with h4 | ⟨g, cap, cur, rfl, hb, hg, r⟩
  · exact .inl h4
  · exact .inr ⟨g, cap, cur, rfl, hb, (hc.block g (Array.getElem?_eq_some_iff.1 hg).1 (hs g rfl)).trans hg, r⟩
theorem owns_shape2 {w : World} {T : TypeId} {b k n : Nat} {v : Value} {us : List Value} (h : w.ownsRow b T k v n us) : ∃ A c, v = .slice A n c ∧ n ≤ c := by
  rcases h.2 with ⟨rfl, rfl⟩ | ⟨g, cap, cur, rfl, _, _, hn, _⟩
  · exact ⟨_, _, rfl, Nat.le_refl _⟩
  · exact ⟨_, _, rfl, hn⟩
/-- A topology in memory of its own, from block L on. -/
def TOwn (L : Nat) (w : World) (v : Value) (ep : Int) (up : List Bool) (hops : List (List Ed)) : Prop :=
  ∃ vU vH, v = .agg #[.int .u64 ep, vU, vH] ∧ Own El.bool 4 w (fun k => L ≤ k) vU up ∧ Own elOw 74 w (fun k => L ≤ k ∧ vU.ownBlock ≠ some k) vH hops
def RetTO (w : World) (ep : Int) (up : List Bool) (hops : List (List Ed)) (e : Ending) (w' : World) : Prop := ∃ v, e = .returned v ∧ TOwn w.heap.size w' v ep up hops ∧ Below w.heap.size w w'
/-- Copy's loop: the box at PX; the first i rows are in new memory. -/
structure CSt (w : World) (oH vU vH : Value) (ep : Int) (up : List Bool) (hops : List (List Ed)) (i : Nat) (wr : World) : Prop where
  bel : Below w.heap.size w wr
  box : wr.heap[w.heap.size]? = some (.cells #[.int .u64 ep, vU, oH] 38 (0, 0))
  b0 : wr.heap[w.heap.size + 1]? = some (.cells #[.int .u64 0, .slice none 0 0, .slice none 0 0] 38 (0, 0))
  ru : Own El.bool 4 wr (fun k => vU.ownBlock = some k ∧ w.heap.size + 1 < k) vU up
  rh : ∃ vss : List (List Value), Cells elOw wr (fun k => w.heap.size + 1 < k ∧ vU.ownBlock ≠ some k ∧ vH.ownBlock ≠ some k) (vss.take i) (hops.take i) ∧ Cells elEs wr (fun k => k < w.heap.size) (vss.drop i) (hops.drop i) ∧ wr.ownsRow 0 74 1 vH hops.length vss.flatten ∧ vss.length = hops.length
  bh : ∀ g, vH.ownBlock = some g → w.heap.size + 1 < g ∧ vU.ownBlock ≠ some g
section
variable {w wr w' : World} {i : Nat} {oH vU vH vC : Value} {ep : Int} {up : List Bool} {hops : List (List Ed)} {es : List Ed}
theorem CSt.below (h : CSt w oH vU vH ep up hops i wr) (hb : Below wr.heap.size wr w') : CSt w oH vU vH ep up hops i w' := by
  obtain ⟨vss, h1, h2, h3, h4⟩ := h.rh
  have hk := h.bel.size
  exact ⟨belowThen h.bel h.bel.size hb, (hb.block _ (Array.getElem?_eq_some_iff.1 h.box).1).trans h.box, (hb.block _ (Array.getElem?_eq_some_iff.1 h.b0).1).trans h.b0, h.ru.below hb,
    ⟨vss, h1.keep hb.size fun k _ hl => hb.block k hl, h2.keep hb.size fun k _ hl => hb.block k hl, World.ownsRow.kept h3 (grownOfBelow hb none) (by
      cases e : vH.ownBlock with
      | none => exact .inl rfl
      | some k => exact .inr (fun he => by cases he)), h4⟩, h.bh⟩
/-- A load of the row's i-th element. -/
theorem CSt.at_ (h : CSt w oH vU vH ep up hops i wr) (hi : hops[i]? = some es) : ∃ g cap C p q, vH = .slice (some ⟨g, 0, none⟩) hops.length cap ∧ g < wr.heap.size ∧ wr.cell? ⟨g, i, none⟩ = some (.slice C p q) ∧ wr.frozen? ⟨g, i, none⟩ = false ∧ p ≤ q ∧
    Rd elEd wr (fun k => k < w.heap.size) C p es ∧ g ≠ w.heap.size := by
  obtain ⟨vss, h1, h2, h3, h4⟩ := h.rh
  have hil : i < hops.length := (List.getElem?_eq_some_iff.1 hi).1
  have h3' := h3
  rcases h3.2 with ⟨rfl, h0⟩ | ⟨g, cap, cur, rfl, hb, hg, hn, hmm, hc, ht⟩
  · omega
  · have hd : (hops.drop i)[0]? = some es := by rw [List.getElem?_drop, Nat.add_zero]; exact hi
    obtain ⟨vs, k1, ⟨C, p, q, rfl, hpq, hrd⟩, k3⟩ := h2.at_ 0 es hd
    have hvi : vss[i]? = some [.slice C p q] := by rw [List.getElem?_drop, Nat.add_zero] at k1; exact k1
    have hlen1 : ∀ vs ∈ vss, vs.length = 1 := by
      intro vs hvs
      obtain ⟨j, hj⟩ := List.mem_iff_getElem?.1 hvs
      rcases Nat.lt_or_ge j i with hji | hji
      · exact h1.lens vs (List.mem_of_getElem? (i := j) (by rw [List.getElem?_take, if_pos hji]; exact hj))
      · exact h2.lens vs (List.mem_of_getElem? (i := j - i) (by rw [List.getElem?_drop, show i + (j - i) = j by omega]; exact hj))
    have hfl : vss.flatten[i]? = some (.slice C p q) := by
      have e1 : (vss.take i).flatten.length = i := by
        rw [h1.flat, List.length_take, Nat.min_eq_left (Nat.le_of_lt hil)]; exact Nat.mul_one _
      have e2 := k3 0 (.slice C p q) rfl
      have e3 : vss.flatten = (vss.take i).flatten ++ (vss.drop i).flatten := by rw [← List.flatten_append, List.take_append_drop]
      rw [e3, List.getElem?_append_right (by omega), e1, Nat.sub_self]
      simpa using e2
    have hcell := World.ownsRow.cells h3' (g := g) rfl i _ hfl
    rw [addPlain, Nat.zero_add] at hcell
    exact ⟨g, cap, C, p, q, rfl, (Array.getElem?_eq_some_iff.1 hg).1, hcell, by simp [World.frozen?, hg], hpq, hrd, (by have := (h.bh g rfl).1; omega)⟩
theorem CSt.put {g cap : Nat} (h : CSt w oH vU (.slice (some ⟨g, 0, none⟩) hops.length cap) ep up hops i wr) (hi : hops[i]? = some es)
    (hv : elOw.V wr (fun k => w.heap.size + 1 < k ∧ vU.ownBlock ≠ some k ∧ (Value.slice (some ⟨g, 0, none⟩) hops.length cap).ownBlock ≠ some k) [vC] es) :
    CSt w oH vU (.slice (some ⟨g, 0, none⟩) hops.length cap) ep up hops (i + 1) (wr.setCell ⟨g, i, none⟩ vC) := by
  obtain ⟨vss, h1, h2, h3, h4⟩ := h.rh
  have hil : i < hops.length := (List.getElem?_eq_some_iff.1 hi).1
  have hbh := h.bh g rfl
  have hc := Chg.set wr ⟨g, i, none⟩ vC
  have hlen1 : ∀ vs ∈ vss, vs.length = 1 := by
    intro vs hvs
    obtain ⟨j, hj⟩ := List.mem_iff_getElem?.1 hvs
    rcases Nat.lt_or_ge j i with hji | hji
    · exact h1.lens vs (List.mem_of_getElem? (i := j) (by rw [List.getElem?_take, if_pos hji]; exact hj))
    · exact h2.lens vs (List.mem_of_getElem? (i := j - i) (by rw [List.getElem?_drop, show i + (j - i) = j by omega]; exact hj))
  obtain ⟨vi, hvi⟩ : ∃ vi, vss[i]? = some vi := ⟨_, List.getElem?_eq_getElem (by omega)⟩
  have hvl := hlen1 vi (List.mem_of_getElem? hvi)
  have hset : vi.set 0 vC = [vC] := by
    match vi, hvl with
    | [u], _ => rfl
  refine ⟨hc.below h.bel h.bel.size fun k hk => by have e : k = g := hk; omega, (hc.block _ (Array.getElem?_eq_some_iff.1 h.box).1 fun e => by have e : w.heap.size = g := e; omega).trans h.box,
    (hc.block _ (Array.getElem?_eq_some_iff.1 h.b0).1 fun e => by have e : w.heap.size + 1 = g := e; omega).trans h.b0, h.ru.chg hc fun k hk hS e => ?_, ⟨vss.set i [vC], ?_, ?_, ?_, by rw [List.length_set]; exact h4⟩, h.bh⟩
  · have e : k = g := e
    exact hbh.2 (by rw [hS.1, e])
  · have e1 : (vss.set i [vC]).take (i + 1) = vss.take i ++ [[vC]] := by
      have hiv : i < vss.length := by omega
      rw [List.take_succ_eq_append_getElem (by rw [List.length_set]; exact hiv), List.getElem_set_self, List.take_set_of_le (Nat.le_refl _)]
    have e2 : hops.take (i + 1) = hops.take i ++ [es] := by
      rw [List.take_succ_eq_append_getElem hil]
      have : hops[i] = es := by rw [List.getElem?_eq_getElem hil] at hi; injection hi
      rw [this]
    rw [e1, e2]
    refine (h1.snoc hv).keep hc.size fun k hk hl => hc.block k hl fun e => ?_
    have e : k = g := e
    exact hk.2.2 (by rw [e]; rfl)
  · have e1 : (vss.set i [vC]).drop (i + 1) = vss.drop (i + 1) := List.drop_set_of_lt (by omega)
    have h2' := h2.drop 1
    rw [List.drop_drop, List.drop_drop] at h2'
    rw [e1]
    exact h2'.keep hc.size fun k hk hl => hc.block k hl fun e => by have e : k = g := e; omega
  · have hs := World.ownsRow.stored h3 (i * 1 + 0) vC
    rw [flatten_set 1 vss hlen1 i 0 vi vC hvi (by omega), hset] at hs
    have hs2 := hs.1
    rw [Nat.mul_one, Nat.add_zero] at hs2
    exact hs2
end
theorem CSt.start {w w2 wu wx wh : World} {oH vU vH : Value} {ep : Int} {up : List Bool} {hops : List (List Ed)} {usU usH : List (List Value)} {okU : Nat → Prop}
    (hs2 : w2.heap.size = w.heap.size + 2) (b2 : Below w.heap.size w w2) (BU : Below w2.heap.size w2 wu) (hcx : Chg (fun k => k = w.heap.size) wu wx) (BH : Below wx.heap.size wx wh)
    (hqU : Cells El.bool wu okU usU up) (hoU : wu.ownsRow 0 4 El.bool.k vU up.length usU.flatten) (hgU : ∀ g, vU.ownBlock = some g → w2.heap.size ≤ g)
    (hqH : Cells elEs wh (fun k => k < w.heap.size) usH hops) (hoH : wh.ownsRow 0 74 elEs.k vH hops.length usH.flatten) (hgH : ∀ g, vH.ownBlock = some g → wx.heap.size ≤ g)
    (hbox : wx.heap[w.heap.size]? = some (.cells #[.int .u64 ep, vU, oH] 38 (0, 0)))
    (hb0 : wx.heap[w.heap.size + 1]? = some (.cells #[.int .u64 0, .slice none 0 0, .slice none 0 0] 38 (0, 0))) : CSt w oH vU vH ep up hops 0 wh := by
  have h1 := BU.size
  have h2 := BH.size
  have h3 := hcx.size
  have hbx : Below w.heap.size w wx := hcx.below (belowThen b2 b2.size BU) (by omega) fun k hk => by omega
  refine ⟨belowThen hbx hbx.size BH, (BH.block _ (Array.getElem?_eq_some_iff.1 hbox).1).trans hbox, (BH.block _ (Array.getElem?_eq_some_iff.1 hb0).1).trans hb0, ?_, ⟨usH, ?_, ?_, hoH, hqH.length⟩, fun g hg => ⟨by have := hgH g hg; omega, fun e => ?_⟩⟩
  · refine ((Own.ofParts (S := fun k => vU.ownBlock = some k ∧ w.heap.size + 1 < k) (ok := fun _ => False) (hqU.flatten_ flat_bool) hoU (fun k _ h => h.elim) fun g hg => ⟨hg, by have := hgU g hg; omega⟩).chg hcx fun k _ hk e => ?_).below BH
    have e : k = w.heap.size := e
    omega
  · rw [List.take_zero, List.take_zero]; exact .nil
  · rw [List.drop_zero, List.drop_zero]; exact hqH
  · have hl := (hoU.lt g e).2
    have := hgH g hg
    omega
theorem CSt.done {w wr w5 : World} {N : Nat} {oH vU vH : Value} {ep : Int} {up : List Bool} {hops : List (List Ed)} (h : CSt w oH vU vH ep up hops N wr) (hN : hops.length ≤ N) (hc : Chg (fun k => k = w.heap.size ∨ k = w.heap.size + 1) wr w5) :
    TOwn w.heap.size w5 (.agg #[.int .u64 ep, vU, vH]) ep up hops ∧ Below w.heap.size w w5 := by
  obtain ⟨vss, h1, h2, h3, h4⟩ := h.rh
  rw [List.take_of_length_le (by omega), List.take_of_length_le hN] at h1
  refine ⟨⟨vU, vH, rfl, (h.ru.chg hc fun k _ hk e => by omega).mono fun k _ hk => by omega, ?_⟩, hc.below h.bel h.bel.size fun k hk => by omega⟩
  refine Own.ofParts (E := elOw) (ok := fun k => w.heap.size + 1 < k ∧ vU.ownBlock ≠ some k ∧ vH.ownBlock ≠ some k) (h1.keep hc.size fun k hk hl => hc.block k hl fun e => by omega) (owns_chg h3 hc fun g hg e => by have := (h.bh g hg).1; omega)
    (fun k _ hk => ⟨⟨by omega, hk.2.1⟩, fun e => hk.2.2 e.symm⟩) fun g hg => ⟨by have := (h.bh g hg).1; omega, (h.bh g hg).2⟩
end Go.Proofs.YthgnjojkncodeaaGreat
