/-
  Four copies of a topology into four new boxes, in whatever order: the walk.
-/
import Derived.Test.YtgfnlfkbbedkaaaTpG
namespace Go.Proofs.Ytgfnlfkbbedkaaa
open Go.RowKit
set_option linter.unusedVariables false
set_option linter.unusedSimpArgs false

structure St4 (w0 : World) (ep : Int) (up : List Bool) (hops : List (List Ed)) (r : Rng) (vs : Nat → Value) (w : World) : Prop where
  bel : Below w0.heap.size w0 w
  rng : ∀ i p, r i = some p → w0.heap.size ≤ p.1 ∧ p.1 ≤ p.2 ∧ p.2 ≤ w.heap.size
  dis : ∀ i j p q, i ≠ j → r i = some p → r j = some q → p.2 ≤ q.1 ∨ q.2 ≤ p.1
  cop : ∀ i p, i < 4 → r i = some p → TOwnR p.1 p.2 w (vs i) ep up hops
  box : ∀ i p, 4 ≤ i → r i = some p → ZBox w p.1 ∧ p.2 = p.1 + 1
theorem upd_same (r : Rng) (i : Nat) (p : Nat × Nat) : upd r i p i = some p := if_pos rfl
theorem upd_other (r : Rng) {i k : Nat} (p : Nat × Nat) (h : k ≠ i) : upd r i p k = r k := if_neg h
section
variable {w0 w w' : World} {ep : Int} {up : List Bool} {hops : List (List Ed)} {r : Rng} {vs : Nat → Value} {i : Nat} {v : Value}
theorem St4.start (w0 : World) (ep : Int) (up : List Bool) (hops : List (List Ed)) (vs : Nat → Value) : St4 w0 ep up hops (fun _ => none) vs w0 :=
  ⟨Below.refl _ _, (fun _ _ h => nomatch h), (fun _ _ _ _ _ h => nomatch h), (fun _ _ _ h => nomatch h), fun _ _ _ h => nomatch h⟩
theorem St4.grow (h : St4 w0 ep up hops r vs w) (hb : Below w.heap.size w w') {vs' : Nat → Value} (hv : ∀ k p, k ≠ i → r k = some p → vs' k = vs k)
    (hc : i < 4 → TOwnR w.heap.size w'.heap.size w' (vs' i) ep up hops) (hx : 4 ≤ i → ZBox w' w.heap.size ∧ w'.heap.size = w.heap.size + 1) :
    St4 w0 ep up hops (upd r i (w.heap.size, w'.heap.size)) vs' w' := by
  have hs := hb.size
  have hs0 := h.bel.size
  refine ⟨belowThen h.bel h.bel.size hb, fun k p hk => ?_, fun k j p q hkj hk hj => ?_, fun k p h4 hk => ?_, fun k p h4 hk => ?_⟩
  · by_cases e : k = i
    · subst e; rw [upd_same] at hk; injection hk with hk; subst hk; exact ⟨hs0, hs, Nat.le_refl _⟩
    · rw [upd_other r _ e] at hk
      have := h.rng k p hk
      exact ⟨this.1, this.2.1, by omega⟩
  · by_cases e : k = i
    · subst e
      rw [upd_same] at hk; injection hk with hk; subst hk
      rw [upd_other r _ (Ne.symm hkj)] at hj
      exact .inr (h.rng j q hj).2.2
    · rw [upd_other r _ e] at hk
      by_cases e2 : j = i
      · subst e2; rw [upd_same] at hj; injection hj with hj; subst hj
        exact .inl (h.rng k p hk).2.2
      · rw [upd_other r _ e2] at hj
        exact h.dis k j p q hkj hk hj
  · by_cases e : k = i
    · subst e; rw [upd_same] at hk; injection hk with hk; subst hk; exact hc h4
    · rw [upd_other r _ e] at hk
      rw [hv k p e hk]
      exact (h.cop k p h4 hk).below hb
  · by_cases e : k = i
    · subst e; rw [upd_same] at hk; injection hk with hk; subst hk; exact hx h4
    · rw [upd_other r _ e] at hk
      exact ⟨(h.box k p h4 hk).1.below hb, (h.box k p h4 hk).2⟩
end
def slotOf (i : Nat) : Nat := if i < 4 then 136 + 2 * i else 12 + i
def valOf (r : Rng) (vs : Nat → Value) (i : Nat) : Option Value := (r i).map fun p => if i < 4 then vs i else .pointer (some ⟨p.1, 0, none⟩)
structure Ac4 (a0 a : Act) (r : Rng) (vs : Nat → Value) : Prop where
  defers : a.defers = a0.defers
  size : a.tmps.size = a0.tmps.size
  at_ : ∀ i v, i < 8 → valOf r vs i = some v → a.tmps[slotOf i]? = some v
  old : ∀ t, (∀ i, i < 8 → t ≠ slotOf i) → a.tmps[t]? = a0.tmps[t]?
theorem Ac4.start (a0 : Act) (vs : Nat → Value) : Ac4 a0 a0 (fun _ => none) vs := ⟨rfl, rfl, (fun i v _ h => nomatch h), fun _ _ => rfl⟩
theorem slot_inj {i j : Nat} (hi : i < 8) (hj : j < 8) (h : slotOf i = slotOf j) : i = j := by
  unfold slotOf at h
  by_cases h1 : i < 4 <;> by_cases h2 : j < 4 <;> simp only [h1, h2, if_true, if_false] at h <;> omega
theorem Ac4.put {a0 a : Act} {r : Rng} {vs vs' : Nat → Value} {i : Nat} {p : Nat × Nat} {u : Value} (h : Ac4 a0 a r vs) (hi : i < 8) (hs : slotOf i < a0.tmps.size) (hu : valOf (upd r i p) vs' i = some u)
    (ho : ∀ k, k < 8 → k ≠ i → valOf (upd r i p) vs' k = valOf r vs k) : Ac4 a0 (a.put (some (slotOf i)) u) (upd r i p) vs' := by
  refine ⟨h.defers, by simp [Act.put, h.size], fun k v hk hv => ?_, fun t ht => ?_⟩
  · show (a.tmps.setIfInBounds (slotOf i) u)[slotOf k]? = some v
    by_cases e : k = i
    · subst e
      rw [hu] at hv; injection hv with hv; subst hv
      rw [Array.getElem?_setIfInBounds, if_pos rfl, if_pos (by rw [h.size]; exact hs)]
    · rw [ho k hk e] at hv
      rw [Array.getElem?_setIfInBounds, if_neg fun e2 => e (slot_inj hi hk e2).symm]
      exact h.at_ k v hk hv
  · show (a.tmps.setIfInBounds (slotOf i) u)[t]? = _
    rw [Array.getElem?_setIfInBounds, if_neg fun e => ht i hi e.symm]
    exact h.old t ht
theorem zalloc : ∀ W : World, (Instr.alloc 27 true (.tuple #[])).run Try.prog W = .ok (.pointer (some ⟨W.heap.size, 0, none⟩)) (W.alloc (.cells #[.int .u64 0, .slice none 0 0, .slice none 0 0] 27)) := fun W => by kernel_rfl
set_option maxHeartbeats 1000000 in
theorem four_copies {ops : Array Oper} {Q : Exit → Act → World → Prop} {S : World → Prop} (w0 : World) (v : Value) (ep : Int) (up : List Bool) (hops : List (List Ed)) (hT : TopoV w0 (fun k => k < w0.heap.size) v ep up hops) (hf : Few hops)
    (hn1 : up.length ≤ 1048576) (hn2 : hops.length ≤ 1048576) (a0 : Act) (hsz : a0.tmps.size = 257)
    (hoC : ∀ k, k < 4 → ∃ o, ops[2 * k + 1]? = some o ∧ o.guard = none ∧ o.dst = some (136 + 2 * k) ∧ o.op = .call { callee := .value (.func 17), args := #[.tmp (135 + 2 * k)], argTypes := #[27] })
    (hoA : ∀ k, 4 ≤ k → k < 8 → ∃ o, ops[4 + k]? = some o ∧ o.guard = none ∧ o.dst = some (12 + k) ∧ o.op = .alloc 27)
    (hld : ∀ k, k < 4 → a0.tmps[135 + 2 * k]? = some v)
    (hrd : ∀ d, monoB d → Region.ready .any ops (lstB d) = rdL d)
    (hS : ∀ w, Below w0.heap.size w0 w → S w)
    (hend : ∀ r vs a w, todoB (dn r) = 0 → St4 w0 ep up hops r vs w → Ac4 a0 a r vs → wpAnyH Try.prog .any ops Q S 4 (lstB (dn r)) a w) :
    ∀ (n : Nat) (r : Rng) (vs : Nat → Value) (a : Act) (w : World), todoB (dn r) = n → monoB (dn r) → St4 w0 ep up hops r vs w → Ac4 a0 a r vs → wpAnyH Try.prog .any ops Q S (n + 4) (lstB (dn r)) a w := by
  intro n
  induction n with
  | zero => intro r vs a w h0 hm hst hac; exact hend r vs a w h0 hst hac
  | succ n ih =>
    intro r vs a w hn hm hst hac
    have hne : todoB (dn r) ≠ 0 := by omega
    have e : n + 1 + 4 = (n + 4) + 1 := by omega
    rw [e]
    refine ⟨fun h0 => absurd ((hrd _ hm).symm.trans h0) (rdL_ne hne), fun i hi => ?_⟩
    rw [hrd _ hm] at hi
    obtain ⟨k, hk8, hdk, hmk, htk, hlk, hcase⟩ := rdL_mem hm hne hi
    have hrk : r k = none := by
      unfold dn at hdk
      cases hh : r k with
      | none => rfl
      | some p => rw [hh] at hdk; cases hdk
    rcases hcase with ⟨hk4, rfl⟩ | ⟨hk4, rfl⟩
    · obtain ⟨o, ho, hg, hd, hop⟩ := hoC k hk4
      refine wpOp_step ho fun K' hK => ?_
      rw [if_pos (by simp [Region.wanted, hg])]
      unfold Oper.wp
      have heg : ∀ args w, (callFunc 17 args).run Try.prog w = .ok (.enter 17 args) w := enters_of Try.func17 (by kernel_rfl) rfl
      have hev : a.tmps.getD (135 + 2 * k) undef = v := by
        have h1 := (hac.old (135 + 2 * k) fun i hi e => by
          unfold slotOf at e
          by_cases h : i < 4
          · rw [if_pos h] at e; omega
          · rw [if_neg h] at e; omega).trans (hld k hk4)
        rw [Array.getD_eq_getD_getElem?, h1]; rfl
      have hrun : (execOp a.eval o).run Try.prog w = .ok (.enter 17 #[v]) w := by
        unfold execOp
        simp [hop, resolve, Deferred.ofValue, invoke, Act.eval, hev, heg]
      rw [hrun, Oper.upon_enter]
      have hcp := copy_calls w v ep up hops ((hT.below hst.bel).mono fun x hx _ => Nat.lt_of_lt_of_le hx hst.bel.size) hf hn1 hn2
      refine hcp.mono ?_
      rintro e w' ⟨v', rfl, hT', hb'⟩
      have hst' : St4 w0 ep up hops (upd r k (w.heap.size, w'.heap.size)) (updV vs k v') w' := hst.grow hb' (fun x p hx _ => if_neg hx) (fun _ => by
        have : updV vs k v' k = v' := if_pos rfl
        rw [this]; exact hT'.range) fun h => by omega
      have hso : slotOf k = 136 + 2 * k := if_pos hk4
      have hac' : Ac4 a0 (a.put o.dst v') (upd r k (w.heap.size, w'.heap.size)) (updV vs k v') := by
        rw [hd, ← hso]
        refine hac.put hk8 (by rw [hso, hsz]; omega) ?_ fun x hx hxk => ?_
        · simp [valOf, upd_same, hk4, updV]
        · unfold valOf
          rw [upd_other r _ hxk]
          simp [updV, hxk]
      have := ih (upd r k (w.heap.size, w'.heap.size)) (updV vs k v') (a.put o.dst v') w' (by rw [dn_upd]; omega) (by rw [dn_upd]; exact hmk) hst' hac'
      rw [dn_upd, ← hlk] at this
      exact hK _ _ ⟨hS _ hst'.bel, this⟩
    · obtain ⟨o, ho, hg, hd, hop⟩ := hoA k hk4 hk8
      refine wpOp_step ho fun K' hK => ?_
      rw [if_pos (by simp [Region.wanted, hg])]
      unfold Oper.wp
      obtain ⟨w', hw'⟩ : ∃ w', w.alloc (.cells #[.int .u64 0, .slice none 0 0, .slice none 0 0] 27) = w' := ⟨_, rfl⟩
      have hrun : (execOp a.eval o).run Try.prog w = .ok (.value (.pointer (some ⟨w.heap.size, 0, none⟩))) w' := by
        unfold execOp
        simp [hop, zalloc, hw']
      rw [hrun, Oper.upon_value]
      have hb' : Below w.heap.size w w' := by rw [← hw']; exact (Below.refl _ _).alloc (Nat.le_refl _) _
      have hs' : w'.heap.size = w.heap.size + 1 := by rw [← hw']; simp
      have hst' : St4 w0 ep up hops (upd r k (w.heap.size, w'.heap.size)) vs w' := hst.grow hb' (fun x p hx _ => rfl) (fun h => by omega) fun _ => ⟨by rw [← hw']; exact ZBox.made w, hs'⟩
      have hso : slotOf k = 12 + k := if_neg (by omega)
      have hac' : Ac4 a0 (a.put o.dst (.pointer (some ⟨w.heap.size, 0, none⟩))) (upd r k (w.heap.size, w'.heap.size)) vs := by
        rw [hd, ← hso]
        refine hac.put hk8 (by rw [hso, hsz]; omega) ?_ fun x hx hxk => ?_
        · simp [valOf, upd_same, Nat.not_lt.2 hk4]
        · unfold valOf
          rw [upd_other r _ hxk]
      have := ih (upd r k (w.heap.size, w'.heap.size)) vs (a.put o.dst (.pointer (some ⟨w.heap.size, 0, none⟩))) w' (by rw [dn_upd]; omega) (by rw [dn_upd]; exact hmk) hst' hac'
      rw [dn_upd, ← hlk] at this
      exact hK _ _ ⟨hS _ hst'.bel, this⟩
end Go.Proofs.Ytgfnlfkbbedkaaa
