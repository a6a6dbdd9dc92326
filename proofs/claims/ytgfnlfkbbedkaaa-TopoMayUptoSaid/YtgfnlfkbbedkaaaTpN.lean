/-
  TopoMay's plain law: what the rows made of the argument answer.
-/
import Derived.Test.YtgfnlfkbbedkaaaTpM
namespace Go.Proofs.Ytgfnlfkbbedkaaa
open Go.RowKit
set_option linter.unusedVariables false
set_option linter.unusedSimpArgs false

abbrev up10 : List Bool := List.replicate 10 true
abbrev fl9 : List Flw := [(2, 3, 0, [9])]
def ltE (a b : Ed) : Prop := a.1 < b.1 ∨ (a.1 = b.1 ∧ a.2 < b.2)
theorem ordI_lt {a b : Ed} (h : ltE a b) : ordI b a = 1 := by
  unfold ltE at h
  unfold ordI cmpI
  rcases h with h | ⟨h1, h2⟩
  · have e1 : ¬ b.1 < a.1 := by omega
    simp [e1, h]
  · have e1 : ¬ b.2 < a.2 := by omega
    simp [h1, e1, h2]
structure MGood (L : List Ed) : Prop where
  len : L.length ≤ 128
  pw : L.Pairwise ltE
  in_ : ∀ e ∈ L, 0 ≤ e.1 ∧ e.1 ≤ 9 ∧ 1 ≤ e.2 ∧ e.2 ≤ 9 ∧ e.1 ≠ e.2
  out : ∀ x : Int, (nextOf [L] 0 x).length ≤ 8
theorem MGood.adj {L : List Ed} (h : MGood L) (j : Nat) (hj : j + 1 < L.length) : ltE (edAt L j) (edAt L (j + 1)) := by
  have h1 := List.pairwise_iff_getElem.1 h.pw j (j + 1) (by omega) hj (by omega)
  have e1 : edAt L j = L[j] := by unfold edAt; rw [List.getElem?_eq_getElem (by omega)]; rfl
  have e2 : edAt L (j + 1) = L[j + 1] := by unfold edAt; rw [List.getElem?_eq_getElem hj]; rfl
  rw [e1, e2]; exact h1
theorem MGood.rise {L : List Ed} (h : MGood L) : (sortedB L && noAdj L) = true := by
  rw [sortedB_true fun j hj => by rw [ordI_lt (h.adj j hj)]; decide, noAdj_true fun j hj e => ?_]
  · rfl
  · have := h.adj j hj
    rw [e] at this
    unfold ltE at this
    omega
theorem up10_at {x : Int} (h0 : 0 ≤ x) (h9 : x ≤ 9) : upB 10 up10 x = true := by
  have h1 : withinB x 0 (10 - 1) = true := withinB_iff.2 ⟨h0, by omega⟩
  unfold upB
  rw [h1, List.getElem?_replicate, if_pos (by omega)]
  rfl
theorem MGood.edge {L : List Ed} (h : MGood L) {e : Ed} (he : e ∈ L) : edgeBad 10 up10 [L] ((0 : Nat) : Int) 0 e = false := by
  obtain ⟨h1, h2, h3, h4, h5⟩ := h.in_ e he
  have h6 := h.out e.1
  have e1 : (e.1 == e.2) = false := beq_eq_false_iff_ne.2 h5
  have e2 : (e.2 == (0 : Int)) = false := beq_eq_false_iff_ne.2 (by omega)
  have e3 : decide ((nextOf [L] ((0 : Nat) : Int) e.1).length > 8) = false := decide_eq_false (Nat.not_lt.2 h6)
  unfold edgeBad
  rw [up10_at h1 h2, up10_at (by omega) h4, e1, e2, e3]
  rfl
theorem hops_one (nodes : Int) (up : List Bool) (flows : List Flw) (L : List Ed) : hopsBad nodes up [L] flows = hopBad nodes up [L] flows 0 L := by
  show (List.any [0] fun fl => hopBad nodes up [L] flows fl ([L][fl]?.getD [])) = _
  simp
theorem may_good {L : List Ed} (h : MGood L) (ep : Int) : mayOk 10 fl9 4 4 ep up10 [L] = ((decide (1 ≤ ep) && decide (ep ≤ 1125899906842624)) && (orderOf L).isSome) := by
  have hb : hopsBad 10 up10 [L] fl9 = (orderOf L).isNone := by
    rw [hops_one]
    have h1 : decide (L.length > 128) = false := decide_eq_false (by have := h.len; omega)
    have h2 : (L.any (edgeBad 10 up10 [L] ((0 : Nat) : Int) (srcOf fl9 0))) = false := by
      rw [List.any_eq_false]
      intro e he
      have := h.edge he
      have hs : srcOf fl9 0 = 0 := rfl
      rw [hs, this]
      simp
    unfold hopBad
    rw [h1, h2, h.rise]
    simp
  have hc : configOk 10 fl9 4 4 = true := by decide
  have hu : ((up10.length : Int) == (10 : Int)) = true := by decide
  have hh : ((([L] : List (List Ed)).length : Int) == (fl9.length : Int)) = true := by simp
  have h1 : (!decide (ep < 1)) = decide (1 ≤ ep) := by rw [← decide_not]; exact decide_eq_decide.2 (by omega)
  have h2 : (!decide (ep > 1125899906842624)) = decide (ep ≤ 1125899906842624) := by rw [← decide_not]; exact decide_eq_decide.2 (by omega)
  unfold mayOk
  rw [hb, hc, hu, hh, h1, h2]
  cases orderOf L <;> simp
theorem may_bad {nodes win que ep : Int} {flows : List Flw} {up : List Bool} {L : List Ed} {fl : List Flw} (h : hopBad nodes up [L] flows 0 L = true) : mayOk nodes flows win que ep up [L] = false := by
  unfold mayOk
  rw [hops_one, h]
  simp
theorem may_edge {nodes win que ep : Int} {flows : List Flw} {up : List Bool} {L : List Ed} {e : Ed} (he : e ∈ L) (h : edgeBad nodes up [L] ((0 : Nat) : Int) (srcOf flows 0) e = true) : mayOk nodes flows win que ep up [L] = false := by
  refine may_bad (fl := []) ?_
  have := List.any_eq_true.2 ⟨e, he, h⟩
  unfold hopBad
  rw [this]
  simp
theorem may_into (L : List Ed) (ep : Int) : mayOk 10 fl9 4 4 ep up10 [L ++ [(9, 0)]] = false :=
  may_edge (e := (9, 0)) (by simp) (by
    have hs : srcOf fl9 0 = 0 := rfl
    unfold edgeBad
    rw [hs]
    simp)
theorem may_down {L : List Ed} {a : Int} {v : Nat} (he : (a, (v : Int)) ∈ L) (ep : Int) : mayOk 10 fl9 4 4 ep (up10.set v false) [L] = false :=
  may_edge (e := (a, (v : Int))) he (by
    have h1 : upB 10 (up10.set v false) (v : Int) = false := by
      unfold upB
      rw [Int.toNat_natCast, List.getElem?_set]
      simp
      intro _
      split <;> rfl
    unfold edgeBad
    show (_ || !upB 10 (up10.set v false) (v : Int) || _ || _ || _) = true
    rw [h1]
    simp)
theorem may_twice {L : List Ed} {k : Nat} (hk : k < L.length) (ep : Int) : mayOk 10 fl9 4 4 ep up10 [L.take (k + 1) ++ L.drop k] = false := by
  refine may_bad (fl := []) ?_
  have h1 : noAdj (L.take (k + 1) ++ L.drop k) = false := by
    have hl : (L.take (k + 1)).length = k + 1 := by rw [List.length_take]; omega
    refine noAdj_false (j := k) (by rw [List.length_append, hl, List.length_drop]; omega) ?_
    unfold edAt
    rw [List.getElem?_append_right (by omega), hl, Nat.sub_self, List.getElem?_append_left (by omega), List.getElem?_drop, List.getElem?_take]
    simp
  unfold hopBad
  rw [h1]
  simp
theorem next_nodup (es : List Ed) (x : Int) : (nextOf [es] 0 x).Nodup := pw_nodup (endsOf_spec _ es).1
theorem next_in {es : List Ed} {x y : Int} : y ∈ nextOf [es] 0 x ↔ (x, y) ∈ es := next_mem es x y
theorem MGood.less {L : List Ed} (h : MGood L) (k : Nat) : MGood (L.take k ++ L.drop (k + 1)) := by
  have hs : (L.take k ++ L.drop (k + 1)).Sublist L := by rw [← List.eraseIdx_eq_take_drop_succ]; exact List.eraseIdx_sublist L k
  refine ⟨Nat.le_trans hs.length_le h.len, h.pw.sublist hs, fun e he => h.in_ e (hs.subset he), fun x => ?_⟩
  exact Nat.le_trans (nodup_le _ _ (next_nodup _ x) fun y hy => next_in.2 (hs.subset (next_in.1 hy))) (h.out x)
structure MInv (L : List Ed) (n m : Nat) : Prop where
  len : L.length ≤ 10 * n + m
  pw : L.Pairwise ltE
  in_ : ∀ e ∈ L, ∃ a b : Nat, e = ((a : Int), (b : Int)) ∧ a < b ∧ b ≤ 9 ∧ (a < n ∨ a = n ∧ b < m)
  out : ∀ x : Int, (nextOf [L] 0 x).length ≤ 8
theorem MInv.init : MInv [] 0 1 := by
  refine ⟨by decide, .nil, (fun e he => by cases he), fun x => ?_⟩
  have := nodup_le _ ([] : List Int) (next_nodup [] x) fun y hy => by
    have := next_in.1 hy
    cases this
  exact Nat.le_trans this (by decide)
theorem MInv.skip {L : List Ed} {n m : Nat} (h : MInv L n m) : MInv L n (m + 1) :=
  ⟨by have := h.len; omega, h.pw, fun e he => by obtain ⟨a, b, rfl, h1, h2, h3⟩ := h.in_ e he; exact ⟨a, b, rfl, h1, h2, by omega⟩, h.out⟩
theorem MInv.turn {L : List Ed} {n m : Nat} (h : MInv L n m) (hm : m ≤ 10) : MInv L (n + 1) (n + 2) :=
  ⟨by have := h.len; omega, h.pw, fun e he => by obtain ⟨a, b, rfl, h1, h2, h3⟩ := h.in_ e he; exact ⟨a, b, rfl, h1, h2, by omega⟩, h.out⟩
theorem out_add {L : List Ed} {a b : Int} (h : ∀ x : Int, (nextOf [L] 0 x).length ≤ 8) (h8 : (nextOf [L] 0 a).length < 8) (x : Int) : (nextOf [L ++ [(a, b)]] 0 x).length ≤ 8 := by
  by_cases hx : x = a
  · subst hx
    have := nodup_le _ (nextOf [L] 0 x ++ [b]) (next_nodup (L ++ [(x, b)]) x) fun y hy => by
      rcases List.mem_append.1 (next_in.1 hy) with h1 | h1
      · exact List.mem_append_left _ (next_in.2 h1)
      · simp at h1; subst h1; simp
    rw [List.length_append] at this
    simp at this
    omega
  · refine Nat.le_trans (nodup_le _ (nextOf [L] 0 x) (next_nodup (L ++ [(a, b)]) x) fun y hy => ?_) (h x)
    rcases List.mem_append.1 (next_in.1 hy) with h1 | h1
    · exact next_in.2 h1
    · simp at h1; exact absurd h1.1 hx
theorem MInv.add {L : List Ed} {n m : Nat} (h : MInv L n m) (h1 : n < m) (h2 : m ≤ 9) (h8 : (nextOf [L] 0 (n : Int)).length < 8) : MInv (L ++ [((n : Int), (m : Int))]) n (m + 1) := by
  refine ⟨by rw [List.length_append]; have := h.len; simp; omega, ?_, fun e he => ?_, out_add h.out h8⟩
  · rw [List.pairwise_append]
    refine ⟨h.pw, List.pairwise_singleton _ _, fun a ha b hb => ?_⟩
    obtain ⟨x, y, rfl, g1, g2, g3⟩ := h.in_ a ha
    simp at hb
    subst hb
    unfold ltE
    show (x : Int) < n ∨ (x : Int) = n ∧ (y : Int) < m
    omega
  · rcases List.mem_append.1 he with he | he
    · obtain ⟨a, b, rfl, g1, g2, g3⟩ := h.in_ e he; exact ⟨a, b, rfl, g1, g2, by omega⟩
    · simp at he
      exact ⟨n, m, he, h1, h2, by omega⟩
theorem MInv.good {L : List Ed} {m : Nat} (h : MInv L 10 m) (hm : m ≤ 11) : MGood L :=
  ⟨by have := h.len; omega, h.pw, fun e he => by obtain ⟨a, b, rfl, g1, g2, g3⟩ := h.in_ e he; exact ⟨by show (0 : Int) ≤ a; omega, by show (a : Int) ≤ 9; omega, by show (1 : Int) ≤ b; omega, by show (b : Int) ≤ 9; omega, by show (a : Int) ≠ b; omega⟩, h.out⟩
theorem MInv.back {L : List Ed} {m : Nat} (h : MInv L 10 m) (hm : m ≤ 11) : MGood (L ++ [(9, 8)]) := by
  have hg := h.good hm
  refine ⟨by rw [List.length_append]; have := h.len; simp; omega, ?_, fun e he => ?_, out_add h.out ?_⟩
  · rw [List.pairwise_append]
    refine ⟨h.pw, List.pairwise_singleton _ _, fun a ha b hb => ?_⟩
    obtain ⟨x, y, rfl, g1, g2, g3⟩ := h.in_ a ha
    simp at hb
    subst hb
    unfold ltE
    show (x : Int) < 9 ∨ (x : Int) = 9 ∧ (y : Int) < 8
    omega
  · rcases List.mem_append.1 he with he | he
    · exact hg.in_ e he
    · simp at he; subst he; simp
  · have := nodup_le _ ([] : List Int) (next_nodup L 9) fun y hy => by
      obtain ⟨a, b, e, g1, g2, g3⟩ := h.in_ _ (next_in.1 hy)
      injection e with e1 e2
      omega
    exact Nat.lt_of_le_of_lt this (by decide)
theorem MInv.order {L : List Ed} {m : Nat} (h : MInv L 10 m) : (orderOf L).isSome = true := by
  cases ho : orderOf L with
  | some o => rfl
  | none =>
    obtain ⟨x, hx⟩ := (order_none_iff L).1 ho
    have key : ∀ y, Reaches L x y → x < y := fun y hy => by
      induction hy with
      | one he => obtain ⟨a, b, e, g1, g2, g3⟩ := h.in_ _ he; injection e with e1 e2; omega
      | more _ he ih => obtain ⟨a, b, e, g1, g2, g3⟩ := h.in_ _ he; injection e with e1 e2; omega
    exact absurd (key x hx) (by omega)
theorem MInv.less {L : List Ed} {m : Nat} (h : MInv L 10 m) (k : Nat) : (orderOf (L.take k ++ L.drop (k + 1))).isSome = true := by
  have := h.order
  cases ho : orderOf L with
  | none => rw [ho] at this; cases this
  | some o =>
    obtain ⟨o', ho'⟩ := order_less (less_mem L k) ho
    rw [ho']; rfl
end Go.Proofs.Ytgfnlfkbbedkaaa
