/-
  Plain law: the document's May and the program's.
-/
import Derived.Test.YthgnjojkncodeaaGreatRfD
import Derived.Test.YthgnjojkncodeaaGreatTpM
import Derived.Test.YthgnjojkncodeaaGreatTpO
namespace Go.Proofs.YthgnjojkncodeaaGreat
open Go.RowKit
set_option linter.unusedVariables false
set_option linter.unusedSimpArgs false

def ltR (a b : Ed) : Prop := a.1 < b.1 ∨ (a.1 = b.1 ∧ a.2 < b.2)
theorem ordI_iff (a b : Ed) : (0 ≤ ordI b a ∧ b ≠ a) ↔ ltR a b := by
  obtain ⟨a1, a2⟩ := a
  obtain ⟨b1, b2⟩ := b
  unfold ordI cmpI ltR
  simp only [ne_eq, Prod.mk.injEq]
  rcases Int.lt_trichotomy a1 b1 with h | h | h
  · have h1 : ¬ b1 < a1 := by omega
    have h2 : b1 > a1 := by omega
    simp [h1, h2, h]
    omega
  · subst h
    have h1 : ¬ a1 < a1 := by omega
    have h2 : ¬ a1 > a1 := by omega
    simp [h1, h2]
    rcases Int.lt_trichotomy a2 b2 with h | h | h
    · have h3 : ¬ b2 < a2 := by omega
      have h4 : b2 > a2 := by omega
      simp [h3, h4, h]
      omega
    · subst h
      simp
    · have h4 : ¬ a2 < b2 := by omega
      simp [h, h4]
  · have h1 : ¬ a1 < b1 := by omega
    have h2 : ¬ a1 = b1 := by omega
    simp [h, h1, h2]
structure EdOk (nodes : Int) (up : List Bool) (src : Int) (e : Ed) : Prop where
  f0 : 0 ≤ e.1
  f1 : e.1 < nodes
  t0 : 0 ≤ e.2
  t1 : e.2 < nodes
  ne : e.1 ≠ e.2
  so : e.2 ≠ src
  uf : up[e.1.toNat]? = some true
  ut : up[e.2.toNat]? = some true
structure HopOk (nodes : Int) (up : List Bool) (src : Int) (l : List Ed) : Prop where
  len : l.length ≤ 128
  ed : ∀ (i : Nat) (e : Ed), l[i]? = some e → EdOk nodes up src e
  lt : ∀ (i : Nat) (e f : Ed), l[i]? = some e → l[i + 1]? = some f → ltR e f
  few : ∀ n : Int, 0 ≤ n → n < nodes → (endsOf (fun e : Ed => (e.2, e.1 == n)) l).length ≤ 8
  cir : ∀ n : Int, 0 ≤ n → n < nodes → ¬ Reaches l n n
theorem edAt_some {l : List Ed} {i : Nat} {e : Ed} (h : l[i]? = some e) : edAt l i = e := by unfold edAt; rw [h]; rfl
theorem lt_iff (l : List Ed) : (sortedB l && noAdj l) = true ↔ ∀ (i : Nat) (e f : Ed), l[i]? = some e → l[i + 1]? = some f → ltR e f := by
  rw [Bool.and_eq_true]
  unfold sortedB noAdj
  simp only [List.all_eq_true, List.mem_range, decide_eq_true_eq]
  constructor
  · rintro ⟨h1, h2⟩ i e f he hf
    have hl := (List.getElem?_eq_some_iff.1 hf).1
    have k1 := h1 i (by omega)
    have k2 := h2 i (by omega)
    rw [edAt_some he, edAt_some hf] at k1 k2
    exact (ordI_iff e f).1 ⟨k1, k2⟩
  · intro h
    refine ⟨fun j hj => ?_, fun j hj => ?_⟩
    · exact ((ordI_iff _ _).2 (h j _ _ (edAt_get (by omega)) (edAt_get (by omega)))).1
    · exact ((ordI_iff _ _).2 (h j _ _ (edAt_get (by omega)) (edAt_get (by omega)))).2
theorem upB_iff {nodes : Int} {up : List Bool} {x : Int} : upB nodes up x = true ↔ (0 ≤ x ∧ x < nodes ∧ up[x.toNat]? = some true) := by
  unfold upB
  rw [Bool.and_eq_true, withinB_iff]
  constructor
  · rintro ⟨⟨h1, h2⟩, h3⟩
    refine ⟨h1, by omega, ?_⟩
    cases hx : up[x.toNat]? with
    | none => rw [hx] at h3; cases h3
    | some b => rw [hx] at h3; cases b with
      | true => rfl
      | false => cases h3
  · rintro ⟨h1, h2, h3⟩
    exact ⟨⟨h1, by omega⟩, by rw [h3]; rfl⟩
theorem reach_ends {l : List Ed} {a x : Int} (h : Reaches l a x) : ∃ e ∈ l, e.2 = x := by
  have := reaches_end h
  obtain ⟨e, h1, h2⟩ := List.mem_map.1 this
  exact ⟨e, h1, h2⟩
theorem hop_iff {nodes : Int} {up : List Bool} {hops : List (List Ed)} {flows : List Flw} {fl : Nat} {l : List Ed} (hl : hops[fl]? = some l) : hopBad nodes up hops flows fl l = false ↔ HopOk nodes up (srcOf flows fl) l := by
  have he : edgesOf hops (fl : Int) = l := by unfold edgesOf; rw [if_pos (by omega)]; simp [hl]
  have hn : ∀ x, nextOf hops (fl : Int) x = endsOf (fun e : Ed => (e.2, e.1 == x)) l := fun x => by unfold nextOf; rw [he]
  unfold hopBad
  rw [Bool.or_eq_false_iff, Bool.or_eq_false_iff, Bool.or_eq_false_iff, decide_eq_false_iff_not, Bool.not_eq_false', lt_iff, List.any_eq_false]
  constructor
  · rintro ⟨⟨⟨h1, h2⟩, h3⟩, h4⟩
    have hed : ∀ e ∈ l, EdOk nodes up (srcOf flows fl) e ∧ (endsOf (fun f : Ed => (f.2, f.1 == e.1)) l).length ≤ 8 := fun e hm => by
      have := h3 e hm
      unfold edgeBad at this
      simp only [Bool.or_eq_true, Bool.not_eq_true', decide_eq_true_eq, not_or, beq_iff_eq, Bool.not_eq_false] at this
      obtain ⟨⟨⟨⟨k1, k2⟩, k3⟩, k4⟩, k5⟩ := this
      rw [upB_iff] at k1 k2
      rw [hn] at k5
      exact ⟨⟨k1.1, k1.2.1, k2.1, k2.2.1, k3, k4, k1.2.2, k2.2.2⟩, by omega⟩
    refine ⟨by omega, fun i e hi => (hed e (List.mem_of_getElem? hi)).1, h2, fun n h0 h1 => ?_, fun n h0 h1 hr => ?_⟩
    · rcases Nat.eq_zero_or_pos (endsOf (fun e : Ed => (e.2, e.1 == n)) l).length with hz | hz
      · omega
      · obtain ⟨y, hy⟩ := List.exists_mem_of_length_pos hz
        have := (hed _ ((next_mem l n y).1 hy)).2
        exact this
    · have : orderOf l = none := (order_none_iff l).2 ⟨n, hr⟩
      rw [this] at h4
      cases h4
  · rintro ⟨h1, h2, h3, h4, h5⟩
    refine ⟨⟨⟨by omega, h3⟩, fun e hm => ?_⟩, ?_⟩
    · obtain ⟨i, hi⟩ := List.mem_iff_getElem?.1 hm
      have k := h2 i e hi
      unfold edgeBad
      rw [upB_iff.2 ⟨k.f0, k.f1, k.uf⟩, upB_iff.2 ⟨k.t0, k.t1, k.ut⟩, hn, beq_eq_false_iff_ne.2 k.ne, beq_eq_false_iff_ne.2 k.so, decide_eq_false (by have := h4 e.1 k.f0 k.f1; omega)]
      simp
    · cases ho : orderOf l with
      | some o => rfl
      | none =>
        obtain ⟨x, hx⟩ := (order_none_iff l).1 ho
        obtain ⟨e, hm, rfl⟩ := reach_ends hx
        obtain ⟨i, hi⟩ := List.mem_iff_getElem?.1 hm
        have k := h2 i e hi
        exact absurd hx (h5 _ k.t0 k.t1)
theorem may_badC {nodes : Int} {flows : List Flw} {win que ep : Int} {up : List Bool} {hops : List (List Ed)} (h : configOk nodes flows win que = false) : mayOk nodes flows win que ep up hops = false := by
  unfold mayOk
  rw [h]
  rfl
theorem may_badN {nodes : Int} {flows : List Flw} {win que ep : Int} {up : List Bool} {hops : List (List Ed)} (h : ¬ (1 ≤ ep ∧ ep ≤ 1125899906842624 ∧ (up.length : Int) = nodes ∧ (hops.length : Int) = (flows.length : Int))) : mayOk nodes flows win que ep up hops = false := by
  rw [Bool.eq_false_iff]
  intro hh
  unfold mayOk at hh
  simp only [Bool.and_eq_true, Bool.not_eq_true', decide_eq_false_iff_not, beq_iff_eq] at hh
  exact h ⟨by omega, by omega, hh.1.1.2, hh.1.2⟩
theorem may_badH {nodes : Int} {flows : List Flw} {win que ep : Int} {up : List Bool} {hops : List (List Ed)} {fl : Nat} {l : List Ed} (hl : hops[fl]? = some l) (h : ¬ HopOk nodes up (srcOf flows fl) l) : mayOk nodes flows win que ep up hops = false := by
  have hb : hopBad nodes up hops flows fl l = true := by
    rw [← Bool.not_eq_false]
    intro hh
    exact h ((hop_iff hl).1 hh)
  unfold mayOk
  rw [hopsBad_at hl hb]
  simp
theorem may_ok {nodes : Int} {flows : List Flw} {win que ep : Int} {up : List Bool} {hops : List (List Ed)} (hc : configOk nodes flows win que = true) (h : 1 ≤ ep ∧ ep ≤ 1125899906842624 ∧ (up.length : Int) = nodes ∧ (hops.length : Int) = (flows.length : Int))
    (hh : ∀ (fl : Nat) (l : List Ed), hops[fl]? = some l → HopOk nodes up (srcOf flows fl) l) : mayOk nodes flows win que ep up hops = true := by
  unfold mayOk
  rw [hc, decide_eq_false (by omega : ¬ ep < 1), decide_eq_false (by omega : ¬ ep > 1125899906842624), beq_iff_eq.2 h.2.2.1, beq_iff_eq.2 h.2.2.2, hopsBad_none fun fl l hl => (hop_iff hl).2 (hh fl l hl)]
  rfl
end Go.Proofs.YthgnjojkncodeaaGreat
