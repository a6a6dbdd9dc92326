/-
  bytes.Join at no separator, by the shelf's contract.
-/
import Derived.Test.YtnadohbgnanpiaaJoin
import Derived.Test.YtnadohbgnanpiaaPad4
namespace Go.Proofs.Ytnadohbgnanpiaa
open Go.RowKit

theorem join_flatten (ls : List (List UInt8)) : Lib.join ls [] = ls.flatten := by
  cases ls with
  | nil => rfl
  | cons x r =>
    rw [Lib.join_cons, Lib.joinTail]
    simp
theorem lens_flatten (ls : List (List UInt8)) : Lib.lens ls = ls.flatten.length := by
  rw [Lib.lens, List.length_flatten]
theorem freshRd {B : Nat} {w' : World} {v : Value} {l : List UInt8} (h : Lib.FreshBytes B w' v l) : ∃ A c, v = .slice A l.length c ∧ l.length ≤ c ∧ RdB w' (fun k => B ≤ k) A l.length l := by
  obtain ⟨g, cap, zs, rfl, hB, hc, hm, hz, hx, hb, hcell, _⟩ := h
  refine ⟨_, cap, rfl, hc, rfl, by simp only [maxLen] at hm; omega, fun h0 => ⟨⟨g, 0, none⟩, rfl, hB, World.block_lt_of_cell? w' _ (hcell 0 (by omega)), rfl, fun j hj => ?_⟩⟩
  rw [addPlain, Nat.zero_add, hcell j (by omega)]
  have hjz : j < zs.length := by omega
  have hr := hx _ (List.getElem_mem hjz)
  have e : byt l j = (zs.getD j 0).toNat := by
    have h1 : l[j]? = (Lib.bytesOf (zs.take l.length))[j]? := by rw [hb]
    unfold byt
    rw [h1]
    simp [Lib.bytesOf, hj, hjz, List.getD_eq_getElem?_getD, UInt8.toNat_ofNat']
    omega
  rw [e]
  have : 0 ≤ zs.getD j 0 := by simp [List.getD_eq_getElem?_getD, hjz]; omega
  congr 2
  omega
theorem holds {w : World} {ok : Nat → Prop} {A : Option Addr} {n c : Nat} {xs : List UInt8} (h : RdB w ok A n xs) : Lib.HoldsBytes w (.slice A n c) xs := by
  refine ⟨A, c, by rw [h.len], fun e => ?_, fun a e i x hx => ?_⟩
  · subst e
    rcases Nat.eq_zero_or_pos n with h0 | h0
    · exact List.eq_nil_of_length_eq_zero (by rw [h.len]; exact h0)
    · obtain ⟨ad, h1, _⟩ := h.2.2 h0
      cases h1
  · obtain ⟨hi, e2⟩ := List.getElem?_eq_some_iff.1 hx
    obtain ⟨ad, e3, _, _, _, hc⟩ := h.2.2 (by have := h.len; omega)
    rw [e] at e3
    cases e3
    rw [hc i (by have := h.len; omega), byt_eq xs i hi, e2]
def RetJoin (w : World) (xs : List UInt8) (e : Ending) (w' : World) : Prop := ∃ A c, e = .returned (.slice A xs.length c) ∧ xs.length ≤ c ∧ RdB w' (fun k => w.heap.size ≤ k) A xs.length xs ∧ Below w.heap.size w w'
theorem join_calls (A : Option Addr) (n c : Nat) (ls : List (List UInt8)) (w : World) (ok : Nat → Prop) (hr : RdBB w ok A n ls) (hc : n ≤ c) (hn : n ≤ 1099511627776) (hl : ls.flatten.length ≤ 1099511627776) :
    Calls Try.prog 25 #[.slice A n c, .slice none 0 0] w (RetJoin w ls.flatten) := by
  rcases Nat.eq_zero_or_pos n with h0 | h0
  · subst h0
    obtain rfl : ls = [] := List.eq_nil_of_length_eq_zero hr.len
    refine Calls.mono (Any.bytes_Join_none Try.lJ A c (.slice none 0 0) w) ?_
    rintro e w' ⟨rfl, rfl⟩
    exact ⟨_, 0, rfl, Nat.le_refl _, RdB.nil _ _ _, (Below.refl _ _).alloc (Nat.le_refl _) _⟩
  · obtain ⟨⟨b, o, s⟩, rfl, _, _, hs, hcell⟩ := hr.2.2 h0
    simp only at hs
    subst hs
    by_cases h1 : n = 1
    · subst h1
      obtain ⟨A0, n0, c0, k0, kc0, q0⟩ := hcell 0 (by omega)
      rw [addZero] at k0
      have hls : ls = [lrow ls 0] := by
        match ls, hr.len with
        | [x], _ => rfl
      have hfl : ls.flatten = lrow ls 0 := by rw [hls]; simp [lrow]
      have hq := q0.len
      rcases Nat.eq_zero_or_pos n0 with hz | hz
      · subst hz
        have e0 : lrow ls 0 = [] := List.eq_nil_of_length_eq_zero hq
        rw [hfl, e0]
        refine Calls.mono (Any.bytes_Join_one_empty Try.lJ b o c A0 c0 (.slice none 0 0) w k0) ?_
        rintro e w' ⟨rfl, rfl⟩
        exact ⟨_, 0, rfl, Nat.le_refl _, RdB.nil _ _ _, Below.refl _ _⟩
      · obtain ⟨ad0, e0, _, _, _, hc0⟩ := q0.2.2 hz
        subst e0
        rw [hfl]
        refine Calls.mono (Any.bytes_Join_one Try.lJ b o c ad0 c0 (lrow ls 0) (.slice none 0 0) w (by rw [hq]; exact k0) (fun i x hx => ?_) (by omega) (by rw [hfl] at hl; omega)) ?_
        · obtain ⟨hi, e2⟩ := List.getElem?_eq_some_iff.1 hx
          rw [hc0 i (by omega), byt_eq _ i hi, e2]
        · rintro e w' ⟨v', rfl, hf, hb⟩
          obtain ⟨A', c', rfl, hcc, hrd⟩ := freshRd hf
          exact ⟨A', c', rfl, hcc, hrd, hb⟩
    · obtain ⟨vs, hvl, hv⟩ : ∃ vs : List Value, vs.length = n ∧ ∀ j, j < n → ∃ Aj nj cj, vs[j]? = some (.slice Aj nj cj) ∧ w.cell? ((⟨b, o, none⟩ : Addr).add j) = some (.slice Aj nj cj) ∧ RdB w ok Aj nj (lrow ls j) := by
        refine ⟨(List.range n).map fun j => (w.cell? ((⟨b, o, none⟩ : Addr).add j)).getD undef, by simp, fun j hj => ?_⟩
        obtain ⟨Aj, nj, cj, k1, _, k3⟩ := hcell j hj
        exact ⟨Aj, nj, cj, by simp [hj, k1], k1, k3⟩
      have hP : Lib.PartsAt w ⟨b, o, none⟩ vs ls := by
        refine ⟨by rw [hvl, hr.len], fun i v hi => ?_, fun i v l hi hli => ?_⟩
        · have hil : i < n := by rw [← hvl]; exact (List.getElem?_eq_some_iff.1 hi).1
          obtain ⟨Aj, nj, cj, k1, k2, _⟩ := hv i hil
          rw [k1] at hi
          cases hi
          exact k2
        · have hil : i < n := by rw [← hvl]; exact (List.getElem?_eq_some_iff.1 hi).1
          obtain ⟨Aj, nj, cj, k1, _, k3⟩ := hv i hil
          rw [k1] at hi
          cases hi
          have e : lrow ls i = l := by simp [lrow, hli]
          rw [e] at k3
          exact holds k3
      refine Calls.mono (Any.bytes_Join_many Try.lJ b o n c vs ls (.slice none 0 0) [] w hr.len (by omega) hP hc ⟨none, 0, rfl, fun _ => rfl, fun a e => by cases e⟩ (by omega) (by rw [lens_flatten, List.length_nil, Nat.zero_mul]; omega)) ?_
      rintro e w' ⟨v', rfl, hf, hb⟩
      rw [join_flatten] at hf
      obtain ⟨A', c', rfl, hcc, hrd⟩ := freshRd hf
      exact ⟨A', c', rfl, hcc, hrd, hb⟩
end Go.Proofs.Ytnadohbgnanpiaa
