/-
  bytes.Clone; structs in boxes.
-/
import Derived.Test.YtmkmbnfmmibifaaSt
namespace Go.Proofs.Ytmkmbnfmmibifaa
open Go.RowKit

set_option maxHeartbeats 400000 in
theorem bclone_calls (A : Option Addr) (n c : Nat) (xs : List UInt8) (w : World) (ok : Nat → Prop) (hr : RdB w ok A n xs) (hn : n ≤ 140737488355328) :
    Calls Try.prog 32 #[.slice A n c] w (RetB w xs) := by
  have hq := fun W => Lib.run_eql_slice_nil (P := Try.prog) W 28 5 A n c 0 0 Try.underlying28
  rcases A with _ | ad
  · have h0 : n = 0 := by
      rcases Nat.eq_zero_or_pos n with h0 | h0
      · exact h0
      · obtain ⟨ad, h, _⟩ := hr.2.2 h0
        cases h
    subst h0
    obtain rfl : xs = [] := List.eq_nil_of_length_eq_zero hr.1
    go_enter Try.func32, Try.ntmps32
    go_wp2
    go_ret
    exact ⟨_, rfl, OwnB.nil _ _, Below.refl _ _⟩
  · have ho : OwnB (w.alloc (.cells #[] 5)) w.heap.size (.slice (some ⟨w.heap.size, 0, none⟩) 0 0) [] := OwnB.lit w w.heap.size [] (Nat.le_refl _) (by simp)
    have hb : Below w.heap.size w (w.alloc (.cells #[] 5)) := (Below.refl _ _).alloc (Nat.le_refl _) _
    have hn' : ([] : List UInt8).length + n ≤ 140737488355328 := by simpa using hn
    have hz : w.heap.size ≤ (w.alloc (.cells #[] 5)).heap.size := by simp
    go_enter Try.func32, Try.ntmps32
    go_wp2_with (at_builtin; refine appB w.heap.size w.heap.size rfl _ _ rfl (.slice (some ⟨w.heap.size, 0, none⟩) 0 0) [] xs (some ad) n c rfl rfl ho (hr.alloc _) hb hz (Nat.le_refl _) hn' ?_; intro v1 w1 ho1 hb1 _ _)
    go_ret
    exact ⟨_, rfl, by simpa using ho1, hb1⟩
/-- Blocks that were made between two worlds. -/
def New (w w' : World) : Nat → Prop := fun k => w.heap.size ≤ k ∧ k < w'.heap.size
/-- Bytes that a call made: where they lie is new. -/
theorem OwnB.asNew {w w' : World} {v : Value} {xs : List UInt8} (h : OwnB w' w.heap.size v xs) (n : Nat) (hn : xs.length = n) : ∃ A c, v = .slice A n c ∧ n ≤ c ∧ RdB w' (New w w') A n xs := by
  subst hn
  obtain ⟨A, c, e, hc, _, hr⟩ := h.rd
  exact ⟨A, c, e, hc, hr.mono fun k hk hl => ⟨hk.1, hl⟩⟩
theorem stepBelow {w W W' : World} (h : Below w.heap.size w W) (k : Below W.heap.size W W') : Below w.heap.size w W' := belowThen h h.size k
theorem allocBelow' (w : World) (o : Obj) : Below w.heap.size w (w.alloc o) := (Below.refl _ _).alloc (Nat.le_refl _) _
theorem OwnB.chg {S : Nat → Prop} {w w' : World} {base : Nat} {v : Value} {xs : List UInt8} (h : OwnB w base v xs) (hc : Chg S w w') (hs : ∀ k, v.ownBlock = some k → ¬ S k) : OwnB w' base v xs := by
  refine ⟨h.1, ?_⟩
  have hlt := h.lt
  rcases h.2 with h2 | ⟨g, cap, cur, rfl, hb, hg, r⟩
  · exact .inl h2
  · exact .inr ⟨g, cap, cur, rfl, hb, (hc.block g (hlt g rfl).2 (hs g rfl)).trans hg, r⟩
/-- Bytes that were made behind w, of a call's own. -/
def FB (w w' : World) (A : Option Addr) (n c : Nat) (xs : List UInt8) : Prop := xs.length = n ∧ OwnB w' w.heap.size (.slice A n c) xs
section
variable {w w0 w1 w2 : World} {A : Option Addr} {n c : Nat} {xs : List UInt8}
theorem FB.rd (h : FB w w1 A n c xs) : RdB w1 (New w w1) A n xs ∧ n ≤ c := by
  obtain ⟨A', c', e, hc, hr⟩ := h.2.asNew n h.1
  injection e with e1 _ e2
  subst e1
  subst e2
  exact ⟨hr, hc⟩
theorem FB.keep {S : Nat → Prop} (h : FB w w1 A n c xs) (hc : Chg S w1 w2) (hs : ∀ k, New w w1 k → ¬ S k) : FB w w2 A n c xs := ⟨h.1, h.2.chg hc fun k hk => hs k (h.2.lt k hk)⟩
theorem FB.below (h : FB w w1 A n c xs) (hb : Below w1.heap.size w1 w2) : FB w w2 A n c xs := h.keep (S := NoB) (Chg.ofBelow hb) fun _ _ h => h
theorem FB.from (h : FB w w1 A n c xs) (hb : w0.heap.size ≤ w.heap.size) : FB w0 w1 A n c xs := ⟨h.1, h.2.lower hb⟩
theorem FB.nil (w w1 : World) : FB w w1 none 0 0 [] := ⟨rfl, OwnB.nil _ _⟩
end
theorem OwnB.asFB {w w' : World} {v : Value} {xs : List UInt8} (h : OwnB w' w.heap.size v xs) (n : Nat) (hn : xs.length = n) : ∃ A c, v = .slice A n c ∧ FB w w' A n c xs := by
  obtain ⟨A, c, e, _⟩ := h.asNew n hn
  subst e
  exact ⟨A, c, rfl, hn, h⟩
end Go.Proofs.Ytmkmbnfmmibifaa
