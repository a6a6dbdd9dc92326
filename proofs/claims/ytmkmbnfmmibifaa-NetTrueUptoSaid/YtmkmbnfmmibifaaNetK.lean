/-
  The program's net and the document's, side by side.
-/
import Derived.Test.YtmkmbnfmmibifaaNetJ
namespace Go.Proofs.Ytmkmbnfmmibifaa
open Go.RowKit

abbrev Opr := Int × Int × Int × Int × List UInt8
abbrev elOp : El Opr := El.prod El.int (El.prod El.int (El.prod El.int (El.prod El.int El.bytes)))
theorem op_open {w : World} {ok : Nat → Prop} {vs : List Value} {p : Opr} (h : elOp.V w ok vs p) : ∃ A n c, vs = [.int .i64 p.1, .int .i64 p.2.1, .int .i64 p.2.2.1, .int .i64 p.2.2.2.1, .slice A n c] ∧ n ≤ c ∧ inI p.1 ∧ inI p.2.1 ∧ inI p.2.2.1 ∧ inI p.2.2.2.1 ∧ RdB w ok A n p.2.2.2.2 := by
  obtain ⟨_, _, e1, ⟨rfl, h1⟩, _, _, rfl, ⟨rfl, h2⟩, _, _, rfl, ⟨rfl, h3⟩, _, _, rfl, ⟨rfl, h4⟩, A, n, c, rfl, hc, hr⟩ := h
  exact ⟨A, n, c, e1, hc, h1, h2, h3, h4, hr⟩
/-- Two nets of the same parcels, that lie apart, and apart from the blocks of K. -/
structure Two (w0 w : World) (K : Nat → Prop) (S S2 : Nat → Prop) (P P2 : Nat) (N : Int) (v v2 : Value) (L : List Par) : Prop where
  net : PNet w S P N v L
  ref : QNet w S2 P2 N v2 L
  s : ∀ k, S k → w0.heap.size ≤ k
  s2 : ∀ k, S2 k → w0.heap.size ≤ k
  dis : ∀ k, S k → ¬ S2 k
  ks : ∀ k, K k → k < w.heap.size ∧ ¬ S k ∧ ¬ S2 k
  bel : Below w0.heap.size w0 w
def Both (w0 w : World) (K : Nat → Prop) (P P2 : Nat) (N : Int) (L : List Par) : Prop := ∃ S S2 v v2, Two w0 w K S S2 P P2 N v v2 L
section
variable {w0 w w1 w2 w3 : World} {K K' S S2 : Nat → Prop} {P P2 : Nat} {N : Int} {v v2 : Value} {L L' : List Par}
theorem Two.below (h : Two w0 w K S S2 P P2 N v v2 L) (hb : Below w.heap.size w w1) : Two w0 w1 K S S2 P P2 N v v2 L :=
  ⟨h.net.below hb, h.ref.below hb, h.s, h.s2, h.dis, fun k hk => ⟨Nat.lt_of_lt_of_le (h.ks k hk).1 hb.size, (h.ks k hk).2⟩, stepBelow h.bel hb⟩
theorem Both.below (h : Both w0 w K P P2 N L) (hb : Below w.heap.size w w1) : Both w0 w1 K P P2 N L := by
  obtain ⟨S, S2, v, v2, h⟩ := h
  exact ⟨S, S2, v, v2, h.below hb⟩
/-- Blocks that were made since are kept apart too. -/
theorem Two.keep (h : Two w0 w K S S2 P P2 N v v2 L) (hb : Below w.heap.size w w1) (hK : ∀ k, K' k → K k ∨ New w w1 k) : Two w0 w1 K' S S2 P P2 N v v2 L := by
  have h1 := h.below hb
  refine ⟨h1.net, h1.ref, h1.s, h1.s2, h1.dis, fun k hk => ?_, h1.bel⟩
  rcases hK k hk with hk | hk
  · exact h1.ks k hk
  · exact ⟨hk.2, fun hs => by have := h.net.lt k hs; have := hk.1; omega, fun hs => by have := h.ref.lt k hs; have := hk.1; omega⟩
/-- Behind a call of the program's net. -/
theorem Two.mid (h : Two w0 w K S S2 P P2 N v v2 L) (hr : RetNet TN TP w S P N L' w1) :
    ∃ S' v', PNet w1 S' P N v' L' ∧ QNet w1 S2 P2 N v2 L ∧ (∀ k, S' k → w0.heap.size ≤ k) ∧ (∀ k, S' k → ¬ S2 k) ∧ (∀ k, K k → ¬ S' k) ∧ Chg (fun k => ¬ K k) w w1 ∧ Below w0.heap.size w0 w1 ∧ Chg S w w1 := by
  obtain ⟨S', v', h1, h2, h3⟩ := hr
  refine ⟨S', v', h1, h.ref.chg h2 fun k hk hs => h.dis k hs hk, fun k hk => ?_, fun k hk h4 => ?_, fun k hk hs => ?_, h2.mono fun k _ hk hK => (h.ks k hK).2.1 hk, h2.below h.bel h.bel.size h.s, h2⟩
  · rcases h3 k hk with h' | h'
    · exact h.s k h'
    · have := h.bel.size; omega
  · rcases h3 k hk with h' | h'
    · exact h.dis k h' h4
    · have := h.ref.lt k h4; omega
  · obtain ⟨h4, h5, h6⟩ := h.ks k hk
    rcases h3 k hs with h' | h'
    · exact h5 h'
    · omega
/-- Behind a call of either. -/
theorem Two.next (h : Two w0 w K S S2 P P2 N v v2 L) (hr : RetNet TN TP w S P N L' w1) (hb : Below w1.heap.size w1 w2) (hq : RetRef w2 S2 P2 N L' w3) : Both w0 w3 K P P2 N L' ∧ Chg (fun k => ¬ K k) w w3 := by
  obtain ⟨S', v', h1, h2, h3, h4, h5, h6, h7, h8⟩ := h.mid hr
  obtain ⟨S2', v2', q1, q2, q3, q4⟩ := hq
  have hP2 := h.ref.sp
  have hz1 := h8.size
  have hz2 := hb.size
  have hz := h.bel.size
  have hch : Chg (fun k => ¬ K k) w w3 := (h6.thenBelow hb).trans q2 fun k _ hk hK => (h.ks k hK).2.2 (by rw [hk]; exact hP2)
  refine ⟨⟨S', S2', v', v2', (h1.below hb).chg q2 fun k hk e => h4 k hk (by rw [e]; exact hP2), q1, h3, fun k hk => ?_, fun k hk hs => ?_, fun k hk => ⟨?_, h5 k hk, fun hs => ?_⟩, ?_⟩, hch⟩
  · rcases q3 k hk with h' | h'
    · exact h.s2 k h'
    · omega
  · rcases q3 k hs with h' | h'
    · exact h4 k hk h'
    · have := h1.lt k hk; omega
  · have := (h.ks k hk).1; have := q2.size; omega
  · rcases q3 k hs with h' | h'
    · exact (h.ks k hk).2.2 h'
    · have := (h.ks k hk).1; omega
  · exact q2.below (stepBelow h7 hb) (by omega) fun k hk => by rw [hk]; exact h.s2 _ hP2
end
theorem Two.both {w0 w : World} {K S S2 : Nat → Prop} {P P2 : Nat} {N : Int} {v v2 : Value} {L : List Par} (h : Two w0 w K S S2 P P2 N v v2 L) : Both w0 w K P P2 N L := ⟨S, S2, v, v2, h⟩
theorem chgK {w w1 : World} {S K : Nat → Prop} (hc : Chg S w w1) (hk : ∀ k, K k → ¬ S k) : Chg (fun k => ¬ K k) w w1 := hc.mono fun k _ hs hK => hk k hK hs
/-- A store into a block that is none of theirs. -/
theorem Two.chg {w0 w w1 : World} {K S S2 D : Nat → Prop} {P P2 : Nat} {N : Int} {v v2 : Value} {L : List Par} (h : Two w0 w K S S2 P P2 N v v2 L) (hc : Chg D w w1) (hd : ∀ k, D k → w0.heap.size ≤ k ∧ ¬ S k ∧ ¬ S2 k) : Two w0 w1 K S S2 P P2 N v v2 L :=
  ⟨h.net.chg hc fun k hk hD => (hd k hD).2.1 hk, h.ref.chg hc fun k hk hD => (hd k hD).2.2 hk, h.s, h.s2, h.dis, fun k hk => ⟨Nat.lt_of_lt_of_le (h.ks k hk).1 hc.size, (h.ks k hk).2⟩, hc.below h.bel h.bel.size fun k hk => (hd k hk).1⟩
end Go.Proofs.Ytmkmbnfmmibifaa
