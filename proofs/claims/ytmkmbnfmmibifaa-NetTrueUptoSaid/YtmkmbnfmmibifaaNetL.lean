/-
  Each call of both nets, at whatever place.
-/
import Derived.Test.YtmkmbnfmmibifaaNetK
namespace Go.Proofs.Ytmkmbnfmmibifaa
open Go.RowKit

theorem place (L : List Par) (i : Int) : (i < 0 ∨ (L.length : Int) ≤ i) ∨ ∃ (k : Nat) (p : Par), i = (k : Int) ∧ L[k]? = some p := by
  by_cases h : i < 0 ∨ (L.length : Int) ≤ i
  · exact .inl h
  · exact .inr ⟨i.toNat, _, by omega, List.getElem?_eq_getElem (show i.toNat < L.length by omega)⟩
theorem Small.mem {L : List Par} (h : Small L) {k : Nat} {p : Par} (hp : L[k]? = some p) : p.2.2.1.length ≤ 70000 := h p (List.mem_of_getElem? hp)
theorem Small.erase {L : List Par} (h : Small L) (k : Nat) : Small (L.eraseIdx k) := fun p hp => h p (List.mem_of_mem_eraseIdx hp)
theorem Small.snoc {L : List Par} (h : Small L) {p : Par} (hp : p.2.2.1.length ≤ 70000) : Small (L ++ [p]) := fun q hq => by
  rcases List.mem_append.1 hq with hq | hq
  · exact h q hq
  · rw [List.mem_singleton] at hq; rw [hq]; exact hp
theorem Small.set {L : List Par} (h : Small L) (k : Nat) {p : Par} (hp : p.2.2.1.length ≤ 70000) : Small (L.set k p) := fun q hq => by
  rcases List.mem_or_eq_of_mem_set hq with hq | hq
  · exact h q hq
  · rw [hq]; exact hp
theorem At_both (N : Int) (hN : 1 ≤ N) (L : List Par) (hs : Small L) (i : Int) : ∃ (p : Par) (er : Int), p.2.2.1.length ≤ 70000 ∧
    (∀ W S P v, PNet W S P N v L → Calls Try.prog 16 #[.pointer (some ⟨P, 0, none⟩), .int .i64 i] W (RetAt W p er)) ∧
    (∀ W S P v, QNet W S P N v L → Calls Try.prog 17 #[.pointer (some ⟨P, 0, none⟩), .int .i64 i] W (RetRAt W (fun k => S k ∧ k ≠ P) p er)) := by
  rcases place L i with h | ⟨k, p, rfl, hp⟩
  · exact ⟨noPar, 6, by simp [noPar], fun W S P v hW => At_none W S P N v L hW hN i h, fun W S P v hW => rAt_none W S P N v L hW i h⟩
  · exact ⟨p, 0, hs.mem hp, fun W S P v hW => At_calls W S P N v L hW hN hs k p hp, fun W S P v hW => rAt_calls W S P N v L hW k p hp⟩
theorem Deliver_both (N : Int) (hN : 1 ≤ N) (L : List Par) (hs : Small L) (hm : L.length ≤ 4096) (i : Int) : ∃ (p : Par) (er : Int) (L' : List Par), p.2.2.1.length ≤ 70000 ∧ Small L' ∧ L'.length ≤ L.length ∧
    (∀ W S P v, PNet W S P N v L → Calls Try.prog 8 #[.pointer (some ⟨P, 0, none⟩), .int .i64 i] W (RetDel W S P N p er L')) ∧
    (∀ W S P v, PNet W S P N v L → Calls Try.prog 9 #[.pointer (some ⟨P, 0, none⟩), .int .i64 i] W fun e w' => e = .returned (.int .i64 er) ∧ RetNet TN TP W S P N L' w') ∧
    (∀ W S P v, QNet W S P N v L → Calls Try.prog 19 #[.pointer (some ⟨P, 0, none⟩), .int .i64 i] W (RetRDel W S P N p er L')) := by
  rcases place L i with h | ⟨k, p, rfl, hp⟩
  · exact ⟨noPar, 6, L, by simp [noPar], hs, Nat.le_refl _, fun W S P v hW => Deliver_none W S P N v L hW hN i h, fun W S P v hW => Drop_none W S P N v L hW hN i h, fun W S P v hW => rDeliver_none W S P N v L hW i h⟩
  · have hk := (List.getElem?_eq_some_iff.1 hp).1
    exact ⟨p, 0, L.eraseIdx k, hs.mem hp, hs.erase k, List.length_eraseIdx_le L k, fun W S P v hW => Deliver_calls W S P N v L hW hN hs hm k p hp, fun W S P v hW => Drop_calls W S P N v L hW hN hm k hk, fun W S P v hW => rDeliver_calls W S P N v L hW hm k p hp⟩
theorem Double_both (N : Int) (hN : 1 ≤ N) (L : List Par) (hs : Small L) (i : Int) : ∃ (er : Int) (L' : List Par), Small L' ∧ L'.length ≤ L.length + 1 ∧
    (∀ W S P v, PNet W S P N v L → Calls Try.prog 10 #[.pointer (some ⟨P, 0, none⟩), .int .i64 i] W fun e w' => e = .returned (.int .i64 er) ∧ RetNet TN TP W S P N L' w') ∧
    (∀ W S P v, QNet W S P N v L → Calls Try.prog 20 #[.pointer (some ⟨P, 0, none⟩), .int .i64 i] W fun e w' => e = .returned (.int .i64 er) ∧ RetRef W S P N L' w') := by
  rcases place L i with h | ⟨k, p, rfl, hp⟩
  · exact ⟨6, L, hs, by omega, fun W S P v hW => Double_none W S P N v L hW hN i h, fun W S P v hW => rDouble_none W S P N v L hW i h⟩
  · by_cases hf : L.length < 4096
    · exact ⟨0, L ++ [p], hs.snoc (hs.mem hp), by simp, fun W S P v hW => Double_calls W S P N v L hW hN hs k p hp 0 _ (.inl ⟨hf, rfl, rfl⟩), fun W S P v hW => rDouble_calls W S P N v L hW hs k p hp 0 _ (.inl ⟨hf, rfl, rfl⟩)⟩
    · exact ⟨7, L, hs, by omega, fun W S P v hW => Double_calls W S P N v L hW hN hs k p hp 7 _ (.inr ⟨by omega, rfl, rfl⟩), fun W S P v hW => rDouble_calls W S P N v L hW hs k p hp 7 _ (.inr ⟨by omega, rfl, rfl⟩)⟩
theorem Corrupt_both (N : Int) (hN : 1 ≤ N) (L : List Par) (hs : Small L) (hm : L.length ≤ 4096) (i : Int) (n : Nat) (ys : List UInt8) : ∃ (er : Int) (L' : List Par), Small L' ∧ L'.length = L.length ∧
    (∀ W S P v A c ok, PNet W S P N v L → RdB W ok A n ys → Calls Try.prog 11 #[.pointer (some ⟨P, 0, none⟩), .int .i64 i, .slice A n c] W fun e w' => e = .returned (.int .i64 er) ∧ RetNet TN TP W S P N L' w') ∧
    (∀ W S P v A c ok, QNet W S P N v L → RdB W ok A n ys → Calls Try.prog 21 #[.pointer (some ⟨P, 0, none⟩), .int .i64 i, .slice A n c] W fun e w' => e = .returned (.int .i64 er) ∧ RetRef W S P N L' w') := by
  rcases place L i with h | ⟨k, p, rfl, hp⟩
  · exact ⟨6, L, hs, rfl, fun W S P v A c ok hW _ => Corrupt_none W S P N v L hW hN i h A n c, fun W S P v A c ok hW _ => rCorrupt_none W S P N v L hW i h A n c⟩
  · have hk := (List.getElem?_eq_some_iff.1 hp).1
    by_cases hf : n ≤ 70000
    · by_cases hl : ys.length = n
      · exact ⟨0, L.set k (p.1, p.2.1, ys, false), hs.set k (by simp only; omega), by simp, fun W S P v A c ok hW hr => Corrupt_calls W S P N v L hW hN k p hp A n c ys ok hr 0 _ (.inl ⟨hf, rfl, rfl⟩), fun W S P v A c ok hW hr => rCorrupt_calls W S P N v L hW hm k p hp A n c ys ok hr hf⟩
      · exact ⟨0, L, hs, rfl, fun W S P v A c ok hW hr => absurd hr.len hl, fun W S P v A c ok hW hr => absurd hr.len hl⟩
    · exact ⟨3, L, hs, rfl, fun W S P v A c ok hW hr => Corrupt_calls W S P N v L hW hN k p hp A n c ys ok hr 3 _ (.inr ⟨by omega, rfl, rfl⟩), fun W S P v A c ok hW _ => rCorrupt_long W S P N v L hW k hk A n c (by omega)⟩
theorem sendRes_small {N f t : Int} {xs : List UInt8} {L L' : List Par} {r : Int} (h : sendRes N f t xs L = (r, L')) (hs : Small L) : Small L' ∧ L'.length ≤ L.length + 1 := by
  unfold sendRes at h
  split at h
  · injection h with _ h; subst h; exact ⟨hs, by omega⟩
  · split at h
    · injection h with _ h; subst h; exact ⟨hs, by omega⟩
    · split at h
      · injection h with _ h; subst h; exact ⟨hs, by omega⟩
      · injection h with _ h; subst h; exact ⟨hs.snoc (by simp only; omega), by simp⟩
section
variable {w0 w w1 w2 w3 : World} {K K' S S2 : Nat → Prop} {P P2 : Nat} {N : Int} {v v2 : Value} {L L' : List Par}
/-- Behind a call of the document's net, then one of the program's. -/
theorem Two.next2 (h : Two w0 w K S S2 P P2 N v v2 L) (hq : RetRef w S2 P2 N L' w1) (hb : Below w1.heap.size w1 w2) (hr : RetNet TN TP w2 S P N L' w3) : Both w0 w3 K P P2 N L' ∧ Chg (fun k => ¬ K k) w w3 := by
  obtain ⟨S2', v2', q1, q2, q3, q4⟩ := hq
  obtain ⟨S', v', h1, h2, h3⟩ := hr
  have hP2 := h.ref.sp
  have hz1 := q2.size
  have hz2 := hb.size
  have hz := h.bel.size
  have hs2' : ∀ k, S k → ¬ S2' k := fun k hk hs => by
    rcases q3 k hs with h' | h'
    · exact h.dis k hk h'
    · have := h.net.lt k hk; omega
  have hb1 : Below w0.heap.size w0 w2 := stepBelow (q2.below h.bel hz fun k hk => by rw [hk]; exact h.s2 _ hP2) hb
  refine ⟨⟨S', S2', v', v2', h1, (q1.below hb).chg h2 fun k hk hs => hs2' k hs hk, fun k hk => ?_, fun k hk => ?_, fun k hk hs => ?_, fun k hk => ⟨?_, fun hs => ?_, fun hs => ?_⟩, h2.below hb1 (by omega) h.s⟩, ?_⟩
  · rcases h3 k hk with h' | h'
    · exact h.s k h'
    · omega
  · rcases q3 k hk with h' | h'
    · exact h.s2 k h'
    · omega
  · rcases h3 k hk with h' | h'
    · exact hs2' k h' hs
    · have := q1.lt k hs; omega
  · have := (h.ks k hk).1; have := h2.size; omega
  · have h4 := h.ks k hk
    rcases h3 k hs with h' | h'
    · exact h4.2.1 h'
    · omega
  · have h4 := h.ks k hk
    rcases q3 k hs with h' | h'
    · exact h4.2.2 h'
    · omega
  · exact (((q2.mono (T := fun k => ¬ K k) fun k _ hk hK => (h.ks k hK).2.2 (by rw [hk]; exact hP2))).thenBelow hb).trans h2 fun k _ hk hK => (h.ks k hK).2.1 hk
theorem two_of {S4 S5 : Nat → Prop} {v4 v5 : Value} (h : Two w0 w K S S2 P P2 N v v2 L) (h1 : PNet w1 S4 P N v4 L') (hc : Chg S w w1) (h3 : ∀ k, S4 k → S k ∨ w.heap.size ≤ k) (hb : Below w1.heap.size w1 w2)
    (q1 : QNet w3 S5 P2 N v5 L') (q2 : Chg (fun k => k = P2) w2 w3) (q3 : ∀ k, S5 k → S2 k ∨ w2.heap.size ≤ k) : Two w0 w3 K S4 S5 P P2 N v4 v5 L' := by
  have hP2 := h.ref.sp
  have hz1 := hc.size
  have hz2 := hb.size
  have hz := h.bel.size
  have h4 : ∀ k, S4 k → ¬ S2 k := fun k hk hs => by
    rcases h3 k hk with h' | h'
    · exact h.dis k h' hs
    · have := h.ref.lt k hs; omega
  refine ⟨(h1.below hb).chg q2 fun k hk e => h4 k hk (by rw [e]; exact hP2), q1, fun k hk => ?_, fun k hk => ?_, fun k hk hs => ?_, fun k hk => ⟨?_, fun hs => ?_, fun hs => ?_⟩, ?_⟩
  · rcases h3 k hk with h' | h'
    · exact h.s k h'
    · omega
  · rcases q3 k hk with h' | h'
    · exact h.s2 k h'
    · omega
  · rcases q3 k hs with h' | h'
    · exact h4 k hk h'
    · have := h1.lt k hk; omega
  · have := (h.ks k hk).1; have := q2.size; omega
  · rcases h3 k hs with h' | h'
    · exact (h.ks k hk).2.1 h'
    · have := (h.ks k hk).1; omega
  · rcases q3 k hs with h' | h'
    · exact (h.ks k hk).2.2 h'
    · have := (h.ks k hk).1; omega
  · exact q2.below (stepBelow (hc.below h.bel hz h.s) hb) (by omega) fun k hk => by rw [hk]; exact h.s2 _ hP2
end
end Go.Proofs.Ytmkmbnfmmibifaa
