/-
  Parcels; what lies apart; the net in memory.
-/
import Derived.Test.YtmkmbnfmmibifaaBc
namespace Go.Proofs.Ytmkmbnfmmibifaa
open Go.RowKit

abbrev Par := Int × Int × List UInt8 × Bool
abbrev elPar : El Par := El.prod El.int (El.prod El.int (El.prod El.bytes El.bool))
def inI (z : Int) : Prop := -9223372036854775808 ≤ z ∧ z ≤ 9223372036854775807
theorem par_open {w : World} {ok : Nat → Prop} {vs : List Value} {p : Par} (h : elPar.V w ok vs p) : ∃ A n c, vs = [.int .i64 p.1, .int .i64 p.2.1, .slice A n c, .bool p.2.2.2] ∧ n ≤ c ∧ inI p.1 ∧ inI p.2.1 ∧ RdB w ok A n p.2.2.1 := by
  obtain ⟨_, _, e1, ⟨rfl, hg⟩, _, _, rfl, ⟨rfl, hs⟩, _, _, rfl, ⟨A, n, c, rfl, hc, hr⟩, rfl⟩ := h
  exact ⟨A, n, c, e1, hc, hg, hs, hr⟩
theorem par_mk {w : World} {ok : Nat → Prop} {A : Option Addr} {n c : Nat} {f t : Int} {xs : List UInt8} {b : Bool} (hf : inI f) (ht : inI t) (hc : n ≤ c) (hr : RdB w ok A n xs) :
    elPar.V w ok [.int .i64 f, .int .i64 t, .slice A n c, .bool b] (f, t, xs, b) :=
  ⟨[.int .i64 f], _, rfl, ⟨rfl, hf⟩, [.int .i64 t], _, rfl, ⟨rfl, ht⟩, [.slice A n c], _, rfl, ⟨A, n, c, rfl, hc, hr⟩, rfl⟩
theorem chgBox (w : World) (x : Nat) (a b c d : Value) : Chg (fun k => k = x) w ((((w.setCell ⟨x, 0, none⟩ a).setCell ⟨x, 1, none⟩ b).setCell ⟨x, 2, none⟩ c).setCell ⟨x, 3, none⟩ d) :=
  (((Chg.set w ⟨x, 0, none⟩ a).trans (Chg.set _ ⟨x, 1, none⟩ b) fun _ _ h => h).trans (Chg.set _ ⟨x, 2, none⟩ c) fun _ _ h => h).trans (Chg.set _ ⟨x, 3, none⟩ d) fun _ _ h => h
set_option maxHeartbeats 800000 in
theorem apart_calls (f t : Int) (A : Option Addr) (n c : Nat) (xs : List UInt8) (b : Bool) (w : World) (ok : Nat → Prop) (hr : RdB w ok A n xs) (hn : n ≤ 140737488355328) :
    Calls Try.prog 35 #[.agg #[.int .i64 f, .int .i64 t, .slice A n c, .bool b]] w fun e w' =>
      ∃ A' c', e = .returned (.agg #[.int .i64 f, .int .i64 t, .slice A' n c', .bool b]) ∧ FB w w' A' n c' xs ∧ Below w.heap.size w w' := by
  obtain ⟨wS, hwS⟩ : ∃ wS, (w.alloc (.cells #[.int .i64 f, .int .i64 t, .slice A n c, .bool b] 35)).alloc (.cells #[.int .i64 0, .int .i64 0, .slice none 0 0, .bool false] 35) = wS := ⟨_, rfl⟩
  have hbS : Below w.heap.size w wS := by rw [← hwS]; exact ((Below.refl _ _).alloc (Nat.le_refl _) _).alloc (by simp) _
  have p0 : wS.cell? ⟨w.heap.size, 0, none⟩ = some (.int .i64 f) := by rw [← hwS]; simp
  have p1 : wS.cell? ⟨w.heap.size, 1, none⟩ = some (.int .i64 t) := by rw [← hwS]; simp
  have p2 : wS.cell? ⟨w.heap.size, 2, none⟩ = some (.slice A n c) := by rw [← hwS]; simp
  have p3 : wS.cell? ⟨w.heap.size, 3, none⟩ = some (.bool b) := by rw [← hwS]; simp
  have r0 : wS.cell? ⟨w.heap.size + 1, 0, none⟩ = some (.int .i64 0) := by rw [← hwS]; simp
  have r1 : wS.cell? ⟨w.heap.size + 1, 1, none⟩ = some (.int .i64 0) := by rw [← hwS]; simp
  have r2 : wS.cell? ⟨w.heap.size + 1, 2, none⟩ = some (.slice none 0 0) := by rw [← hwS]; simp
  have r3 : wS.cell? ⟨w.heap.size + 1, 3, none⟩ = some (.bool false) := by rw [← hwS]; simp
  have m2 : ∀ i, wS.frozen? ⟨w.heap.size, i, none⟩ = false := fun i => by rw [← hwS]; simp
  have n2 : ∀ i, wS.frozen? ⟨w.heap.size + 1, i, none⟩ = false := fun i => by rw [← hwS]; simp
  have hrS := hr.below hbS
  have HWS := Lib.hid hwS
  clear hwS hr
  go_enter Try.func35, Try.ntmps35
  go_wp2_with fail
  rw [HWS.out]
  refine (bclone_calls A n c xs wS ok hrS hn).mono ?_
  unfold RetB
  rintro e w2 ⟨v, rfl, ho, hb⟩
  obtain ⟨A', c', rfl, hr'⟩ := ho.asFB n hrS.len
  have hb2 := stepBelow hbS hb
  have hz : w.heap.size + 1 < wS.heap.size := by rw [← HWS.out]; simp
  have q0 := cellBelow hb p0
  have q1 := cellBelow hb p1
  have q2 := cellBelow hb p2
  have q3 := cellBelow hb p3
  have s0 := cellBelow hb r0
  have s1 := cellBelow hb r1
  have s2 := cellBelow hb r2
  have s3 := cellBelow hb r3
  have k2 : ∀ i, w2.frozen? ⟨w.heap.size, i, none⟩ = false := fun i => (hb.frozen (p := ⟨w.heap.size, i, none⟩) (by show w.heap.size < _; omega)).trans (m2 i)
  have l2 : ∀ i, w2.frozen? ⟨w.heap.size + 1, i, none⟩ = false := fun i => (hb.frozen (p := ⟨w.heap.size + 1, i, none⟩) hz).trans (n2 i)
  clear p0 p1 p2 p3 r0 r1 r2 r3 m2 n2 ho
  have hne : ∀ k, New wS w2 k → k ≠ w.heap.size ∧ k ≠ w.heap.size + 1 := fun k hk => by have := hk.1; omega
  go_wp2_with fail
  refine bodyPost_ret (v := .agg #[.int .i64 f, .int .i64 t, .slice A' n c', .bool b]) (by simp [results, Try.results35, go_sem, s0, s1, s2, s3]) rfl ⟨A', c', rfl, ?_, ?_⟩
  · have hcb : Chg (fun k => k = w.heap.size ∨ k = w.heap.size + 1) w2 (((((w2.setCell ⟨w.heap.size, 2, none⟩ (.slice A' n c')).setCell ⟨w.heap.size + 1, 0, none⟩ (.int .i64 f)).setCell ⟨w.heap.size + 1, 1, none⟩ (.int .i64 t)).setCell ⟨w.heap.size + 1, 2, none⟩ (.slice A' n c')).setCell ⟨w.heap.size + 1, 3, none⟩ (.bool b)) :=
      ((Chg.set w2 ⟨w.heap.size, 2, none⟩ (.slice A' n c')).mono fun _ _ h => .inl h).trans (chgBox _ (w.heap.size + 1) _ _ _ _) fun _ _ h => .inr h
    refine (hr'.keep hcb fun k hk => ?_).from hbS.size
    have := hne k hk
    rintro (h | h) <;> omega
  · exact ((((hb2.setCell (p := ⟨w.heap.size, 2, none⟩) (Nat.le_refl _) _).setCell (p := ⟨w.heap.size + 1, 0, none⟩) (by simp) _).setCell (p := ⟨w.heap.size + 1, 1, none⟩) (by simp) _).setCell (p := ⟨w.heap.size + 1, 2, none⟩) (by simp) _).setCell (p := ⟨w.heap.size + 1, 3, none⟩) (by simp) _
/-! ### The net in memory -/
/-- The block P is a net of so many nodes, its row the value v, its parcels L; it takes the blocks of S. -/
structure NetAt (T R : TypeId) (w : World) (S : Nat → Prop) (P : Nat) (N : Int) (v : Value) (L : List Par) : Prop where
  blk : w.heap[P]? = some (.cells #[.int .i64 N, v] T (0, 0))
  sp : S P
  own : Own elPar R w (fun k => S k ∧ k ≠ P) v L
  lt : ∀ k, S k → k < w.heap.size
section
variable {T R : TypeId} {w w' : World} {S D : Nat → Prop} {P : Nat} {N : Int} {v : Value} {L : List Par}
theorem NetAt.plt (h : NetAt T R w S P N v L) : P < w.heap.size := h.lt P h.sp
theorem NetAt.c0 (h : NetAt T R w S P N v L) : w.cell? ⟨P, 0, none⟩ = some (.int .i64 N) := by simp [World.cell?, h.blk]
theorem NetAt.c1 (h : NetAt T R w S P N v L) : w.cell? ⟨P, 1, none⟩ = some v := by simp [World.cell?, h.blk]
theorem NetAt.fr (h : NetAt T R w S P N v L) (i : Nat) : w.frozen? ⟨P, i, none⟩ = false := by simp [World.frozen?, h.blk]
theorem NetAt.chg (h : NetAt T R w S P N v L) (hc : Chg D w w') (hs : ∀ k, S k → ¬ D k) : NetAt T R w' S P N v L :=
  ⟨(hc.block P h.plt (hs P h.sp)).trans h.blk, h.sp, h.own.chg hc fun k _ hk => hs k hk.1, fun k hk => Nat.lt_of_lt_of_le (h.lt k hk) hc.size⟩
theorem NetAt.below (h : NetAt T R w S P N v L) (hb : Below w.heap.size w w') : NetAt T R w' S P N v L := h.chg (D := NoB) (Chg.ofBelow hb) fun _ _ h => h
theorem NetAt.drew (h : NetAt T R w S P N v L) : NetAt T R w.drew S P N v L := h.below (Below.refl _ _).drew
theorem NetAt.form (h : NetAt T R w S P N v L) : ∃ A c, v = .slice A L.length c ∧ L.length ≤ c := by
  obtain ⟨vss, _, h2, _⟩ := h.own
  rcases h2.2 with ⟨rfl, h0⟩ | ⟨g, cap, cur, rfl, _, _, hn, _⟩
  · exact ⟨none, 0, by rw [h0], by omega⟩
  · exact ⟨_, cap, rfl, hn⟩
/-- The row is laid anew. -/
theorem NetAt.put {S' : Nat → Prop} {v' : Value} {L' : List Par} (h : NetAt T R w S P N v L) (hc : Chg (fun k => S k ∧ k ≠ P) w w') (ho : Own elPar R w' S' v' L') (hs : ∀ k, S' k → (S k ∧ k ≠ P) ∨ (w.heap.size ≤ k ∧ k < w'.heap.size)) :
    NetAt T R (w'.setCell ⟨P, 1, none⟩ v') (fun k => S' k ∨ k = P) P N v' L' := by
  have hb : w'.heap[P]? = some (.cells #[.int .i64 N, v] T (0, 0)) := (hc.block P h.plt (fun hh => hh.2 rfl)).trans h.blk
  have hne : ∀ k, S' k → k ≠ P := fun k hk => by
    rcases hs k hk with h1 | h1
    · exact h1.2
    · have := h.plt; omega
  refine ⟨?_, .inr rfl, ?_, fun k hk => ?_⟩
  · rw [heap_setCell_same w' P 1 _ _ _ hb]
    rfl
  · exact (ho.chg (Chg.set w' ⟨P, 1, none⟩ v') fun k _ hk => hne k hk).mono fun k _ hk => ⟨.inl hk, hne k hk⟩
  · show k < (w'.setCell ⟨P, 1, none⟩ v').heap.size
    have hz : (w'.setCell ⟨P, 1, none⟩ v').heap.size = w'.heap.size := by simp [World.setCell]
    rw [hz]
    rcases hk with hk | rfl
    · rcases hs k hk with h1 | h1
      · exact Nat.lt_of_lt_of_le (h.lt k h1.1) hc.size
      · exact h1.2
    · exact Nat.lt_of_lt_of_le h.plt hc.size
end
theorem heapAlloc (w : World) (o : Obj) : w.heap.size ≤ (w.alloc o).heap.size := (allocBelow' w o).size
/-- What a call leaves that changes a net. -/
def RetNet (T R : TypeId) (w : World) (S : Nat → Prop) (P : Nat) (N : Int) (L' : List Par) (w' : World) : Prop := ∃ S' v', NetAt T R w' S' P N v' L' ∧ Chg S w w' ∧ ∀ k, S' k → S k ∨ w.heap.size ≤ k
theorem RetNet.from {T R : TypeId} {w wS w' : World} {S : Nat → Prop} {P : Nat} {N : Int} {L : List Par} (h : RetNet T R wS S P N L w') (hb : Below w.heap.size w wS) : RetNet T R w S P N L w' := by
  obtain ⟨S', v', h1, h2, h3⟩ := h
  exact ⟨S', v', h1, (Chg.ofBelow hb).trans h2 fun _ _ h => h, fun k hk => (h3 k hk).imp_right (Nat.le_trans hb.size)⟩
theorem RetNet.below {T R : TypeId} {w w1 w' : World} {S : Nat → Prop} {P : Nat} {N : Int} {L : List Par} (h : RetNet T R w S P N L w1) (hb : Below w1.heap.size w1 w') : RetNet T R w S P N L w' := by
  obtain ⟨S', v', h1, h2, h3⟩ := h
  exact ⟨S', v', h1.below hb, h2.thenBelow hb, h3⟩
theorem RetNet.same {T R : TypeId} {w w' : World} {S : Nat → Prop} {P : Nat} {N : Int} {v : Value} {L : List Par} (h : NetAt T R w S P N v L) (hb : Below w.heap.size w w') : RetNet T R w S P N L w' :=
  ⟨S, v, h.below hb, Chg.ofBelow hb, fun _ hk => .inl hk⟩
end Go.Proofs.Ytmkmbnfmmibifaa
