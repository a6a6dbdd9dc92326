/-
  NetOrder: words.
-/
import Derived.Test.YtmkmbnfmmibifaaNetL
import Derived.Test.YtmkmbnfmmibifaaSt3
namespace Go.Proofs.Ytmkmbnfmmibifaa
open Go.RowKit

def El.u16 : El Nat where
  k := 1
  bulk := fun _ => 1
  V := fun _ _ vs x => vs = [.int .u16 (x : Int)] ∧ x ≤ 65535
  len := by rintro w ok vs x ⟨rfl, _⟩; rfl
  one := by rintro w ok vs x ⟨rfl, _⟩ u hu; simp at hu; subst hu; rfl
  keep := fun h _ _ => h
  mono := fun h _ => h
theorem info_b : (Try.prog.info? 28).map (fun i => (i.zero, i.size, i.bytes)) = some (some (.slice none 0 0), 1, 24) := by kernel_rfl
/-- The step of a region that draws: append(s[:n:n], others...). -/
theorem stepFull {α : Type} {E : El α} {T : TypeId} {ok : Nat → Prop} {xs ys : List α} {P : Program} {ops : Array Oper} {o : Oper} {a : Act} {Q : Exit → Act → World → Prop} {K : Act → World → Prop} {X : Prop} {W : World} (hgd : o.guard = none) (s y : Operand) (st : TypeId)
    (ho : o.op = .call { callee := .builtin .append, args := #[s, y], argTypes := #[st, st] }) (i : TypeInfo) (z : Value) (bytes : Nat) (ht : P.underlying st = some (.slice T)) (hi : P.info? T = some i) (hz : i.zero = some z)
    (hsize : i.size = E.k) (hby : i.bytes = bytes) (hzs : z.cells.size = E.k) (hk : 0 < E.k) (A : Option Addr) (n : Nat) (hs : a.eval s = .slice A n n) (HX : Rd E W ok A n xs) (hA : A = none → n = 0) (A' : Option Addr) (m c : Nat) (hy : a.eval y = .slice A' m c) (HY : Rd E W ok A' m ys)
    (hm : n + m ≤ maxLen) (hb : (n + m) * bytes ≤ 140737488355328)
    (h : ∀ A1 c1 w1, n + m ≤ c1 → (A1 = none → n + m = 0) → Rd E w1 (fun k => ok k ∨ (W.heap.size ≤ k ∧ k < w1.heap.size)) A1 (n + m) (xs ++ ys) → Below W.heap.size W w1 → K (a.put o.dst (.slice A1 (n + m) c1)) w1) :
    if Region.wanted o (yielded ops a.tmps) = true then Oper.wp P o a W K Q else X := by
  have hw : Region.wanted o (yielded ops a.tmps) = true := by simp [Region.wanted, hgd]
  rw [if_pos hw]
  obtain ⟨A1, c1, w1, hr, h1, h2, h3, h4⟩ := run_app_full st o.type i z bytes ht hi hz hsize hby hzs hk A n HX hA A' m c HY hm hb
  unfold Oper.wp execOp
  simp only [ho, resolve, invoke, builtin, Sem.run_bind, Sem.run_pure, Result.andThen_ok, List.map_toArray, List.map_cons, List.map_nil, hs, hy, hr]
  exact h A1 c1 w1 h1 h2 h3 h4
theorem Own.rdN {α : Type} {E : El α} {T : TypeId} {w : World} {S : Nat → Prop} {v : Value} {xs : List α} (h : Own E T w S v xs) (hm : xs.length ≤ 9223372036854775807) : ∃ A c, v = .slice A xs.length c ∧ xs.length ≤ c ∧ (A = none → xs.length = 0) ∧ Rd E w S A xs.length xs := by
  obtain ⟨A, c, e, hc, hr⟩ := h.rd hm
  refine ⟨A, c, e, hc, fun e2 => ?_, hr⟩
  rcases Nat.eq_zero_or_pos xs.length with h0 | h0
  · exact h0
  · obtain ⟨b, o, e3, _⟩ := hr.2.2 h0
    rw [e2] at e3
    cases e3
/-- s[:k:k]. -/
theorem cutFullR {α : Type} {P : Program} (E : El α) (t : TypeId) (ht : P.underlying t = some (.slice (P.elem t))) (hs : ∀ W, (sizeOf (P.elem t)).run P W = .ok E.k W) (A : Option Addr) (n c hi : Nat) (h2 : hi ≤ n) (h3 : n ≤ c) (hA : A = none → n = 0) :
    ∃ A' : Option Addr, (∀ (kh km : IntKind) (W : World), (Instr.slice t (.slice A n c) none (some (.int kh (hi : Int))) (some (.int km (hi : Int)))).run P W = .ok (.slice A' hi hi) W) ∧ (A' = none → hi = 0) ∧
      ∀ (w : World) (ok : Nat → Prop) (xs : List α), Rd E w ok A n xs → Rd E w ok A' hi (xs.take hi) := by
  refine ⟨if hi = 0 then A else A.map fun a => a.add (0 * E.k), fun kh km W => ?_, fun e => ?_, fun w ok xs h => ?_⟩
  · rw [run_slice_hm W _ A n c ht kh km hi hi (by omega) (by omega) (by omega), hs]
    rfl
  · rcases Nat.eq_zero_or_pos hi with h0 | h0
    · exact h0
    · rw [if_neg (by omega)] at e
      cases A with
      | none => have := hA rfl; omega
      | some a => cases e
  · rcases Nat.eq_zero_or_pos hi with h0 | h0
    · subst h0
      rw [List.take_zero]
      exact Rd.nil _ _ _ _
    · have h5 := h.cut (c := c) (lo := 0) (hi := hi) (Nat.zero_le _) h2 h3
      rw [if_neg (by omega)] at h5
      rw [if_neg (by omega)]
      exact h5
/-- What NetOrder knows of the parcels that stay. -/
def Want (L : List Par) (W : List (List UInt8)) : Prop := L.map (·.2.2.1) = W ∧ ∀ p ∈ L, p.2.1 = 1
theorem Want.len {L : List Par} {W : List (List UInt8)} (h : Want L W) : W.length = L.length := by rw [← h.1, List.length_map]
theorem Want.snoc {L : List Par} {W : List (List UInt8)} (h : Want L W) (f : Int) (xs : List UInt8) (b : Bool) : Want (L ++ [(f, 1, xs, b)]) (W ++ [xs]) := by
  refine ⟨by rw [List.map_append, h.1]; rfl, fun p hp => ?_⟩
  rcases List.mem_append.1 hp with hp | hp
  · exact h.2 p hp
  · rw [List.mem_singleton] at hp; rw [hp]
theorem Want.erase {L : List Par} {W : List (List UInt8)} (h : Want L W) (k : Nat) : Want (L.eraseIdx k) (W.take k ++ W.drop (k + 1)) := by
  refine ⟨?_, fun p hp => h.2 p (List.mem_of_mem_eraseIdx hp)⟩
  rw [← h.1, List.eraseIdx_eq_take_drop_succ, List.map_append, List.map_take, List.map_drop]
theorem Want.at_ {L : List Par} {W : List (List UInt8)} (h : Want L W) (j : Nat) (p : Par) (hp : L[j]? = some p) : W[j]? = some p.2.2.1 ∧ p.2.1 = 1 := by
  refine ⟨?_, h.2 p (List.mem_of_getElem? hp)⟩
  rw [← h.1, List.getElem?_map, hp]
  rfl
/-- NetOrder's net, and the blocks that it does not write. -/
structure One (w0 w : World) (K S : Nat → Prop) (P : Nat) (v : Value) (L : List Par) : Prop where
  net : PNet w S P 2 v L
  s : ∀ k, S k → w0.heap.size ≤ k
  ks : ∀ k, K k → k < w.heap.size ∧ ¬ S k
  bel : Below w0.heap.size w0 w
/-- The net and its copy. -/
structure Duo (w0 w : World) (K S S4 : Nat → Prop) (P P4 : Nat) (v v4 : Value) (L L4 : List Par) : Prop where
  net : PNet w S P 2 v L
  cop : PNet w S4 P4 2 v4 L4
  s : ∀ k, S k → w0.heap.size ≤ k
  s4 : ∀ k, S4 k → w0.heap.size ≤ k
  dis : ∀ k, S k → ¬ S4 k
  ks : ∀ k, K k → k < w.heap.size ∧ ¬ S k ∧ ¬ S4 k
  bel : Below w0.heap.size w0 w
section
variable {w0 w w1 : World} {K K' S S4 D : Nat → Prop} {P P4 : Nat} {v v4 : Value} {L L' L4 : List Par}
theorem One.keep (h : One w0 w K S P v L) (hc : Chg D w w1) (hd : ∀ k, D k → w0.heap.size ≤ k ∧ ¬ S k) (hK : ∀ k, K' k → K k ∨ New w w1 k) : One w0 w1 K' S P v L := by
  refine ⟨h.net.chg hc fun k hk hD => (hd k hD).2 hk, h.s, fun k hk => ?_, hc.below h.bel h.bel.size fun k hk => (hd k hk).1⟩
  rcases hK k hk with hk | hk
  · exact ⟨Nat.lt_of_lt_of_le (h.ks k hk).1 hc.size, (h.ks k hk).2⟩
  · exact ⟨hk.2, fun hs => by have := h.net.lt k hs; have := hk.1; omega⟩
theorem One.below (h : One w0 w K S P v L) (hb : Below w.heap.size w w1) : One w0 w1 K S P v L := h.keep (D := NoB) (Chg.ofBelow hb) (fun _ h => h.elim) fun _ hk => .inl hk
theorem One.next (h : One w0 w K S P v L) (hr : RetNet TN TP w S P 2 L' w1) : (∃ S' v', One w0 w1 K S' P v' L') ∧ Chg (fun k => ¬ K k) w w1 := by
  obtain ⟨S', v', h1, h2, h3⟩ := hr
  refine ⟨⟨S', v', h1, fun k hk => ?_, fun k hk => ⟨Nat.lt_of_lt_of_le (h.ks k hk).1 h2.size, fun hs => ?_⟩, h2.below h.bel h.bel.size h.s⟩, h2.mono fun k _ hk hK => (h.ks k hK).2 hk⟩
  · rcases h3 k hk with h' | h'
    · exact h.s k h'
    · have := h.bel.size; omega
  · rcases h3 k hs with h' | h'
    · exact (h.ks k hk).2 h'
    · have := (h.ks k hk).1; omega
theorem One.duo (h : One w0 w K S P v L) (hc : PNet w1 S4 P4 2 v4 L4) (hb : Below w.heap.size w w1) (h4 : ∀ k, S4 k → w.heap.size ≤ k) : Duo w0 w1 K S S4 P P4 v v4 L L4 := by
  have h1 := h.below hb
  have hz := h.bel.size
  exact ⟨h1.net, hc, h.s, fun k hk => by have := h4 k hk; omega, fun k hk hs => by have := h4 k hs; have := h.net.lt k hk; omega, fun k hk => ⟨(h1.ks k hk).1, (h1.ks k hk).2, fun hs => by have := h4 k hs; have := (h.ks k hk).1; omega⟩, h1.bel⟩
theorem Duo.one (h : Duo w0 w K S S4 P P4 v v4 L L4) : One w0 w K S P v L := ⟨h.net, h.s, fun k hk => ⟨(h.ks k hk).1, (h.ks k hk).2.1⟩, h.bel⟩
theorem Duo.keep (h : Duo w0 w K S S4 P P4 v v4 L L4) (hb : Below w.heap.size w w1) (hK : ∀ k, K' k → K k ∨ New w w1 k) : Duo w0 w1 K' S S4 P P4 v v4 L L4 := by
  refine ⟨h.net.below hb, h.cop.below hb, h.s, h.s4, h.dis, fun k hk => ?_, stepBelow h.bel hb⟩
  rcases hK k hk with hk | hk
  · exact ⟨Nat.lt_of_lt_of_le (h.ks k hk).1 hb.size, (h.ks k hk).2⟩
  · exact ⟨hk.2, fun hs => by have := h.net.lt k hs; have := hk.1; omega, fun hs => by have := h.cop.lt k hs; have := hk.1; omega⟩
theorem Duo.below (h : Duo w0 w K S S4 P P4 v v4 L L4) (hb : Below w.heap.size w w1) : Duo w0 w1 K S S4 P P4 v v4 L L4 := h.keep hb fun _ hk => .inl hk
theorem Duo.next (h : Duo w0 w K S S4 P P4 v v4 L L4) {S5 : Nat → Prop} {v5 : Value} {L5 : List Par} (h1 : PNet w1 S5 P4 2 v5 L5) (h2 : Chg S4 w w1) (h3 : ∀ k, S5 k → S4 k ∨ w.heap.size ≤ k) : Duo w0 w1 K S S5 P P4 v v5 L L5 ∧ Chg (fun k => ¬ K k) w w1 := by
  refine ⟨⟨h.net.chg h2 fun k hk hs => h.dis k hk hs, h1, h.s, fun k hk => ?_, fun k hk hs => ?_, fun k hk => ⟨Nat.lt_of_lt_of_le (h.ks k hk).1 h2.size, (h.ks k hk).2.1, fun hs => ?_⟩, h2.below h.bel h.bel.size h.s4⟩, h2.mono fun k _ hk hK => (h.ks k hK).2.2 hk⟩
  · rcases h3 k hk with h' | h'
    · exact h.s4 k h'
    · have := h.bel.size; omega
  · rcases h3 k hs with h' | h'
    · exact h.dis k hk h'
    · have := h.net.lt k hk; omega
  · rcases h3 k hs with h' | h'
    · exact (h.ks k hk).2.2 h'
    · have := (h.ks k hk).1; omega
end
end Go.Proofs.Ytmkmbnfmmibifaa
