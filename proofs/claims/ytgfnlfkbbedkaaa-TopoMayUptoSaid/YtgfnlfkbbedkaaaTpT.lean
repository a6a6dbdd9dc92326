/-
  A topology in a box, and what the calls on it leave.
-/
import Derived.Test.YtgfnlfkbbedkaaaTpB
import Derived.Test.YtgfnlfkbbedkaaaTpO
namespace Go.Proofs.Ytgfnlfkbbedkaaa
open Go.RowKit

/-- A topology in the box at block P. -/
structure TBox (w : World) (P : Nat) (A : Option Addr) (n c : Nat) (B : Option Addr) (m d : Nat) (ep : Int) (up : List Bool) (hops : List (List Ed)) : Prop where
  lt : P < w.heap.size
  cells : w.cell? ⟨P, 0, none⟩ = some (.int .u64 ep) ∧ w.cell? ⟨P, 1, none⟩ = some (.slice A n c) ∧ w.cell? ⟨P, 2, none⟩ = some (.slice B m d)
  tv : TopoV w (fun k => k < w.heap.size) (.agg #[.int .u64 ep, .slice A n c, .slice B m d]) ep up hops
section
variable {w w' : World} {P : Nat} {A : Option Addr} {n c : Nat} {B : Option Addr} {m d : Nat} {ep : Int} {up : List Bool} {hops : List (List Ed)}
theorem TBox.below (h : TBox w P A n c B m d ep up hops) (hb : Below w.heap.size w w') : TBox w' P A n c B m d ep up hops :=
  ⟨Nat.lt_of_lt_of_le h.lt hb.size, ⟨(hb.cell (p := ⟨P, 0, none⟩) h.lt).trans h.cells.1, (hb.cell (p := ⟨P, 1, none⟩) h.lt).trans h.cells.2.1, (hb.cell (p := ⟨P, 2, none⟩) h.lt).trans h.cells.2.2⟩,
    (h.tv.below hb).mono fun k hk _ => Nat.lt_of_lt_of_le hk hb.size⟩
theorem TBox.drew (h : TBox w P A n c B m d ep up hops) : TBox w.drew P A n c B m d ep up hops := h.below (Below.refl _ _).drew
theorem TBox.next (h : TBox w P A n c B m d ep up hops) (hf : Few hops) (flow node : Int) (h1 : inI flow) :
    Calls Try.prog 14 #[.agg #[.int .u64 ep, .slice A n c, .slice B m d], .int .i64 flow, .int .i64 node] w (RetI w (nextOf hops flow node)) := next_calls w _ ep up hops h.tv hf flow node h1
theorem TBox.prev (h : TBox w P A n c B m d ep up hops) (hf : Few hops) (flow node : Int) (h1 : inI flow) :
    Calls Try.prog 15 #[.agg #[.int .u64 ep, .slice A n c, .slice B m d], .int .i64 flow, .int .i64 node] w (RetI w (prevOf hops flow node)) := prev_calls w _ ep up hops h.tv hf flow node h1
theorem TBox.reach (h : TBox w P A n c B m d ep up hops) (hf : Few hops) (flow node : Int) (h1 : inI flow) :
    Calls Try.prog 12 #[.agg #[.int .u64 ep, .slice A n c, .slice B m d], .int .i64 flow, .int .i64 node] w (RetR w (edgesOf hops flow) node) := reach_calls w _ ep up hops h.tv hf flow node h1
theorem TBox.edge (h : TBox w P A n c B m d ep up hops) (flow a b : Int) (h1 : inI flow) (r : Bool) (hr : decide ((a, b) ∈ edgesOf hops flow) = r) :
    Calls Try.prog 16 #[.agg #[.int .u64 ep, .slice A n c, .slice B m d], .int .i64 flow, .int .i64 a, .int .i64 b] w fun e w' => e = .returned (.bool r) ∧ Below w.heap.size w w' := by
  rw [← hr]; exact edge_calls w _ ep up hops h.tv flow a b h1
theorem TBox.order (h : TBox w P A n c B m d ep up hops) (hf : Few hops) (k : Nat) (es : List Ed) (hes : hops[k]? = some es) :
    Calls Try.prog 10 #[.agg #[.int .u64 ep, .slice A n c, .slice B m d], .int .i64 (k : Int)] w (RetO w (orderOf es)) := order_in w _ ep up hops h.tv hf k es hes
/-- What a call that hands back a topology leaves, laid in a box. -/
theorem TBox.made {v : Value} (hT : TopoV w' (fun k => w.heap.size ≤ k ∧ k < w'.heap.size) v ep up hops) : ∃ A n c B m d, v = .agg #[.int .u64 ep, .slice A n c, .slice B m d] ∧ n ≤ c ∧ m ≤ d ∧
    TBox (w'.alloc (.cells #[.int .u64 ep, .slice A n c, .slice B m d] 27)) w'.heap.size A n c B m d ep up hops := by
  obtain ⟨A, n, c, B, m, d, rfl, g1, g2, g3, g4⟩ := hT
  have b2 : Below w'.heap.size w' (w'.alloc (.cells #[.int .u64 ep, .slice A n c, .slice B m d] 27)) := (Below.refl _ _).alloc (Nat.le_refl _) _
  exact ⟨A, n, c, B, m, d, rfl, g1, g2, by simp, by simp, A, n, c, B, m, d, rfl, g1, g2, (g3.below b2).mono fun k hk _ => by simp; omega, (g4.below b2).mono fun k hk _ => by simp; omega⟩
end
/-- A row of ints that is read, wherever it lies. -/
def RowI (w : World) (A : Option Addr) (n : Nat) (zs : List Int) : Prop := RdI w (fun _ => True) A n zs
section
variable {w w' : World} {A : Option Addr} {n : Nat} {zs : List Int}
theorem RowI.below (h : RowI w A n zs) (hb : Below w.heap.size w w') : RowI w' A n zs := RdI.below h hb
theorem RowI.drew (h : RowI w A n zs) : RowI w.drew A n zs := h.below (Below.refl _ _).drew
theorem RowI.len (h : RowI w A n zs) : zs.length = n := h.1
theorem RowI.has (h : RowI w A n zs) (c : Nat) (x : Int) (r : Bool) (hr : decide (x ∈ zs) = r) :
    Calls Try.prog 11 #[.slice A n c, .int .i64 x] w fun e w' => e = .returned (.bool r) ∧ Below w.heap.size w w' := by
  rw [← hr]; exact weakB (has_calls w _ A n c zs x h)
theorem OwnI.row {base : Nat} {v : Value} (h : OwnI w base v zs) : ∃ A N c, v = .slice A N c ∧ N ≤ c ∧ RowI w A N zs ∧ N ≤ 9223372036854775807 := by
  obtain ⟨A, c, e, h1, h2, _, h3⟩ := h.rd
  exact ⟨A, _, c, e, h1, h3.mono fun _ _ _ => trivial, by omega⟩
end
theorem few_edges (l : List (Nat × Nat)) : Few [edgesB l] := few_one (by
  show (edgesB l).length ≤ 1048576
  unfold edgesB
  rw [List.length_map, List.length_take]
  omega)
theorem has_eq {xs : List Int} {x : Int} {r : Bool} (h : x ∈ xs ↔ r = true) : decide (x ∈ xs) = r := by
  rw [Bool.eq_iff_iff, decide_eq_true_iff]; exact h
theorem reach_head {es : List Ed} {a x b : Int} (h : (a, x) ∈ es) (hr : Reaches es x b) : Reaches es a b := by
  induction hr with
  | one h2 => exact .more (.one h) h2
  | more _ h2 ih => exact .more ih h2
theorem reach_cases {es : List Ed} {a b : Int} (hr : Reaches es a b) : (a, b) ∈ es ∨ ∃ x, (a, x) ∈ es ∧ Reaches es x b := by
  induction hr with
  | one h => exact .inl h
  | more _ h2 ih =>
    rcases ih with h | ⟨x, h, h3⟩
    · exact .inr ⟨_, h, .one h2⟩
    · exact .inr ⟨x, h, .more h3 h2⟩
end Go.Proofs.Ytgfnlfkbbedkaaa
