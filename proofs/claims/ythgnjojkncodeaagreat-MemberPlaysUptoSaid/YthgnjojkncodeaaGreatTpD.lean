/-
  The chapter's topology: diamond.
-/
import Derived.Test.YthgnjojkncodeaaGreatTp8
namespace Go.Proofs.YthgnjojkncodeaaGreat
open Go.RowKit

theorem info_ed : (Tryz.prog.info? 77).map (fun i => (i.zero, i.size, i.bytes)) = some (some (.agg #[.int .i64 0, .int .i64 0]), 2, 16) := by kernel_rfl
def dia : List Ed := [(0, 2), (0, 3), (2, 4), (3, 4)]
/-- What a call leaves that hands back a topology in new memory. -/
def RetT (w : World) (ep : Int) (up : List Bool) (hops : List (List Ed)) (e : Ending) (w' : World) : Prop := ∃ v, e = .returned v ∧ TopoV w' (fun k => w.heap.size ≤ k ∧ k < w'.heap.size) v ep up hops ∧ Below w.heap.size w w'
/-- A row of cells in one block reads as its elements. -/
theorem rd_block {α : Type} {E : El α} {w : World} {ok : Nat → Prop} {g : Nat} {xs : List α} {vss : List (List Value)} (hV : Cells E w ok vss xs) (hg : g < w.heap.size) (hok : ok g) (hm : xs.length ≤ 9223372036854775807)
    (hc : ∀ j u, vss.flatten[j]? = some u → w.cell? ⟨g, j, none⟩ = some u) : Rd E w ok (some ⟨g, 0, none⟩) xs.length xs := by
  refine ⟨rfl, hm, fun _ => ⟨g, 0, rfl, hok, hg, fun j x hx => ?_⟩⟩
  obtain ⟨vs, h1, h2, h3⟩ := hV.at_ j x hx
  exact ⟨vs, h2, fun r u hu => by rw [Nat.zero_add]; exact hc _ _ (h3 r u hu)⟩
theorem dia_cells (w : World) (ok : Nat → Prop) : Cells elEd w ok [[.int .i64 0, .int .i64 2], [.int .i64 0, .int .i64 3], [.int .i64 2, .int .i64 4], [.int .i64 3, .int .i64 4]] dia :=
  .cons (ed_mk w ok (x := (0, 2)) (by decide) (by decide)) (.cons (ed_mk w ok (x := (0, 3)) (by decide) (by decide)) (.cons (ed_mk w ok (x := (2, 4)) (by decide) (by decide)) (.cons (ed_mk w ok (x := (3, 4)) (by decide) (by decide)) .nil)))
theorem dia_own (w : World) (S : Nat → Prop) (g : Nat) (hS : S g) (hg : w.heap[g]? = some (.cells #[.int .i64 0, .int .i64 2, .int .i64 0, .int .i64 3, .int .i64 2, .int .i64 4, .int .i64 3, .int .i64 4] 77 (0, 0))) :
    Own elEd 77 w S (.slice (some ⟨g, 0, none⟩) 4 4) dia :=
  ⟨_, dia_cells w _, ⟨rfl, .inr ⟨g, 4, _, rfl, Nat.zero_le _, hg, by decide, by decide, rfl, rfl⟩⟩, fun k hk => by injection hk with hk; subst hk; exact hS⟩
theorem up5_rd (w : World) (ok : Nat → Prop) (g : Nat) (hok : ok g) (hg : w.heap[g]? = some (.cells #[.bool true, .bool true, .bool true, .bool true, .bool true] 4 (0, 0))) : Rd El.bool w ok (some ⟨g, 0, none⟩) 5 [true, true, true, true, true] :=
  rd_block (E := El.bool) (xs := [true, true, true, true, true]) (vss := [[.bool true], [.bool true], [.bool true], [.bool true], [.bool true]]) (.cons rfl (.cons rfl (.cons rfl (.cons rfl (.cons rfl .nil))))) (Array.getElem?_eq_some_iff.1 hg).1 hok (by decide) fun j u hu => by
    simp only [World.cell?, hg]
    simpa using hu
/-- A row of one row. -/
theorem one_row {α : Type} {E : El α} {w : World} {ok : Nat → Prop} {g : Nat} {A : Option Addr} {n c : Nat} {xs : List α} {t : TypeId} (hok : ok g) (hg : w.heap[g]? = some (.cells #[.slice A n c] t (0, 0))) (hc : n ≤ c) (hr : Rd E w ok A n xs) :
    Rd (El.slice E) w ok (some ⟨g, 0, none⟩) 1 [xs] :=
  rd_block (E := El.slice E) (xs := [xs]) (vss := [[.slice A n c]]) (.cons ⟨A, n, c, rfl, hc, hr⟩ .nil) (Array.getElem?_eq_some_iff.1 hg).1 hok (by simp) fun j u hu => by
    simp only [World.cell?, hg]
    simpa using hu
theorem rd_tight {w : World} {ok ok' : Nat → Prop} {A : Option Addr} {n : Nat} {es : List Ed} (h : Rd elEd w ok A n es) (hk : ∀ b o, A = some ⟨b, o, none⟩ → ok' b) : Rd elEd w ok' A n es := by
  refine ⟨h.1, h.2.1, fun h0 => ?_⟩
  obtain ⟨b, o, e, h1, h2, h3⟩ := h.2.2 h0
  refine ⟨b, o, e, hk b o e, h2, fun j x hx => ?_⟩
  obtain ⟨vs, hV, hc⟩ := h3 j x hx
  obtain ⟨rfl, i1, i2⟩ := ed_open hV
  exact ⟨_, ed_mk _ _ i1 i2, hc⟩
theorem stepB1 {w w' : World} (h : Below w.drew.heap.size w.drew w') : Below w.heap.size w w' := ⟨h.os, h.tape, h.output, h.size, h.block⟩
/-- A topology in the box at block P. -/
structure TBox (w : World) (P : Nat) (A : Option Addr) (n c : Nat) (B : Option Addr) (m d : Nat) (ep : Int) (up : List Bool) (hops : List (List Ed)) : Prop where
  lt : P < w.heap.size
  cells : w.cell? ⟨P, 0, none⟩ = some (.int .u64 ep) ∧ w.cell? ⟨P, 1, none⟩ = some (.slice A n c) ∧ w.cell? ⟨P, 2, none⟩ = some (.slice B m d)
  tv : TopoV w (fun k => k < w.heap.size) (.agg #[.int .u64 ep, .slice A n c, .slice B m d]) ep up hops
section
variable {w w' : World} {P : Nat} {A : Option Addr} {n c : Nat} {B : Option Addr} {m d : Nat} {ep : Int} {up : List Bool} {hops : List (List Ed)}
theorem TBox.below (h : TBox w P A n c B m d ep up hops) (hb : Below w.heap.size w w') : TBox w' P A n c B m d ep up hops :=
  ⟨Nat.lt_of_lt_of_le h.lt hb.size, ⟨(hb.cell (p := ⟨P, 0, none⟩) h.lt).trans h.cells.1, (hb.cell (p := ⟨P, 1, none⟩) h.lt).trans h.cells.2.1, (hb.cell (p := ⟨P, 2, none⟩) h.lt).trans h.cells.2.2⟩,
    (h.tv.below hb).mono fun k hk _ => Nat.lt_of_lt_of_le hk hb.size⟩
theorem TBox.drew (h : TBox w P A n c B m d ep up hops) : TBox w.drew P A n c B m d ep up hops := h.below (Below.refl _ _).drew
theorem TBox.next (h : TBox w P A n c B m d ep up hops) (hf : Few hops) (flow node : Int) (h1 : inI flow) :
    Calls Tryz.prog 56 #[.agg #[.int .u64 ep, .slice A n c, .slice B m d], .int .i64 flow, .int .i64 node] w (RetI w (nextOf hops flow node)) := next_calls w _ ep up hops h.tv hf flow node h1
theorem TBox.order (h : TBox w P A n c B m d ep up hops) (hf : Few hops) (k : Nat) (es : List Ed) (hes : hops[k]? = some es) :
    Calls Tryz.prog 62 #[.agg #[.int .u64 ep, .slice A n c, .slice B m d], .int .i64 (k : Int)] w (RetO w (orderOf es)) := order_in w _ ep up hops h.tv hf k es hes
/-- What a call that hands back a topology leaves, laid in a box. -/
theorem TBox.made {v : Value} (hT : TopoV w' (fun k => w.heap.size ≤ k ∧ k < w'.heap.size) v ep up hops) : ∃ A n c B m d, v = .agg #[.int .u64 ep, .slice A n c, .slice B m d] ∧ n ≤ c ∧ m ≤ d ∧
    TBox (w'.alloc (.cells #[.int .u64 ep, .slice A n c, .slice B m d] 38)) w'.heap.size A n c B m d ep up hops := by
  obtain ⟨A, n, c, B, m, d, rfl, g1, g2, g3, g4⟩ := hT
  have b2 : Below w'.heap.size w' (w'.alloc (.cells #[.int .u64 ep, .slice A n c, .slice B m d] 38)) := (Below.refl _ _).alloc (Nat.le_refl _) _
  exact ⟨A, n, c, B, m, d, rfl, g1, g2, by simp, by simp, A, n, c, B, m, d, rfl, g1, g2, (g3.below b2).mono fun k hk _ => by simp; omega, (g4.below b2).mono fun k hk _ => by simp; omega⟩
end
end Go.Proofs.YthgnjojkncodeaaGreat
