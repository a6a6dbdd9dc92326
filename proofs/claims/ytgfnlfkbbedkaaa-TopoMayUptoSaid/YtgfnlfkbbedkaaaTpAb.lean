/-
  A copied topology's parts in blocks of its own; the four copies stored into their boxes.
-/
import Derived.Test.YtgfnlfkbbedkaaaTpL
namespace Go.Proofs.Ytgfnlfkbbedkaaa
open Go.RowKit
set_option linter.unusedVariables false
set_option linter.unusedSimpArgs false

/-- The parts of a topology of one flow, in the blocks from L up to U: its nodes, its hops' block H, its edges. -/
structure Pt (L U : Nat) (w : World) (AU : Option Addr) (nU cU H d : Nat) (C : Option Addr) (p q : Nat) (up : List Bool) (es : List Ed) : Prop where
  hH : L ≤ H ∧ H < U ∧ H < w.heap.size
  hd : 1 ≤ d
  edge : w.cell? ⟨H, 0, none⟩ = some (.slice C p q)
  free : w.frozen? ⟨H, 0, none⟩ = false
  hu : nU ≤ cU
  hpq : p ≤ q
  oU : Own El.bool 4 w (fun k => L ≤ k ∧ k < U ∧ k ≠ H ∧ (Value.slice AU nU cU).ownBlock = some k) (.slice AU nU cU) up
  oE : Own elEd 42 w (fun k => L ≤ k ∧ k < U ∧ k ≠ H ∧ (Value.slice AU nU cU).ownBlock ≠ some k) (.slice C p q) es
theorem TOwnR.parts {L U : Nat} {w : World} {v : Value} {ep : Int} {up : List Bool} {es : List Ed} (hT : TOwnR L U w v ep up [es]) (hm : up.length ≤ 9223372036854775807) (hme : es.length ≤ 9223372036854775807) :
    ∃ AU nU cU H d C p q, v = .agg #[.int .u64 ep, .slice AU nU cU, .slice (some ⟨H, 0, none⟩) 1 d] ∧ Pt L U w AU nU cU H d C p q up es := by
  obtain ⟨vU, vH, rfl, hU, hH⟩ := hT
  obtain ⟨g, cap, vs, rfl, hSg, hgl, hcap, ⟨ve, rfl, hown⟩, hcl, hfr⟩ := hH.at_ 0 es rfl
  have hUl := hU.lt
  have hel := hown.lt
  have hU2 := hU.shrink (S' := fun k => L ≤ k ∧ k < U ∧ k ≠ g ∧ vU.ownBlock = some k) flat_bool fun k hk => ⟨(hUl k hk).1.1, (hUl k hk).1.2, fun e => hSg.2 (by rw [← e]; exact hk), hk⟩
  have hE2 := hown.shrink (S' := fun k => L ≤ k ∧ k < U ∧ k ≠ g ∧ vU.ownBlock ≠ some k) flat_ed fun k hk => ⟨(hel k hk).1.1.1.1, (hel k hk).1.1.1.2, (hel k hk).1.2, (hel k hk).1.1.2⟩
  obtain ⟨AU, cU, rfl, hcU, hRU⟩ := hU2.rd hm
  obtain ⟨C, q, rfl, hpq, hrd⟩ := hE2.rd hme
  have hc0 : w.cell? ⟨g, 0, none⟩ = some (.slice C es.length q) := by simpa using hcl 0 _ rfl
  exact ⟨AU, _, cU, g, cap, C, _, q, rfl, ⟨⟨hSg.1.1, hSg.1.2, hgl⟩, hcap, hc0, hfr 0, hcU, hpq, hU2, hE2⟩⟩
section
variable {L U : Nat} {w w' : World} {AU : Option Addr} {nU cU H d : Nat} {C : Option Addr} {p q : Nat} {up : List Bool} {es : List Ed} {S K : Nat → Prop}
theorem Pt.chg (h : Pt L U w AU nU cU H d C p q up es) (hc : Chg S w w') (hs : ∀ k, S k → ¬ (L ≤ k ∧ k < U)) : Pt L U w' AU nU cU H d C p q up es := by
  obtain ⟨h1, h2, h3⟩ := h.hH
  have hn : ¬ S H := fun e => hs H e ⟨h1, h2⟩
  refine ⟨⟨h1, h2, Nat.lt_of_lt_of_le h3 hc.size⟩, h.hd, hc.cell h.edge hn, ?_, h.hu, h.hpq, h.oU.chg hc fun k _ hk e => hs k e ⟨hk.1, hk.2.1⟩, h.oE.chg hc fun k _ hk e => hs k e ⟨hk.1, hk.2.1⟩⟩
  have := h.free
  unfold World.frozen? at this ⊢
  rw [hc.block H h3 hn]
  exact this
theorem Pt.below (h : Pt L U w AU nU cU H d C p q up es) (hb : Below w.heap.size w w') : Pt L U w' AU nU cU H d C p q up es := h.chg (S := NoB) (Chg.ofBelow hb) fun _ e => e.elim
/-- The row of one flow's edges, from its cell. -/
theorem row_cell (hH : H < w.heap.size) (hK : K H) (hc : w.cell? ⟨H, 0, none⟩ = some (.slice C p q)) (hpq : p ≤ q) (hr : Rd elEd w K C p es) : Rd elEs w K (some ⟨H, 0, none⟩) 1 [es] := by
  refine ⟨rfl, by decide, fun _ => ⟨H, 0, rfl, hK, hH, fun j x hj => ?_⟩⟩
  match j, hj with
  | 0, hj =>
    simp at hj; subst hj
    exact ⟨_, ⟨C, p, q, rfl, hpq, hr⟩, fun r u hu => by
      cases r with
      | zero => simp at hu; subst hu; simpa using hc
      | succ r => simp at hu⟩
  | j + 1, hj => simp at hj
end
/-- A topology in the box P, read in the blocks of K alone. -/
structure Vx (K : Nat → Prop) (w : World) (P : Nat) (AU : Option Addr) (nU cU H d : Nat) (ep : Int) (up : List Bool) (es : List Ed) : Prop where
  box : w.heap[P]? = some (.cells #[.int .u64 ep, .slice AU nU cU, .slice (some ⟨H, 0, none⟩) 1 d] 27 (0, 0))
  tv : TopoV w K (.agg #[.int .u64 ep, .slice AU nU cU, .slice (some ⟨H, 0, none⟩) 1 d]) ep up [es]
section
variable {K S : Nat → Prop} {w w' : World} {P : Nat} {AU : Option Addr} {nU cU H d : Nat} {C : Option Addr} {p q : Nat} {ep : Int} {up : List Bool} {es : List Ed}
theorem Vx.chg (h : Vx K w P AU nU cU H d ep up es) (hc : Chg S w w') (hP : ¬ S P) (hs : ∀ k, K k → ¬ S k) : Vx K w' P AU nU cU H d ep up es := by
  refine ⟨(hc.block P (Array.getElem?_eq_some_iff.1 h.box).1 hP).trans h.box, ?_⟩
  obtain ⟨A, n, c, B, m, e, hv, h1, h2, h3, h4⟩ := h.tv
  exact ⟨A, n, c, B, m, e, hv, h1, h2, h3.chg hc fun k _ hk => hs k hk, h4.chg hc fun k _ hk => hs k hk⟩
theorem Vx.below (h : Vx K w P AU nU cU H d ep up es) (hb : Below w.heap.size w w') : Vx K w' P AU nU cU H d ep up es := h.chg (S := NoB) (Chg.ofBelow hb) (fun e => e) fun _ _ e => e
theorem Vx.tbox (h : Vx K w P AU nU cU H d ep up es) : TBox w P AU nU cU (some ⟨H, 0, none⟩) 1 d ep up [es] := by
  have hb := h.box
  exact ⟨(Array.getElem?_eq_some_iff.1 hb).1, ⟨by simp [World.cell?, hb], by simp [World.cell?, hb], by simp [World.cell?, hb]⟩, h.tv.mono fun k _ hk => hk⟩
theorem Vx.mk' (hb : w.heap[P]? = some (.cells #[.int .u64 ep, .slice AU nU cU, .slice (some ⟨H, 0, none⟩) 1 d] 27 (0, 0))) (hH : H < w.heap.size) (hK : K H) (hc : w.cell? ⟨H, 0, none⟩ = some (.slice C p q)) (hpq : p ≤ q)
    (hd : 1 ≤ d) (hu : nU ≤ cU) (h1 : Rd El.bool w K AU nU up) (h2 : Rd elEd w K C p es) : Vx K w P AU nU cU H d ep up es :=
  ⟨hb, _, _, _, _, _, _, rfl, hu, hd, h1, row_cell hH hK hc hpq h2⟩
end
/-- The store of a topology into a fresh box. -/
theorem store_box {w : World} {P : Nat} (h : ZBox w P) (ep : Int) (A : Option Addr) (n c : Nat) (B : Option Addr) (m d : Nat) : ∃ w', (Instr.storeAt 27 (.pointer (some ⟨P, 0, none⟩)) (.agg #[.int .u64 ep, .slice A n c, .slice B m d])).run Try.prog w = .ok () w' ∧
    w'.heap[P]? = some (.cells #[.int .u64 ep, .slice A n c, .slice B m d] 27 (0, 0)) ∧ Chg (fun k => k = P) w w' := by
  obtain ⟨c0, c1, c2, f0, f1, f2⟩ := h.facts
  refine ⟨((w.setCell ⟨P, 0, none⟩ (.int .u64 ep)).setCell ⟨P, 1, none⟩ (.slice A n c)).setCell ⟨P, 2, none⟩ (.slice B m d), ?_, ?_, ?_⟩
  · go_simp
  · have hz := h
    unfold ZBox at hz
    simp [World.setCell, Array.getElem?_modify, hz]
  · exact ((Chg.set w ⟨P, 0, none⟩ _).trans (Chg.set _ ⟨P, 1, none⟩ _) fun _ _ h => h).trans (Chg.set _ ⟨P, 2, none⟩ _) fun _ _ h => h
end Go.Proofs.Ytgfnlfkbbedkaaa
