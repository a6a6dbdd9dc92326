/-
  What the four copies become: laid anew, a node down.
-/
import Derived.Test.YtgfnlfkbbedkaaaTpAc
namespace Go.Proofs.Ytgfnlfkbbedkaaa
open Go.RowKit
set_option linter.unusedVariables false
set_option linter.unusedSimpArgs false

section
variable {base L U P : Nat} {w w1 : World} {AU : Option Addr} {nU cU H d : Nat} {C : Option Addr} {p q : Nat} {up : List Bool} {es es' : List Ed}
theorem Bx.facts (h : Bx base w ⟨L, U, P, AU, nU, cU, H, d, C, p, q⟩ up es) (hme : es.length ≤ 9223372036854775807) : (w.cell? ⟨P, 0, none⟩ = some (.int .u64 1) ∧ w.cell? ⟨P, 1, none⟩ = some (.slice AU nU cU) ∧ w.cell? ⟨P, 2, none⟩ = some (.slice (some ⟨H, 0, none⟩) 1 d)) ∧
    w.cell? ⟨H, 0, none⟩ = some (.slice C p q) ∧ w.frozen? ⟨H, 0, none⟩ = false ∧ p = es.length ∧ p ≤ q ∧ L ≤ H ∧ H < U ∧ P ≠ H ∧ H < w.heap.size ∧ P < w.heap.size ∧ base ≤ L ∧ base ≤ P ∧ U ≤ w.heap.size ∧ Rd elEd w (fun k => L ≤ k ∧ k < U ∧ k ≠ H) C p es := by
  have hb : w.heap[P]? = some (.cells #[.int .u64 1, .slice AU nU cU, .slice (some ⟨H, 0, none⟩) 1 d] 27 (0, 0)) := h.box
  have hp : Pt L U w AU nU cU H d C p q up es := h.pt
  obtain ⟨h1, h2, h3⟩ := hp.hH
  obtain ⟨C', c', e', hc', hr⟩ := hp.oE.rd hme
  injection e' with e1 e2 e3
  subst e1 e2 e3
  have ho : ¬ (L ≤ P ∧ P < U) := h.out
  obtain ⟨l1, l2, l3, l4⟩ := h.lo
  exact ⟨⟨by simp [World.cell?, hb], by simp [World.cell?, hb], by simp [World.cell?, hb]⟩, hp.edge, hp.free, rfl, hp.hpq, h1, h2, fun e => ho ⟨by omega, by omega⟩, h3, (Array.getElem?_eq_some_iff.1 hb).1, l1, l2, l3, hr.mono fun k hk _ => ⟨hk.1, hk.2.1, hk.2.2.1⟩⟩
/-- The edges are laid anew, behind a change elsewhere. -/
theorem Bx.lay {D K : Nat → Prop} {C' : Option Addr} {p' q' : Nat} (h : Bx base w ⟨L, U, P, AU, nU, cU, H, d, C, p, q⟩ up es) (hm : up.length ≤ 9223372036854775807) (hc : Chg D w w1) (hD : ∀ k, D k → k ≠ P ∧ k ≠ H ∧ (Value.slice AU nU cU).ownBlock ≠ some k)
    (hpq : p' ≤ q') (hK : ∀ k, L ≤ k → k < U → K k) (hr : Rd elEd w1 (fun k => K k ∧ k ≠ H) C' p' es') :
    Vx K (w1.setCell ⟨H, 0, none⟩ (.slice C' p' q')) P AU nU cU H d 1 up es' ∧ w1.cell? ⟨H, 0, none⟩ = some (.slice C p q) ∧ w1.frozen? ⟨H, 0, none⟩ = false ∧ w1.cell? ⟨P, 2, none⟩ = some (.slice (some ⟨H, 0, none⟩) 1 d) ∧
      (w1.setCell ⟨H, 0, none⟩ (.slice C' p' q')).cell? ⟨P, 2, none⟩ = some (.slice (some ⟨H, 0, none⟩) 1 d) := by
  have hb : w.heap[P]? = some (.cells #[.int .u64 1, .slice AU nU cU, .slice (some ⟨H, 0, none⟩) 1 d] 27 (0, 0)) := h.box
  have hp : Pt L U w AU nU cU H d C p q up es := h.pt
  obtain ⟨h1, h2, h3⟩ := hp.hH
  have ho : ¬ (L ≤ P ∧ P < U) := h.out
  have hPl : P < w.heap.size := (Array.getElem?_eq_some_iff.1 hb).1
  have hPH : P ≠ H := fun e => ho ⟨by omega, by omega⟩
  have hb1 := (hc.block P hPl fun e => (hD P e).1 rfl).trans hb
  have hs := Chg.set w1 ⟨H, 0, none⟩ (.slice C' p' q')
  have hb2 := (hs.block P (Array.getElem?_eq_some_iff.1 hb1).1 fun e => hPH e).trans hb1
  have hcell : w1.cell? ⟨H, 0, none⟩ = some (.slice C p q) := hc.cell hp.edge fun e => (hD H e).2.1 rfl
  have hfro : w1.frozen? ⟨H, 0, none⟩ = false := by
    have := hp.free
    unfold World.frozen? at this ⊢
    rw [hc.block H h3 fun e => (hD H e).2.1 rfl]
    exact this
  obtain ⟨A', c', e', hc', hrU⟩ := (hp.oU.chg hc fun k _ hk e => (hD k e).2.2 hk.2.2.2).rd hm
  injection e' with e1 e2 e3
  subst e1 e2 e3
  have hss : (w1.setCell ⟨H, 0, none⟩ (.slice C' p' q')).heap.size = w1.heap.size := by simp [World.setCell]
  refine ⟨Vx.mk' hb2 (by rw [hss]; exact Nat.lt_of_lt_of_le h3 hc.size) (hK H h1 h2) (World.cell?_setCell_same _ _ _ hcell) hpq hp.hd hp.hu ?_ ?_, hcell, hfro, by simp [World.cell?, hb1], by simp [World.cell?, hb2]⟩
  · exact (hrU.chg hs fun k _ hk e => hk.2.2.1 e).mono fun k hk _ => hK k hk.1 hk.2.1
  · exact (hr.chg hs fun k _ hk e => hk.2 e).mono fun k hk _ => hk.1
/-- A node goes down. -/
theorem Bx.down (h : Bx base w ⟨L, U, P, AU, nU, cU, H, d, C, p, q⟩ up es) (hm : up.length ≤ 9223372036854775807) (hme : es.length ≤ 9223372036854775807) (v : Nat) (hv : v < up.length) : ∃ g, AU = some ⟨g, 0, none⟩ ∧ nU = up.length ∧ w.cell? ⟨g, v, none⟩ = some (.bool up[v]) ∧
    w.frozen? ⟨g, v, none⟩ = false ∧ L ≤ g ∧ g < U ∧ Vx (fun k => L ≤ k ∧ k < U) (w.setCell ⟨g, v, none⟩ (.bool false)) P AU nU cU H d 1 (up.set v false) es := by
  have hb : w.heap[P]? = some (.cells #[.int .u64 1, .slice AU nU cU, .slice (some ⟨H, 0, none⟩) 1 d] 27 (0, 0)) := h.box
  have hp : Pt L U w AU nU cU H d C p q up es := h.pt
  obtain ⟨h1, h2, h3⟩ := hp.hH
  have ho : ¬ (L ≤ P ∧ P < U) := h.out
  obtain ⟨g, cap, vs, e, hSg, hg, hcap, hV, hcl, hfr⟩ := hp.oU.at_ v _ (List.getElem?_eq_getElem hv)
  injection e with e1 e2 e3
  subst e1 e2 e3
  have hVe : vs = [.bool up[v]] := hV
  subst hVe
  have hc0 : w.cell? ⟨g, v, none⟩ = some (.bool up[v]) := by have := hcl 0 _ rfl; simpa [El.bool] using this
  have hst := hp.oU.store v 0 (.bool false) up[v] false (List.getElem?_eq_getElem hv) (by decide) fun vs hvs => by
    have : vs = [.bool up[v]] := hvs
    subst this; rfl
  have hst2 : Own El.bool 4 (w.setCell ⟨g, v, none⟩ (.bool false)) (fun k => L ≤ k ∧ k < U ∧ k ≠ H ∧ (Value.slice (some ⟨g, 0, none⟩) up.length cU).ownBlock = some k) (.slice (some ⟨g, 0, none⟩) up.length cU) (up.set v false) := by simpa [El.bool] using hst
  obtain ⟨A', c', e', hc', hrU⟩ := hst2.rd (by rw [List.length_set]; exact hm)
  rw [List.length_set] at e' hrU
  injection e' with e1 e2 e3
  subst e1 e3
  obtain ⟨C', q', e', hq', hrE⟩ := hp.oE.rd hme
  injection e' with e1 e2 e3
  subst e1 e2 e3
  have hs := Chg.set w ⟨g, v, none⟩ (.bool false)
  have hss : (w.setCell ⟨g, v, none⟩ (.bool false)).heap.size = w.heap.size := by simp [World.setCell]
  obtain ⟨g1, g2, g3, g4⟩ := hSg
  have hPl : P < w.heap.size := (Array.getElem?_eq_some_iff.1 hb).1
  have hb1 := (hs.block P hPl fun e => ho (by have : P = g := e; omega)).trans hb
  refine ⟨g, rfl, rfl, hc0, hfr v, g1, g2, Vx.mk' hb1 (by rw [hss]; exact h3) ⟨h1, h2⟩ (hs.cell hp.edge fun e => g3 (Eq.symm e)) hq' hp.hd hp.hu ?_ ?_⟩
  · exact hrU.mono fun k hk _ => ⟨hk.1, hk.2.1⟩
  · exact (hrE.chg hs fun k _ hk e => hk.2.2.2 (by rw [show k = g from e]; rfl)).mono fun k hk _ => ⟨hk.1, hk.2.1⟩
end
end Go.Proofs.Ytgfnlfkbbedkaaa
