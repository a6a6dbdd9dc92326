/-
  TopoMay's words: the topology that grows in its box, the configuration in its box, a node that goes down.
-/
import Derived.Test.YtgfnlfkbbedkaaaTpS
namespace Go.Proofs.Ytgfnlfkbbedkaaa
open Go.RowKit
set_option linter.unusedVariables false
set_option linter.unusedSimpArgs false

theorem bool_cells (w : World) (ok : Nat → Prop) : ∀ us : List Bool, Cells El.bool w ok (us.map fun b => [Value.bool b]) us
  | [] => .nil
  | b :: us => .cons rfl (bool_cells w ok us)
theorem bool_flat : ∀ us : List Bool, (us.map fun b => [Value.bool b]).flatten = us.map Value.bool
  | [] => rfl
  | b :: us => by simp [bool_flat us]
theorem bool_rd (w : World) (ok : Nat → Prop) (g : Nat) (us : List Bool) (hok : ok g) (hm : us.length ≤ 9223372036854775807) (hg : w.heap[g]? = some (.cells (us.map Value.bool).toArray 4 (0, 0))) :
    Rd El.bool w ok (some ⟨g, 0, none⟩) us.length us :=
  rd_block (bool_cells w ok us) (Array.getElem?_eq_some_iff.1 hg).1 hok hm fun j u hu => by
    rw [bool_flat] at hu
    simp only [World.cell?, hg]
    simpa using hu
/-- The law's topology in its box: P, its nodes' block, its hops' block. -/
structure MT (w wx : World) (P PU PH : Nat) (ev : Value) (us : List Bool) : Prop where
  bel : Below w.heap.size w wx
  t : w.heap.size ≤ P ∧ w.heap.size ≤ PU ∧ w.heap.size ≤ PH
  ne : P ≠ PU ∧ P ≠ PH ∧ PU ≠ PH
  bt : wx.heap[P]? = some (.cells #[.int .u64 1, .slice (some ⟨PU, 0, none⟩) 10 10, .slice (some ⟨PH, 0, none⟩) 1 1] 27 (0, 0))
  bu : wx.heap[PU]? = some (.cells (us.map Value.bool).toArray 4 (0, 0))
  bh : wx.heap[PH]? = some (.cells #[ev] 39 (0, 0))
section
variable {w wx w' : World} {P PU PH : Nat} {ev v1 : Value} {us : List Bool} {S : Nat → Prop}
theorem MT.chg (h : MT w wx P PU PH ev us) (hc : Chg S wx w') (hs : ∀ k, S k → w.heap.size ≤ k ∧ k ≠ P ∧ k ≠ PU ∧ k ≠ PH) : MT w w' P PU PH ev us :=
  ⟨hc.below h.bel h.bel.size fun k hk => (hs k hk).1, h.t, h.ne, (hc.block _ (Array.getElem?_eq_some_iff.1 h.bt).1 fun e => (hs _ e).2.1 rfl).trans h.bt, (hc.block _ (Array.getElem?_eq_some_iff.1 h.bu).1 fun e => (hs _ e).2.2.1 rfl).trans h.bu,
    (hc.block _ (Array.getElem?_eq_some_iff.1 h.bh).1 fun e => (hs _ e).2.2.2 rfl).trans h.bh⟩
theorem MT.below (h : MT w wx P PU PH ev us) (hb : Below wx.heap.size wx w') : MT w w' P PU PH ev us := h.chg (S := NoB) (Chg.ofBelow hb) fun _ h => h.elim
theorem MT.put (h : MT w wx P PU PH ev us) (v1 : Value) : MT w (wx.setCell ⟨PH, 0, none⟩ v1) P PU PH v1 us := by
  have hc := Chg.set wx ⟨PH, 0, none⟩ v1
  have ht := h.t
  have hn := h.ne
  refine ⟨hc.below h.bel h.bel.size fun k hk => by have e : k = PH := hk; omega, h.t, h.ne, (hc.block _ (Array.getElem?_eq_some_iff.1 h.bt).1 fun e => hn.2.1 e).trans h.bt, (hc.block _ (Array.getElem?_eq_some_iff.1 h.bu).1 fun e => hn.2.2 e).trans h.bu, ?_⟩
  have := h.bh
  simp [World.setCell, Array.getElem?_modify, this]
theorem MT.up (h : MT w wx P PU PH ev us) (n : Nat) (b : Bool) : MT w (wx.setCell ⟨PU, n, none⟩ (.bool b)) P PU PH ev (us.set n b) := by
  have hc := Chg.set wx ⟨PU, n, none⟩ (.bool b)
  have ht := h.t
  have hn := h.ne
  refine ⟨hc.below h.bel h.bel.size fun k hk => by have e : k = PU := hk; omega, h.t, h.ne, (hc.block _ (Array.getElem?_eq_some_iff.1 h.bt).1 fun e => hn.1 e).trans h.bt, ?_, (hc.block _ (Array.getElem?_eq_some_iff.1 h.bh).1 fun e => hn.2.2 (Eq.symm e)).trans h.bh⟩
  have := h.bu
  simp [World.setCell, Array.getElem?_modify, this, List.map_set]
theorem MT.facts (h : MT w wx P PU PH ev us) : wx.cell? ⟨P, 0, none⟩ = some (.int .u64 1) ∧ wx.cell? ⟨P, 1, none⟩ = some (.slice (some ⟨PU, 0, none⟩) 10 10) ∧ wx.cell? ⟨P, 2, none⟩ = some (.slice (some ⟨PH, 0, none⟩) 1 1) ∧
    wx.cell? ⟨PH, 0, none⟩ = some ev ∧ wx.frozen? ⟨PH, 0, none⟩ = false ∧ ∀ n, wx.frozen? ⟨PU, n, none⟩ = false := by
  have h1 := h.bt
  have h2 := h.bu
  have h3 := h.bh
  exact ⟨by simp [World.cell?, h1], by simp [World.cell?, h1], by simp [World.cell?, h1], by simp [World.cell?, h3], by simp [World.frozen?, h3], fun n => by simp [World.frozen?, h2]⟩
theorem MT.node (h : MT w wx P PU PH ev us) (n : Nat) (hn : n < us.length) : wx.cell? ⟨PU, n, none⟩ = some (.bool us[n]) := by
  have h2 := h.bu
  simp [World.cell?, h2, hn]
theorem MT.box {A : Option Addr} {N c : Nat} {L : List Ed} {ok : Nat → Prop} (h : MT w wx P PU PH (.slice A N c) us) (hu : us.length = 10) (hc : N ≤ c) (hr : Rd elEd wx ok A N L) : TBox wx P (some ⟨PU, 0, none⟩) 10 10 (some ⟨PH, 0, none⟩) 1 1 1 us [L] := by
  obtain ⟨f0, f1, f2, f3, f4, f5⟩ := h.facts
  refine ⟨(Array.getElem?_eq_some_iff.1 h.bt).1, ⟨f0, f1, f2⟩, _, _, _, _, _, _, rfl, Nat.le_refl _, Nat.le_refl _, ?_, one_row (Array.getElem?_eq_some_iff.1 h.bh).1 h.bh hc (hr.mono fun k _ hk => hk)⟩
  have := bool_rd wx (fun k => k < wx.heap.size) PU us (Array.getElem?_eq_some_iff.1 h.bu).1 (by omega) h.bu
  rwa [hu] at this
end
def upN (n : Nat) : List Bool := List.replicate n true ++ List.replicate (10 - n) false
theorem upN_len (n : Nat) (h : n ≤ 10) : (upN n).length = 10 := by simp [upN]; omega
theorem upN_set : ∀ n, n < 10 → (upN n).set n true = upN (n + 1) := by decide
theorem upN_zero : upN 0 = List.replicate 10 false := rfl
theorem upN_ten : upN 10 = up10 := rfl
/-- The law's configuration in its box. -/
structure CBox (w : World) (Q : Nat) (F : Option Addr) : Prop where
  lt : Q < w.heap.size
  cells : w.cell? ⟨Q, 0, none⟩ = some (.int .i64 10) ∧ w.cell? ⟨Q, 1, none⟩ = some (.slice F 1 1) ∧ w.cell? ⟨Q, 2, none⟩ = some (.int .i64 4) ∧ w.cell? ⟨Q, 3, none⟩ = some (.int .i64 4)
  rd : Rd elFl w (fun k => k < w.heap.size) F 1 fl9
theorem CBox.below {w w' : World} {Q : Nat} {F : Option Addr} (h : CBox w Q F) (hb : Below w.heap.size w w') : CBox w' Q F :=
  ⟨Nat.lt_of_lt_of_le h.lt hb.size, ⟨(hb.cell (p := ⟨Q, 0, none⟩) h.lt).trans h.cells.1, (hb.cell (p := ⟨Q, 1, none⟩) h.lt).trans h.cells.2.1, (hb.cell (p := ⟨Q, 2, none⟩) h.lt).trans h.cells.2.2.1, (hb.cell (p := ⟨Q, 3, none⟩) h.lt).trans h.cells.2.2.2⟩,
    (h.rd.below hb).mono fun k hk _ => Nat.lt_of_lt_of_le hk hb.size⟩
theorem CBox.conf {w : World} {Q : Nat} {F : Option Addr} (h : CBox w Q F) : ConfV w (fun k => k < w.heap.size) (.agg #[.int .i64 10, .slice F 1 1, .int .i64 4, .int .i64 4]) 10 fl9 4 4 :=
  ⟨F, 1, 1, rfl, Nat.le_refl _, by decide, by decide, by decide, h.rd⟩
theorem CBox.may {w : World} {Q P : Nat} {F A B : Option Addr} {n c m d : Nat} {ep : Int} {up : List Bool} {L : List Ed} {r : Bool} (h : CBox w Q F) (hT : TBox w P A n c B m d ep up [L]) (hf : Few [L]) (hr : mayOk 10 fl9 4 4 ep up [L] = r) :
    Calls Try.prog 20 #[.agg #[.int .i64 10, .slice F 1 1, .int .i64 4, .int .i64 4], .agg #[.int .u64 ep, .slice A n c, .slice B m d]] w fun e w' => e = .returned (.bool r) ∧ Below w.heap.size w w' := by
  rw [← hr]; exact may_calls w _ _ 10 fl9 4 4 ep up [L] h.conf hT.tv hf
theorem CBox.made (w : World) : ∀ w1, ((w.alloc (.cells #[.int .i64 9] 3)).alloc (.cells #[.int .i64 2, .int .i64 3, .int .i64 0, .slice (some ⟨w.heap.size, 0, none⟩) 1 1] 46)).alloc (.cells #[.int .i64 10, .slice (some ⟨w.heap.size + 1, 0, none⟩) 1 1, .int .i64 4, .int .i64 4] 49) = w1 →
    CBox w1 (w.heap.size + 2) (some ⟨w.heap.size + 1, 0, none⟩) ∧ Below w.heap.size w w1 := by
  intro w1 hw1
  obtain ⟨W1, h1⟩ : ∃ W1, w.alloc (.cells #[.int .i64 9] 3) = W1 := ⟨_, rfl⟩
  rw [h1] at hw1
  obtain ⟨W2, h2⟩ : ∃ W2, W1.alloc (.cells #[.int .i64 2, .int .i64 3, .int .i64 0, .slice (some ⟨w.heap.size, 0, none⟩) 1 1] 46) = W2 := ⟨_, rfl⟩
  rw [h2] at hw1
  have s1 : W1.heap.size = w.heap.size + 1 := by rw [← h1]; simp
  have s2 : W2.heap.size = w.heap.size + 2 := by rw [← h2]; simp [s1]
  have s3 : w1.heap.size = w.heap.size + 3 := by rw [← hw1]; simp [s2]
  have b1 : Below w.heap.size w W1 := by rw [← h1]; exact (Below.refl _ _).alloc (Nat.le_refl _) _
  have b2 : Below W1.heap.size W1 W2 := by rw [← h2]; exact (Below.refl _ _).alloc (Nat.le_refl _) _
  have b3 : Below W2.heap.size W2 w1 := by rw [← hw1]; exact (Below.refl _ _).alloc (Nat.le_refl _) _
  have e1 : W1.heap[w.heap.size]? = some (.cells #[.int .i64 9] 3 (0, 0)) := by rw [← h1]; exact heap_alloc_new w _
  have e2 : W2.heap[w.heap.size + 1]? = some (.cells #[.int .i64 2, .int .i64 3, .int .i64 0, .slice (some ⟨w.heap.size, 0, none⟩) 1 1] 46 (0, 0)) := by rw [← h2, ← s1]; exact heap_alloc_new W1 _
  have e3 : w1.heap[w.heap.size + 2]? = some (.cells #[.int .i64 10, .slice (some ⟨w.heap.size + 1, 0, none⟩) 1 1, .int .i64 4, .int .i64 4] 49 (0, 0)) := by rw [← hw1, ← s2]; exact heap_alloc_new W2 _
  have r1 : Rd El.int W1 (fun k => k < W1.heap.size) (some ⟨w.heap.size, 0, none⟩) 1 [9] := rd_block (E := El.int) (xs := [9]) (vss := [[.int .i64 9]]) (.cons ⟨rfl, by decide⟩ .nil) (by omega) (by omega) (by decide) fun j u hu => by
    simp only [World.cell?, e1]
    simpa using hu
  have r2 := (r1.below b2).mono (ok' := fun k => k < W2.heap.size) fun k hk _ => by omega
  have r3 : Rd elFl W2 (fun k => k < W2.heap.size) (some ⟨w.heap.size + 1, 0, none⟩) 1 fl9 := rd_block (E := elFl) (xs := fl9) (vss := [[.int .i64 2, .int .i64 3, .int .i64 0, .slice (some ⟨w.heap.size, 0, none⟩) 1 1]])
    (.cons ⟨_, _, rfl, ⟨rfl, by decide⟩, _, _, rfl, ⟨rfl, by decide⟩, _, _, rfl, ⟨rfl, by decide⟩, _, _, _, rfl, Nat.le_refl _, r2⟩ .nil) (by omega) (by omega) (by decide) fun j u hu => by
    simp only [World.cell?, e2]
    simpa using hu
  have r4 := (r3.below b3).mono (ok' := fun k => k < w1.heap.size) fun k hk _ => by omega
  exact ⟨⟨by omega, ⟨by simp [World.cell?, e3], by simp [World.cell?, e3], by simp [World.cell?, e3], by simp [World.cell?, e3]⟩, r4⟩, belowThen (belowThen b1 b1.size b2) (by omega) b3⟩
theorem T1.down {w : World} {P : Nat} {AU : Option Addr} {nU cU H d : Nat} {C : Option Addr} {p q : Nat} {ep : Int} {up : List Bool} {es : List Ed} {SU SE : Nat → Prop} (h : T1 w P AU nU cU H d C p q ep up es)
    (hU : Own El.bool 4 w SU (.slice AU nU cU) up) (hE : Own elEd 42 w SE (.slice C p q) es) (hm : up.length ≤ 9223372036854775807) (hme : es.length ≤ 9223372036854775807)
    (hSU : ∀ k, SU k → k ≠ P ∧ k ≠ H ∧ ¬ SE k) (hSE : ∀ k, SE k → k ≠ H) (v : Nat) (hv : v < up.length) : ∃ g, AU = some ⟨g, 0, none⟩ ∧ nU = up.length ∧ w.cell? ⟨g, v, none⟩ = some (.bool up[v]) ∧ w.frozen? ⟨g, v, none⟩ = false ∧ g < w.heap.size ∧ SU g ∧
      T1 (w.setCell ⟨g, v, none⟩ (.bool false)) P AU nU cU H d C p q ep (up.set v false) es := by
  obtain ⟨g, cap, vs, e, hSg, hg, hcap, hV, hcl, hfr⟩ := hU.at_ v _ (List.getElem?_eq_getElem hv)
  injection e with e1 e2 e3
  subst e1 e2 e3
  have hVe : vs = [.bool up[v]] := hV
  subst hVe
  have hc0 : w.cell? ⟨g, v, none⟩ = some (.bool up[v]) := by have := hcl 0 _ rfl; simpa [El.bool] using this
  have hst := hU.store v 0 (.bool false) up[v] false (List.getElem?_eq_getElem hv) (by decide) fun vs hvs => by
    have : vs = [.bool up[v]] := hvs
    subst this; rfl
  have hst2 : Own El.bool 4 (w.setCell ⟨g, v, none⟩ (.bool false)) SU (.slice (some ⟨g, 0, none⟩) up.length cU) (up.set v false) := by simpa [El.bool] using hst
  obtain ⟨A', c', e', hc', hrU⟩ := hst2.rd (by rw [List.length_set]; exact hm)
  rw [List.length_set] at e' hrU
  injection e' with e1 e2 e3
  subst e1 e3
  obtain ⟨C', q', e', hq', hrE⟩ := hE.rd hme
  injection e' with e1 e2 e3
  subst e1 e2 e3
  have hs := Chg.set w ⟨g, v, none⟩ (.bool false)
  have hss : (w.setCell ⟨g, v, none⟩ (.bool false)).heap.size = w.heap.size := by simp [World.setCell]
  obtain ⟨g1, g2, g3⟩ := hSU g hSg
  have hfree : (w.setCell ⟨g, v, none⟩ (.bool false)).frozen? ⟨H, 0, none⟩ = false := by rw [World.frozen?_setCell]; exact h.free
  refine ⟨g, rfl, rfl, hc0, hfr v, hg, hSg, ⟨by rw [hss]; exact h.lt, ⟨hs.cell h.cells.1 fun e => g1 (Eq.symm e), hs.cell h.cells.2.1 fun e => g1 (Eq.symm e), hs.cell h.cells.2.2 fun e => g1 (Eq.symm e)⟩, by rw [hss]; exact h.hlt, h.hne, h.hd, hs.cell h.edge fun e => g2 (Eq.symm e), hfree, h.hu, ?_, hq', ?_⟩⟩
  · exact hrU.mono fun k hk hl => ⟨hl, (hSU k hk).2.1⟩
  · refine (hrE.chg hs fun k hl hk e => g3 (by rw [← show k = g from e]; exact hk)).mono fun k hk hl => ⟨hl, hSE k hk⟩
theorem T1.epoch {w : World} {P : Nat} {AU : Option Addr} {nU cU H d : Nat} {C : Option Addr} {p q : Nat} {ep : Int} {up : List Bool} {es : List Ed} {SU SE : Nat → Prop} (h : T1 w P AU nU cU H d C p q ep up es)
    (hU : Own El.bool 4 w SU (.slice AU nU cU) up) (hE : Own elEd 42 w SE (.slice C p q) es) (hm : up.length ≤ 9223372036854775807) (hme : es.length ≤ 9223372036854775807)
    (hSU : ∀ k, SU k → k ≠ P ∧ k ≠ H) (hSE : ∀ k, SE k → k ≠ P ∧ k ≠ H) (ep' : Int) : T1 (w.setCell ⟨P, 0, none⟩ (.int .u64 ep')) P AU nU cU H d C p q ep' up es := by
  obtain ⟨A', c', e', hc', hrU⟩ := hU.rd hm
  injection e' with e1 e2 e3
  subst e1 e2 e3
  obtain ⟨C', q', e', hq', hrE⟩ := hE.rd hme
  injection e' with e1 e2 e3
  subst e1 e2 e3
  have hs := Chg.set w ⟨P, 0, none⟩ (.int .u64 ep')
  have hss : (w.setCell ⟨P, 0, none⟩ (.int .u64 ep')).heap.size = w.heap.size := by simp [World.setCell]
  have hfree : (w.setCell ⟨P, 0, none⟩ (.int .u64 ep')).frozen? ⟨H, 0, none⟩ = false := by rw [World.frozen?_setCell]; exact h.free
  refine ⟨by rw [hss]; exact h.lt, ⟨World.cell?_setCell_same _ _ _ h.cells.1, ?_, ?_⟩, by rw [hss]; exact h.hlt, h.hne, h.hd, hs.cell h.edge fun e => h.hne e, hfree, hc', ?_, hq', ?_⟩
  · exact (World.cell?_setCell_other (w := w) (a := ⟨P, 0, none⟩) (b := ⟨P, 1, none⟩) (v := .int .u64 ep') (by intro e; injection e; omega)).trans h.cells.2.1
  · exact (World.cell?_setCell_other (w := w) (a := ⟨P, 0, none⟩) (b := ⟨P, 2, none⟩) (v := .int .u64 ep') (by intro e; injection e; omega)).trans h.cells.2.2
  · exact (hrU.chg hs fun k hl hk e => (hSU k hk).1 e).mono fun k hk hl => ⟨hl, (hSU k hk).2⟩
  · exact (hrE.chg hs fun k hl hk e => (hSE k hk).1 e).mono fun k hk hl => ⟨hl, (hSE k hk).2⟩
end Go.Proofs.Ytgfnlfkbbedkaaa
