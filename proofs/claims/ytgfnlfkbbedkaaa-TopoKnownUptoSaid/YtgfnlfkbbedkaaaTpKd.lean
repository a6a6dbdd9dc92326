/-
  TopoKnown: words of its walk: the configurations as they are made, a topology of eleven nodes in its box.
-/
import Derived.Test.YtgfnlfkbbedkaaaTpKb
import Derived.Test.YtgfnlfkbbedkaaaTpKc
import Derived.Test.YtgfnlfkbbedkaaaTpX
import Derived.Test.YtgfnlfkbbedkaaaTpV
namespace Go.Proofs.Ytgfnlfkbbedkaaa
open Go.RowKit
set_option linter.unusedVariables false

theorem CW.made (w : World) : ∀ w1, ((w.alloc (.cells #[.int .i64 3, .int .i64 4] 3)).alloc (.cells #[.int .i64 1, .int .i64 5, .int .i64 0, .slice (some ⟨w.heap.size, 0, none⟩) 2 2] 46)).alloc (.cells #[.int .i64 5, .slice (some ⟨w.heap.size + 1, 0, none⟩) 1 1, .int .i64 1, .int .i64 1] 49) = w1 →
    CW w1 (w.heap.size + 2) (w.heap.size + 1) w.heap.size 1 2 ∧ Below w.heap.size w w1 := by
  intro w1 hw1
  obtain ⟨W1, h1⟩ : ∃ W1, w.alloc (.cells #[.int .i64 3, .int .i64 4] 3) = W1 := ⟨_, rfl⟩
  rw [h1] at hw1
  obtain ⟨W2, h2⟩ : ∃ W2, W1.alloc (.cells #[.int .i64 1, .int .i64 5, .int .i64 0, .slice (some ⟨w.heap.size, 0, none⟩) 2 2] 46) = W2 := ⟨_, rfl⟩
  rw [h2] at hw1
  have s1 : W1.heap.size = w.heap.size + 1 := by rw [← h1]; simp
  have s2 : W2.heap.size = w.heap.size + 2 := by rw [← h2]; simp [s1]
  have s3 : w1.heap.size = w.heap.size + 3 := by rw [← hw1]; simp [s2]
  have b1 : Below w.heap.size w W1 := by rw [← h1]; exact (Below.refl _ _).alloc (Nat.le_refl _) _
  have b2 : Below W1.heap.size W1 W2 := by rw [← h2]; exact (Below.refl _ _).alloc (Nat.le_refl _) _
  have b3 : Below W2.heap.size W2 w1 := by rw [← hw1]; exact (Below.refl _ _).alloc (Nat.le_refl _) _
  have e1 : W1.heap[w.heap.size]? = some (.cells #[.int .i64 3, .int .i64 4] 3 (0, 0)) := by rw [← h1]; exact heap_alloc_new w _
  have e2 : W2.heap[w.heap.size + 1]? = some (.cells #[.int .i64 1, .int .i64 5, .int .i64 0, .slice (some ⟨w.heap.size, 0, none⟩) 2 2] 46 (0, 0)) := by rw [← h2, ← s1]; exact heap_alloc_new W1 _
  have e3 : w1.heap[w.heap.size + 2]? = some (.cells #[.int .i64 5, .slice (some ⟨w.heap.size + 1, 0, none⟩) 1 1, .int .i64 1, .int .i64 1] 49 (0, 0)) := by rw [← hw1, ← s2]; exact heap_alloc_new W2 _
  have e1' := (b3.block _ (by omega)).trans ((b2.block _ (by omega)).trans e1)
  have e2' := (b3.block _ (by omega)).trans e2
  exact ⟨⟨⟨by omega, by omega, by omega⟩, ⟨by omega, by omega, by omega⟩, ⟨by omega, by omega⟩, ⟨by simp [World.cell?, e3], by simp [World.cell?, e3], by simp [World.cell?, e3], by simp [World.cell?, e3]⟩,
    ⟨by simp [World.cell?, e2'], by simp [World.cell?, e2'], by simp [World.cell?, e2'], by simp [World.cell?, e2']⟩, ⟨by simp [World.cell?, e1'], by simp [World.cell?, e1']⟩,
    ⟨fun i => by simp [World.frozen?, e3], fun i => by simp [World.frozen?, e2'], fun i => by simp [World.frozen?, e1']⟩⟩, belowThen (belowThen b1 b1.size b2) (by omega) b3⟩
section
variable {w : World} {P F S cF cS : Nat}
theorem CW.conf (h : CW w P F S cF cS) : ConfV w (fun k => k < w.heap.size) (.agg #[.int .i64 5, .slice (some ⟨F, 0, none⟩) 1 cF, .int .i64 1, .int .i64 1]) 5 flG 1 1 :=
  ⟨_, 1, cF, rfl, h.cap.1, by decide, by decide, by decide, h.rd⟩
theorem CW.config (h : CW w P F S cF cS) : Calls Try.prog 19 #[.agg #[.int .i64 5, .slice (some ⟨F, 0, none⟩) 1 cF, .int .i64 1, .int .i64 1]] w fun e w' => e = .returned (.bool true) ∧ Below w.heap.size w w' := by
  have := config_calls w _ 5 flG 1 1 h.conf
  rwa [known_good] at this
theorem CW.may {v : Value} {ep : Int} {up : List Bool} {hops : List (List Ed)} {r : Bool} {ok : Nat → Prop} (h : CW w P F S cF cS) (hT : TopoV w ok v ep up hops) (hf : Few hops) (hr : mayOk 5 flG 1 1 ep up hops = r) :
    Calls Try.prog 20 #[.agg #[.int .i64 5, .slice (some ⟨F, 0, none⟩) 1 cF, .int .i64 1, .int .i64 1], v] w fun e w' => e = .returned (.bool r) ∧ Below w.heap.size w w' := by
  rw [← hr]; exact may_calls w _ _ 5 flG 1 1 ep up hops h.conf (hT.mono fun k _ hk => hk) hf
theorem zero_may {v : Value} {ok : Nat → Prop} (hT : TopoV w ok v 1 up5 [dia]) :
    Calls Try.prog 20 #[.agg #[.int .i64 0, .slice none 0 0, .int .i64 0, .int .i64 0], v] w fun e w' => e = .returned (.bool false) ∧ Below w.heap.size w w' := by
  rw [← known_none]; exact may_calls w _ _ 0 [] 0 0 1 up5 [dia] ⟨none, 0, 0, rfl, Nat.le_refl _, by decide, by decide, by decide, Rd.nil _ _ _ _⟩ (hT.mono fun k _ hk => hk) (few_one (by decide))
theorem CW.empty (h : CW w P F S cF cS) : Calls Try.prog 20 #[.agg #[.int .i64 5, .slice (some ⟨F, 0, none⟩) 1 cF, .int .i64 1, .int .i64 1], .agg #[.int .u64 0, .slice none 0 0, .slice none 0 0]] w fun e w' => e = .returned (.bool false) ∧ Below w.heap.size w w' :=
  h.may (ok := fun _ => True) (ep := 0) (up := []) (hops := []) ⟨none, 0, 0, none, 0, 0, rfl, Nat.le_refl _, Nat.le_refl _, Rd.nil _ _ _ _, Rd.nil _ _ _ _⟩ (by intro l hl; cases hl) known_empty
end
/-- A diamond with one edge more, which lies in a new block. -/
theorem diamond_one (W : World) (a b : Int) (ha : inI a) (hb : inI b) : Calls Try.prog 21 #[.slice (some ⟨W.heap.size, 0, none⟩) 1 1] (W.alloc (.cells #[.int .i64 a, .int .i64 b] 42)) fun e w' => ∃ v, e = .returned v ∧
    TopoV w' (fun _ => True) v 1 up5 [dia ++ [(a, b)]] ∧ Below W.heap.size W w' := by
  have hb0 : Below W.heap.size W (W.alloc (.cells #[.int .i64 a, .int .i64 b] 42)) := (Below.refl _ _).alloc (Nat.le_refl _) _
  refine (diamond_calls (W.alloc (.cells #[.int .i64 a, .int .i64 b] 42)) (some ⟨W.heap.size, 0, none⟩) 1 1 [(a, b)]
    (rd_block (E := elEd) (xs := [(a, b)]) (vss := [[.int .i64 a, .int .i64 b]]) (.cons (ed_mk _ _ (x := (a, b)) ha hb) .nil) (by simp) (by simp) (by simp) fun j u hu => by
      simpa using hu) (by decide)).mono ?_
  rintro e w' ⟨v, rfl, hT, hB⟩
  exact ⟨v, rfl, hT.mono fun _ _ _ => trivial, belowThen hb0 hb0.size hB⟩
theorem diamond_none (W : World) : Calls Try.prog 21 #[.slice none 0 0] W fun e w' => ∃ v, e = .returned v ∧ TopoV w' (fun _ => True) v 1 up5 [dia] ∧ Below W.heap.size W w' := by
  refine (diamond_calls W none 0 0 [] (Rd.nil _ _ _ _) (by decide)).mono ?_
  rintro e w' ⟨v, rfl, hT, hB⟩
  rw [List.append_nil] at hT
  exact ⟨v, rfl, hT.mono fun _ _ _ => trivial, hB⟩
/-- A topology of eleven nodes in its box. -/
structure KT (w wx : World) (P U H : Nat) (ev : Value) : Prop where
  bel : Below w.heap.size w wx
  t : w.heap.size ≤ P ∧ w.heap.size ≤ U ∧ w.heap.size ≤ H
  ne : P ≠ U ∧ P ≠ H ∧ U ≠ H
  bt : wx.heap[P]? = some (.cells #[.int .u64 1, .slice (some ⟨U, 0, none⟩) 11 11, .slice (some ⟨H, 0, none⟩) 1 1] 27 (0, 0))
  bu : wx.heap[U]? = some (.cells (up11.map Value.bool).toArray 4 (0, 0))
  bh : wx.heap[H]? = some (.cells #[ev] 39 (0, 0))
section
variable {w wx w' : World} {P U H : Nat} {ev v1 : Value} {S : Nat → Prop}
theorem KT.chg (h : KT w wx P U H ev) (hc : Chg S wx w') (hs : ∀ k, S k → w.heap.size ≤ k ∧ k ≠ P ∧ k ≠ U ∧ k ≠ H) : KT w w' P U H ev :=
  ⟨hc.below h.bel h.bel.size fun k hk => (hs k hk).1, h.t, h.ne, (hc.block _ (Array.getElem?_eq_some_iff.1 h.bt).1 fun e => (hs _ e).2.1 rfl).trans h.bt, (hc.block _ (Array.getElem?_eq_some_iff.1 h.bu).1 fun e => (hs _ e).2.2.1 rfl).trans h.bu,
    (hc.block _ (Array.getElem?_eq_some_iff.1 h.bh).1 fun e => (hs _ e).2.2.2 rfl).trans h.bh⟩
theorem KT.below (h : KT w wx P U H ev) (hb : Below wx.heap.size wx w') : KT w w' P U H ev := h.chg (S := NoB) (Chg.ofBelow hb) fun _ h => h.elim
theorem KT.put (h : KT w wx P U H ev) (v1 : Value) : KT w (wx.setCell ⟨H, 0, none⟩ v1) P U H v1 := by
  have hc := Chg.set wx ⟨H, 0, none⟩ v1
  have ht := h.t
  have hn := h.ne
  refine ⟨hc.below h.bel h.bel.size fun k hk => by have e : k = H := hk; omega, h.t, h.ne, (hc.block _ (Array.getElem?_eq_some_iff.1 h.bt).1 fun e => hn.2.1 e).trans h.bt, (hc.block _ (Array.getElem?_eq_some_iff.1 h.bu).1 fun e => hn.2.2 e).trans h.bu, ?_⟩
  have := h.bh
  simp [World.setCell, Array.getElem?_modify, this]
theorem KT.facts (h : KT w wx P U H ev) : wx.cell? ⟨P, 0, none⟩ = some (.int .u64 1) ∧ wx.cell? ⟨P, 1, none⟩ = some (.slice (some ⟨U, 0, none⟩) 11 11) ∧ wx.cell? ⟨P, 2, none⟩ = some (.slice (some ⟨H, 0, none⟩) 1 1) ∧
    wx.cell? ⟨H, 0, none⟩ = some ev ∧ wx.frozen? ⟨H, 0, none⟩ = false := by
  have h1 := h.bt
  have h3 := h.bh
  exact ⟨by simp [World.cell?, h1], by simp [World.cell?, h1], by simp [World.cell?, h1], by simp [World.cell?, h3], by simp [World.frozen?, h3]⟩
theorem KT.tv {A : Option Addr} {N c : Nat} {L : List Ed} {ok : Nat → Prop} (h : KT w wx P U H (.slice A N c)) (hc : N ≤ c) (hr : Rd elEd wx ok A N L) : TopoV wx (fun k => k < wx.heap.size) (.agg #[.int .u64 1, .slice (some ⟨U, 0, none⟩) 11 11, .slice (some ⟨H, 0, none⟩) 1 1]) 1 up11 [L] := by
  have := bool_rd wx (fun k => k < wx.heap.size) U up11 (Array.getElem?_eq_some_iff.1 h.bu).1 (by decide) h.bu
  exact ⟨_, _, _, _, _, _, rfl, Nat.le_refl _, Nat.le_refl _, this, one_row (Array.getElem?_eq_some_iff.1 h.bh).1 h.bh hc (hr.mono fun k _ hk => hk)⟩
end
/-- The wide configuration in its box. -/
structure WB (w : World) (Q : Nat) (F : Option Addr) : Prop where
  lt : Q < w.heap.size
  cells : w.cell? ⟨Q, 0, none⟩ = some (.int .i64 11) ∧ w.cell? ⟨Q, 1, none⟩ = some (.slice F 1 1) ∧ w.cell? ⟨Q, 2, none⟩ = some (.int .i64 1) ∧ w.cell? ⟨Q, 3, none⟩ = some (.int .i64 1)
  rd : Rd elFl w (fun k => k < w.heap.size) F 1 flW
theorem WB.below {w w' : World} {Q : Nat} {F : Option Addr} (h : WB w Q F) (hb : Below w.heap.size w w') : WB w' Q F :=
  ⟨Nat.lt_of_lt_of_le h.lt hb.size, ⟨(hb.cell (p := ⟨Q, 0, none⟩) h.lt).trans h.cells.1, (hb.cell (p := ⟨Q, 1, none⟩) h.lt).trans h.cells.2.1, (hb.cell (p := ⟨Q, 2, none⟩) h.lt).trans h.cells.2.2.1, (hb.cell (p := ⟨Q, 3, none⟩) h.lt).trans h.cells.2.2.2⟩,
    (h.rd.below hb).mono fun k hk _ => Nat.lt_of_lt_of_le hk hb.size⟩
theorem WB.may {w : World} {Q : Nat} {F : Option Addr} {v : Value} {L : List Ed} {r : Bool} {ok : Nat → Prop} (h : WB w Q F) (hT : TopoV w ok v 1 up11 [L]) (hf : Few [L]) (hr : mayOk 11 flW 1 1 1 up11 [L] = r) :
    Calls Try.prog 20 #[.agg #[.int .i64 11, .slice F 1 1, .int .i64 1, .int .i64 1], v] w fun e w' => e = .returned (.bool r) ∧ Below w.heap.size w w' := by
  rw [← hr]; exact may_calls w _ _ 11 flW 1 1 1 up11 [L] ⟨F, 1, 1, rfl, Nat.le_refl _, by decide, by decide, by decide, h.rd⟩ (hT.mono fun k _ hk => hk) hf
theorem WB.made (w : World) : ∀ w1, ((w.alloc (.cells #[.int .i64 1] 3)).alloc (.cells #[.int .i64 5, .int .i64 1, .int .i64 0, .slice (some ⟨w.heap.size, 0, none⟩) 1 1] 46)).alloc (.cells #[.int .i64 11, .slice (some ⟨w.heap.size + 1, 0, none⟩) 1 1, .int .i64 1, .int .i64 1] 49) = w1 →
    WB w1 (w.heap.size + 2) (some ⟨w.heap.size + 1, 0, none⟩) ∧ Below w.heap.size w w1 := by
  intro w1 hw1
  obtain ⟨W1, h1⟩ : ∃ W1, w.alloc (.cells #[.int .i64 1] 3) = W1 := ⟨_, rfl⟩
  rw [h1] at hw1
  obtain ⟨W2, h2⟩ : ∃ W2, W1.alloc (.cells #[.int .i64 5, .int .i64 1, .int .i64 0, .slice (some ⟨w.heap.size, 0, none⟩) 1 1] 46) = W2 := ⟨_, rfl⟩
  rw [h2] at hw1
  have s1 : W1.heap.size = w.heap.size + 1 := by rw [← h1]; simp
  have s2 : W2.heap.size = w.heap.size + 2 := by rw [← h2]; simp [s1]
  have s3 : w1.heap.size = w.heap.size + 3 := by rw [← hw1]; simp [s2]
  have b1 : Below w.heap.size w W1 := by rw [← h1]; exact (Below.refl _ _).alloc (Nat.le_refl _) _
  have b2 : Below W1.heap.size W1 W2 := by rw [← h2]; exact (Below.refl _ _).alloc (Nat.le_refl _) _
  have b3 : Below W2.heap.size W2 w1 := by rw [← hw1]; exact (Below.refl _ _).alloc (Nat.le_refl _) _
  have e1 : W1.heap[w.heap.size]? = some (.cells #[.int .i64 1] 3 (0, 0)) := by rw [← h1]; exact heap_alloc_new w _
  have e2 : W2.heap[w.heap.size + 1]? = some (.cells #[.int .i64 5, .int .i64 1, .int .i64 0, .slice (some ⟨w.heap.size, 0, none⟩) 1 1] 46 (0, 0)) := by rw [← h2, ← s1]; exact heap_alloc_new W1 _
  have e3 : w1.heap[w.heap.size + 2]? = some (.cells #[.int .i64 11, .slice (some ⟨w.heap.size + 1, 0, none⟩) 1 1, .int .i64 1, .int .i64 1] 49 (0, 0)) := by rw [← hw1, ← s2]; exact heap_alloc_new W2 _
  have r1 : Rd El.int W1 (fun k => k < W1.heap.size) (some ⟨w.heap.size, 0, none⟩) 1 [1] := rd_block (E := El.int) (xs := [1]) (vss := [[.int .i64 1]]) (.cons ⟨rfl, by decide⟩ .nil) (by omega) (by omega) (by decide) fun j u hu => by
    simp only [World.cell?, e1]
    simpa using hu
  have r2 := (r1.below b2).mono (ok' := fun k => k < W2.heap.size) fun k hk _ => by omega
  have r3 : Rd elFl W2 (fun k => k < W2.heap.size) (some ⟨w.heap.size + 1, 0, none⟩) 1 flW := rd_block (E := elFl) (xs := flW) (vss := [[.int .i64 5, .int .i64 1, .int .i64 0, .slice (some ⟨w.heap.size, 0, none⟩) 1 1]])
    (.cons ⟨_, _, rfl, ⟨rfl, by decide⟩, _, _, rfl, ⟨rfl, by decide⟩, _, _, rfl, ⟨rfl, by decide⟩, _, _, _, rfl, Nat.le_refl _, r2⟩ .nil) (by omega) (by omega) (by decide) fun j u hu => by
    simp only [World.cell?, e2]
    simpa using hu
  have r4 := (r3.below b3).mono (ok' := fun k => k < w1.heap.size) fun k hk _ => by omega
  exact ⟨⟨by omega, ⟨by simp [World.cell?, e3], by simp [World.cell?, e3], by simp [World.cell?, e3], by simp [World.cell?, e3]⟩, r4⟩, belowThen (belowThen b1 b1.size b2) (by omega) b3⟩
end Go.Proofs.Ytgfnlfkbbedkaaa
