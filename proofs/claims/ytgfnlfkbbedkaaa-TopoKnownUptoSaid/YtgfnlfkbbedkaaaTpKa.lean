/-
  TopoKnown: the closures that change a configuration, and what they leave.
-/
import Derived.Test.YtgfnlfkbbedkaaaTpM
import Derived.Test.YtgfnlfkbbedkaaaTpD
namespace Go.Proofs.Ytgfnlfkbbedkaaa
open Go.RowKit
set_option linter.unusedVariables false

/-- A configuration of one flow of two sinks, in memory of its own. -/
structure CW (w : World) (P F S cF cS : Nat) : Prop where
  lt : P < w.heap.size ∧ F < w.heap.size ∧ S < w.heap.size
  ne : P ≠ F ∧ P ≠ S ∧ F ≠ S
  cap : 1 ≤ cF ∧ 2 ≤ cS
  p : w.cell? ⟨P, 0, none⟩ = some (.int .i64 5) ∧ w.cell? ⟨P, 1, none⟩ = some (.slice (some ⟨F, 0, none⟩) 1 cF) ∧ w.cell? ⟨P, 2, none⟩ = some (.int .i64 1) ∧ w.cell? ⟨P, 3, none⟩ = some (.int .i64 1)
  f : w.cell? ⟨F, 0, none⟩ = some (.int .i64 1) ∧ w.cell? ⟨F, 1, none⟩ = some (.int .i64 5) ∧ w.cell? ⟨F, 2, none⟩ = some (.int .i64 0) ∧ w.cell? ⟨F, 3, none⟩ = some (.slice (some ⟨S, 0, none⟩) 2 cS)
  s : w.cell? ⟨S, 0, none⟩ = some (.int .i64 3) ∧ w.cell? ⟨S, 1, none⟩ = some (.int .i64 4)
  fr : (∀ i, w.frozen? ⟨P, i, none⟩ = false) ∧ (∀ i, w.frozen? ⟨F, i, none⟩ = false) ∧ (∀ i, w.frozen? ⟨S, i, none⟩ = false)
/-- What stands in a configuration's box. -/
def CIn (w : World) (P : Nat) (nodes : Int) (flows : List Flw) (win que : Int) : Prop := ∃ A n c, (w.cell? ⟨P, 0, none⟩ = some (.int .i64 nodes) ∧ w.cell? ⟨P, 1, none⟩ = some (.slice A n c) ∧ w.cell? ⟨P, 2, none⟩ = some (.int .i64 win) ∧ w.cell? ⟨P, 3, none⟩ = some (.int .i64 que)) ∧
  n ≤ c ∧ Rd elFl w (fun k => k < w.heap.size) A n flows
theorem two_rd {w : World} {S : Nat} {x y : Int} (hS : S < w.heap.size) (h0 : w.cell? ⟨S, 0, none⟩ = some (.int .i64 x)) (h1 : w.cell? ⟨S, 1, none⟩ = some (.int .i64 y)) (hx : inI x) (hy : inI y) :
    Rd El.int w (fun k => k < w.heap.size) (some ⟨S, 0, none⟩) 2 [x, y] :=
  rd_block (E := El.int) (xs := [x, y]) (vss := [[.int .i64 x], [.int .i64 y]]) (.cons ⟨rfl, hx⟩ (.cons ⟨rfl, hy⟩ .nil)) hS hS (by simp) fun j u hu => by
    match j, hu with
    | 0, hu => simp at hu; subst hu; exact h0
    | 1, hu => simp at hu; subst hu; exact h1
    | j + 2, hu => simp at hu
theorem flow_rd {w : World} {F : Nat} {g s src : Int} {sk : List Int} {A : Option Addr} {n c : Nat} (hF : F < w.heap.size) (h0 : w.cell? ⟨F, 0, none⟩ = some (.int .i64 g)) (h1 : w.cell? ⟨F, 1, none⟩ = some (.int .i64 s))
    (h2 : w.cell? ⟨F, 2, none⟩ = some (.int .i64 src)) (h3 : w.cell? ⟨F, 3, none⟩ = some (.slice A n c)) (hg : inI g) (hs : inI s) (hc : inI src) (hn : n ≤ c) (hr : Rd El.int w (fun k => k < w.heap.size) A n sk) :
    Rd elFl w (fun k => k < w.heap.size) (some ⟨F, 0, none⟩) 1 [(g, s, src, sk)] :=
  rd_block (E := elFl) (xs := [(g, s, src, sk)]) (vss := [[.int .i64 g, .int .i64 s, .int .i64 src, .slice A n c]])
    (.cons ⟨_, _, rfl, ⟨rfl, hg⟩, _, _, rfl, ⟨rfl, hs⟩, _, _, rfl, ⟨rfl, hc⟩, _, _, _, rfl, hn, hr⟩ .nil) hF hF (by simp) fun j u hu => by
    match j, hu with
    | 0, hu => simp at hu; subst hu; exact h0
    | 1, hu => simp at hu; subst hu; exact h1
    | 2, hu => simp at hu; subst hu; exact h2
    | 3, hu => simp at hu; subst hu; exact h3
    | j + 4, hu => simp at hu
/-- What a closure makes of that configuration. -/
def Does (g : Nat) (nodes : Int) (flows : List Flw) (win que : Int) : Prop := ∀ (W : World) (P F S cF cS : Nat), CW W P F S cF cS →
  Calls Try.prog g #[.pointer (some ⟨P, 0, none⟩)] W fun e w' => e = .returned (.tuple #[]) ∧ Chg (fun k => k = P ∨ k = F ∨ k = S) W w' ∧ CIn w' P nodes flows win que
theorem cell_far {w : World} {b c i j : Nat} {v u : Value} (h : w.cell? ⟨c, j, none⟩ = some u) (hne : b ≠ c ∨ i ≠ j) : (w.setCell ⟨b, i, none⟩ v).cell? ⟨c, j, none⟩ = some u := by
  rw [World.cell?_setCell_other _ _ _ _ fun e => by injection e with e1 e2; rcases hne with h' | h' <;> contradiction]; exact h
theorem size_set (w : World) (a : Addr) (v : Value) : (w.setCell a v).heap.size = w.heap.size := by simp [World.setCell]
section
variable {W : World} {P F S cF cS : Nat}
theorem CW.chgP (h : CW W P F S cF cS) (i : Nat) (v : Value) : Chg (fun k => k = P ∨ k = F ∨ k = S) W (W.setCell ⟨P, i, none⟩ v) := (Chg.set W ⟨P, i, none⟩ v).mono fun k _ e => .inl e
theorem CW.chgF (h : CW W P F S cF cS) (i : Nat) (v : Value) : Chg (fun k => k = P ∨ k = F ∨ k = S) W (W.setCell ⟨F, i, none⟩ v) := (Chg.set W ⟨F, i, none⟩ v).mono fun k _ e => .inr (.inl e)
theorem CW.chgS (h : CW W P F S cF cS) (i : Nat) (v : Value) : Chg (fun k => k = P ∨ k = F ∨ k = S) W (W.setCell ⟨S, i, none⟩ v) := (Chg.set W ⟨S, i, none⟩ v).mono fun k _ e => .inr (.inr e)
theorem CW.rdP (h : CW W P F S cF cS) (i : Nat) (v : Value) : Rd elFl (W.setCell ⟨P, i, none⟩ v) (fun k => k < (W.setCell ⟨P, i, none⟩ v).heap.size) (some ⟨F, 0, none⟩) 1 [(1, 5, 0, [3, 4])] := by
  have n1 := h.ne
  refine flow_rd (by rw [size_set]; exact h.lt.2.1) (cell_far h.f.1 (.inl n1.1)) (cell_far h.f.2.1 (.inl n1.1)) (cell_far h.f.2.2.1 (.inl n1.1)) (cell_far h.f.2.2.2 (.inl n1.1)) (by decide) (by decide) (by decide) h.cap.2 ?_
  exact two_rd (by rw [size_set]; exact h.lt.2.2) (cell_far h.s.1 (.inl n1.2.1)) (cell_far h.s.2 (.inl n1.2.1)) (by decide) (by decide)
theorem CW.sF (h : CW W P F S cF cS) (i : Nat) (v : Value) : Rd El.int (W.setCell ⟨F, i, none⟩ v) (fun k => k < (W.setCell ⟨F, i, none⟩ v).heap.size) (some ⟨S, 0, none⟩) 2 [3, 4] :=
  two_rd (by rw [size_set]; exact h.lt.2.2) (cell_far h.s.1 (.inl h.ne.2.2)) (cell_far h.s.2 (.inl h.ne.2.2)) (by decide) (by decide)
theorem CW.nodes (h : CW W P F S cF cS) (v : Int) : CIn (W.setCell ⟨P, 0, none⟩ (.int .i64 v)) P v [(1, 5, 0, [3, 4])] 1 1 :=
  ⟨_, _, _, ⟨World.cell?_setCell_same _ _ _ h.p.1, cell_far h.p.2.1 (.inr (by decide)), cell_far h.p.2.2.1 (.inr (by decide)), cell_far h.p.2.2.2 (.inr (by decide))⟩, h.cap.1, h.rdP 0 _⟩
theorem CW.win (h : CW W P F S cF cS) (v : Int) : CIn (W.setCell ⟨P, 2, none⟩ (.int .i64 v)) P 5 [(1, 5, 0, [3, 4])] v 1 :=
  ⟨_, _, _, ⟨cell_far h.p.1 (.inr (by decide)), cell_far h.p.2.1 (.inr (by decide)), World.cell?_setCell_same _ _ _ h.p.2.2.1, cell_far h.p.2.2.2 (.inr (by decide))⟩, h.cap.1, h.rdP 2 _⟩
theorem CW.que (h : CW W P F S cF cS) (v : Int) : CIn (W.setCell ⟨P, 3, none⟩ (.int .i64 v)) P 5 [(1, 5, 0, [3, 4])] 1 v :=
  ⟨_, _, _, ⟨cell_far h.p.1 (.inr (by decide)), cell_far h.p.2.1 (.inr (by decide)), cell_far h.p.2.2.1 (.inr (by decide)), World.cell?_setCell_same _ _ _ h.p.2.2.2⟩, h.cap.1, h.rdP 3 _⟩
theorem CW.flows (h : CW W P F S cF cS) : CIn (W.setCell ⟨P, 1, none⟩ (.slice none 0 0)) P 5 [] 1 1 :=
  ⟨none, 0, 0, ⟨cell_far h.p.1 (.inr (by decide)), World.cell?_setCell_same _ _ _ h.p.2.1, cell_far h.p.2.2.1 (.inr (by decide)), cell_far h.p.2.2.2 (.inr (by decide))⟩, Nat.le_refl _, Rd.nil _ _ _ _⟩
theorem CW.pF (h : CW W P F S cF cS) (i : Nat) (v : Value) : (W.setCell ⟨F, i, none⟩ v).cell? ⟨P, 0, none⟩ = some (.int .i64 5) ∧ (W.setCell ⟨F, i, none⟩ v).cell? ⟨P, 1, none⟩ = some (.slice (some ⟨F, 0, none⟩) 1 cF) ∧ (W.setCell ⟨F, i, none⟩ v).cell? ⟨P, 2, none⟩ = some (.int .i64 1) ∧
    (W.setCell ⟨F, i, none⟩ v).cell? ⟨P, 3, none⟩ = some (.int .i64 1) :=
  have n := fun e => h.ne.1 (Eq.symm e)
  ⟨cell_far h.p.1 (.inl n), cell_far h.p.2.1 (.inl n), cell_far h.p.2.2.1 (.inl n), cell_far h.p.2.2.2 (.inl n)⟩
theorem CW.g (h : CW W P F S cF cS) (v : Int) (hv : inI v) : CIn (W.setCell ⟨F, 0, none⟩ (.int .i64 v)) P 5 [(v, 5, 0, [3, 4])] 1 1 :=
  ⟨_, _, _, h.pF 0 _, h.cap.1, flow_rd (by rw [size_set]; exact h.lt.2.1) (World.cell?_setCell_same _ _ _ h.f.1) (cell_far h.f.2.1 (.inr (by decide))) (cell_far h.f.2.2.1 (.inr (by decide))) (cell_far h.f.2.2.2 (.inr (by decide))) hv (by decide) (by decide) h.cap.2 (h.sF 0 _)⟩
theorem CW.sz (h : CW W P F S cF cS) (v : Int) (hv : inI v) : CIn (W.setCell ⟨F, 1, none⟩ (.int .i64 v)) P 5 [(1, v, 0, [3, 4])] 1 1 :=
  ⟨_, _, _, h.pF 1 _, h.cap.1, flow_rd (by rw [size_set]; exact h.lt.2.1) (cell_far h.f.1 (.inr (by decide))) (World.cell?_setCell_same _ _ _ h.f.2.1) (cell_far h.f.2.2.1 (.inr (by decide))) (cell_far h.f.2.2.2 (.inr (by decide))) (by decide) hv (by decide) h.cap.2 (h.sF 1 _)⟩
theorem CW.src (h : CW W P F S cF cS) (v : Int) (hv : inI v) : CIn (W.setCell ⟨F, 2, none⟩ (.int .i64 v)) P 5 [(1, 5, v, [3, 4])] 1 1 :=
  ⟨_, _, _, h.pF 2 _, h.cap.1, flow_rd (by rw [size_set]; exact h.lt.2.1) (cell_far h.f.1 (.inr (by decide))) (cell_far h.f.2.1 (.inr (by decide))) (World.cell?_setCell_same _ _ _ h.f.2.2.1) (cell_far h.f.2.2.2 (.inr (by decide))) (by decide) (by decide) hv h.cap.2 (h.sF 2 _)⟩
theorem CW.noSinks (h : CW W P F S cF cS) : CIn (W.setCell ⟨F, 3, none⟩ (.slice none 0 0)) P 5 [(1, 5, 0, [])] 1 1 :=
  ⟨_, _, _, h.pF 3 _, h.cap.1, flow_rd (A := none) (n := 0) (c := 0) (by rw [size_set]; exact h.lt.2.1) (cell_far h.f.1 (.inr (by decide))) (cell_far h.f.2.1 (.inr (by decide))) (cell_far h.f.2.2.1 (.inr (by decide))) (World.cell?_setCell_same _ _ _ h.f.2.2.2) (by decide) (by decide) (by decide) (Nat.le_refl _) (Rd.nil _ _ _ _)⟩
theorem CW.sink (h : CW W P F S cF cS) (v : Int) (hv : inI v) : CIn (W.setCell ⟨S, 1, none⟩ (.int .i64 v)) P 5 [(1, 5, 0, [3, v])] 1 1 := by
  have n1 : S ≠ P := fun e => h.ne.2.1 e.symm
  have n2 : S ≠ F := fun e => h.ne.2.2 e.symm
  exact ⟨_, _, _, ⟨cell_far h.p.1 (.inl n1), cell_far h.p.2.1 (.inl n1), cell_far h.p.2.2.1 (.inl n1), cell_far h.p.2.2.2 (.inl n1)⟩, h.cap.1, flow_rd (by rw [size_set]; exact h.lt.2.1) (cell_far h.f.1 (.inl n2)) (cell_far h.f.2.1 (.inl n2)) (cell_far h.f.2.2.1 (.inl n2)) (cell_far h.f.2.2.2 (.inl n2)) (by decide) (by decide) (by decide) h.cap.2
    (two_rd (by rw [size_set]; exact h.lt.2.2) (cell_far h.s.1 (.inr (by decide))) (World.cell?_setCell_same _ _ _ h.s.2) (by decide) hv)⟩
end
theorem does2 : Does 23 4 [(1, 5, 0, [3, 4])] 1 1 := by
  intro W P F S cF cS h
  have a0 := h.p.1
  have a1 := h.fr.1 0
  have q1 := h.chgP 0 (.int .i64 4)
  have q2 := h.nodes 4
  have H := Lib.hid (And.intro q1 q2)
  have hcF := h.cap.1
  have hcS := h.cap.2
  clear h q1 q2
  go_enter Try.func23, Try.ntmps23
  go_wp2
  go_end0
  exact ⟨rfl, H.out.1, H.out.2⟩
theorem does3 : Does 24 65 [(1, 5, 0, [3, 4])] 1 1 := by
  intro W P F S cF cS h
  have a0 := h.p.1
  have a1 := h.fr.1 0
  have q1 := h.chgP 0 (.int .i64 65)
  have q2 := h.nodes 65
  have H := Lib.hid (And.intro q1 q2)
  have hcF := h.cap.1
  have hcS := h.cap.2
  clear h q1 q2
  go_enter Try.func24, Try.ntmps24
  go_wp2
  go_end0
  exact ⟨rfl, H.out.1, H.out.2⟩
theorem does4 : Does 25 5 [(1, 5, 0, [3, 4])] 17 1 := by
  intro W P F S cF cS h
  have a0 := h.p.2.2.1
  have a1 := h.fr.1 2
  have q1 := h.chgP 2 (.int .i64 17)
  have q2 := h.win 17
  have H := Lib.hid (And.intro q1 q2)
  have hcF := h.cap.1
  have hcS := h.cap.2
  clear h q1 q2
  go_enter Try.func25, Try.ntmps25
  go_wp2
  go_end0
  exact ⟨rfl, H.out.1, H.out.2⟩
theorem does5 : Does 26 5 [(1, 5, 0, [3, 4])] 1 0 := by
  intro W P F S cF cS h
  have a0 := h.p.2.2.2
  have a1 := h.fr.1 3
  have q1 := h.chgP 3 (.int .i64 0)
  have q2 := h.que 0
  have H := Lib.hid (And.intro q1 q2)
  have hcF := h.cap.1
  have hcS := h.cap.2
  clear h q1 q2
  go_enter Try.func26, Try.ntmps26
  go_wp2
  go_end0
  exact ⟨rfl, H.out.1, H.out.2⟩
theorem does6 : Does 27 5 [(1, 4, 0, [3, 4])] 1 1 := by
  intro W P F S cF cS h
  have a0 := h.p.2.1
  have a1 := h.f.2.1
  have a2 := h.fr.2.1 1
  have q1 := h.chgF 1 (.int .i64 4)
  have q2 := h.sz 4 (by decide)
  have H := Lib.hid (And.intro q1 q2)
  have hcF := h.cap.1
  have hcS := h.cap.2
  clear h q1 q2
  go_enter Try.func27, Try.ntmps27
  go_wp2
  go_end0
  exact ⟨rfl, H.out.1, H.out.2⟩
theorem does7 : Does 28 5 [(256, 5, 0, [3, 4])] 1 1 := by
  intro W P F S cF cS h
  have a0 := h.p.2.1
  have a1 := h.f.1
  have a2 := h.fr.2.1 0
  have q1 := h.chgF 0 (.int .i64 256)
  have q2 := h.g 256 (by decide)
  have H := Lib.hid (And.intro q1 q2)
  have hcF := h.cap.1
  have hcS := h.cap.2
  clear h q1 q2
  go_enter Try.func28, Try.ntmps28
  go_wp2
  go_end0
  exact ⟨rfl, H.out.1, H.out.2⟩
theorem does8 : Does 29 5 [(1, 5, 3, [3, 4])] 1 1 := by
  intro W P F S cF cS h
  have a0 := h.p.2.1
  have a1 := h.f.2.2.1
  have a2 := h.fr.2.1 2
  have q1 := h.chgF 2 (.int .i64 3)
  have q2 := h.src 3 (by decide)
  have H := Lib.hid (And.intro q1 q2)
  have hcF := h.cap.1
  have hcS := h.cap.2
  clear h q1 q2
  go_enter Try.func29, Try.ntmps29
  go_wp2
  go_end0
  exact ⟨rfl, H.out.1, H.out.2⟩
theorem does9 : Does 30 5 [(1, 5, 0, [])] 1 1 := by
  intro W P F S cF cS h
  have a0 := h.p.2.1
  have a1 := h.f.2.2.2
  have a2 := h.fr.2.1 3
  have q1 := h.chgF 3 (.slice .none 0 0)
  have q2 := h.noSinks
  have H := Lib.hid (And.intro q1 q2)
  have hcF := h.cap.1
  have hcS := h.cap.2
  clear h q1 q2
  go_enter Try.func30, Try.ntmps30
  go_wp2
  go_end0
  exact ⟨rfl, H.out.1, H.out.2⟩
theorem does10 : Does 31 5 [(1, 5, 0, [3, 3])] 1 1 := by
  intro W P F S cF cS h
  have a0 := h.p.2.1
  have a1 := h.f.2.2.2
  have a2 := h.s.2
  have a3 := h.fr.2.2 1
  have q1 := h.chgS 1 (.int .i64 3)
  have q2 := h.sink 3 (by decide)
  have H := Lib.hid (And.intro q1 q2)
  have hcF := h.cap.1
  have hcS := h.cap.2
  clear h q1 q2
  go_enter Try.func31, Try.ntmps31
  go_wp2
  go_end0
  exact ⟨rfl, H.out.1, H.out.2⟩
theorem does11 : Does 32 5 [] 1 1 := by
  intro W P F S cF cS h
  have a0 := h.p.2.1
  have a1 := h.fr.1 1
  have q1 := h.chgP 1 (.slice .none 0 0)
  have q2 := h.flows
  have H := Lib.hid (And.intro q1 q2)
  have hcF := h.cap.1
  have hcS := h.cap.2
  clear h q1 q2
  go_enter Try.func32, Try.ntmps32
  go_wp2
  go_end0
  exact ⟨rfl, H.out.1, H.out.2⟩
theorem does12 : Does 33 64 [(1, 5, 0, [3, 4])] 1 1 := by
  intro W P F S cF cS h
  have a0 := h.p.1
  have a1 := h.fr.1 0
  have q1 := h.chgP 0 (.int .i64 64)
  have q2 := h.nodes 64
  have H := Lib.hid (And.intro q1 q2)
  have hcF := h.cap.1
  have hcS := h.cap.2
  clear h q1 q2
  go_enter Try.func33, Try.ntmps33
  go_wp2
  go_end0
  exact ⟨rfl, H.out.1, H.out.2⟩
end Go.Proofs.Ytgfnlfkbbedkaaa
