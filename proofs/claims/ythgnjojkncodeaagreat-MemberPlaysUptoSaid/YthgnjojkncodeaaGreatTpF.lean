/-
  Flows and configurations: topo.Config.
-/
import Derived.Test.YthgnjojkncodeaaGreatTpC
namespace Go.Proofs.YthgnjojkncodeaaGreat
open Go.RowKit
set_option linter.unusedVariables false

abbrev Flw := Int × Int × Int × List Int
abbrev elIs1 : El (List Int) := El.slice El.int
abbrev elFl : El Flw := El.prod El.int (El.prod El.int (El.prod El.int elIs1))
theorem fl_open {w : World} {ok : Nat → Prop} {vs : List Value} {x : Flw} (h : elFl.V w ok vs x) : ∃ A n c, vs = [.int .i64 x.1, .int .i64 x.2.1, .int .i64 x.2.2.1, .slice A n c] ∧ inI x.1 ∧ inI x.2.1 ∧ inI x.2.2.1 ∧ n ≤ c ∧ RdI w ok A n x.2.2.2 := by
  obtain ⟨us, ws, rfl, ⟨rfl, h1⟩, us2, ws2, rfl, ⟨rfl, h2⟩, us3, ws3, rfl, ⟨rfl, h3⟩, A, n, c, rfl, hc, hr⟩ := h
  exact ⟨A, n, c, rfl, h1, h2, h3, hc, RdI.ofRdInt hr⟩
theorem within_any (n a b : Int) (w : World) : Calls Tryz.prog 52 #[.int .i64 n, .int .i64 a, .int .i64 b] w fun e w' => e = .returned (.bool (withinB n a b)) ∧ w = w' := by
  by_cases h : a ≤ n ∧ n ≤ b
  · have : withinB n a b = true := by unfold withinB; rw [decide_eq_true h.1, decide_eq_true h.2]; rfl
    rw [this]; exact within_yes n a b w h.1 h.2
  · have : withinB n a b = false := by
      unfold withinB
      by_cases h1 : a ≤ n
      · rw [decide_eq_true h1, decide_eq_false (fun h2 => h ⟨h1, h2⟩)]; rfl
      · rw [decide_eq_false h1]; rfl
    rw [this]; exact within_no n a b w (by omega)
def nodeB (nodes n : Int) : Bool := withinB n 0 (nodes - 1)
def sinkBad (nodes src : Int) (sinks : List Int) (i : Nat) : Bool := !nodeB nodes (sinks[i]?.getD 0) || (sinks[i]?.getD 0 == src) || (decide (0 < i) && decide (sinks[i - 1]?.getD 0 ≥ sinks[i]?.getD 0))
def flowBad (nodes : Int) (f : Flw) : Bool :=
  (List.range f.2.2.2.length).any (sinkBad nodes f.2.2.1 f.2.2.2) || !withinB f.1 1 255 || !withinB f.2.1 1 65535 || decide (f.1 * f.2.1 ≤ 4) || !nodeB nodes f.2.2.1 || !withinB (f.2.2.2.length : Int) 1 8
def configOk (nodes : Int) (flows : List Flw) (win que : Int) : Bool :=
  withinB nodes 1 64 && withinB (flows.length : Int) 1 4 && withinB win 1 16 && withinB que 1 64 && !flows.any (flowBad nodes)
theorem withinB_iff {n a b : Int} : withinB n a b = true ↔ a ≤ n ∧ n ≤ b := by simp [withinB]
/-- A configuration's value. -/
def ConfV (w : World) (ok : Nat → Prop) (v : Value) (nodes : Int) (flows : List Flw) (win que : Int) : Prop :=
  ∃ A n c, v = .agg #[.int .i64 nodes, .slice A n c, .int .i64 win, .int .i64 que] ∧ n ≤ c ∧ inI nodes ∧ inI win ∧ inI que ∧ Rd elFl w ok A n flows
/-- What a closure from flows to bool does. -/
def GivesF (g : Nat) (lb : Array Value) (p : Flw → Bool) (w : World) (ok : Nat → Prop) : Prop := ∀ (W : World) (x : Flw) (vs : List Value), Below w.heap.size w W → elFl.V W ok vs x →
  Calls Tryz.prog g (#[.agg vs.toArray] ++ lb) W fun e w' => e = .returned (.bool (p x)) ∧ Below W.heap.size W w'
theorem any_takeF (p : Flw → Bool) (es : List Flw) (k : Nat) (x : Flw) (hx : es[k]? = some x) (h : (es.take k).any p = false) (hp : p x = false) : (es.take (k + 1)).any p = false := by
  have hk : k < es.length := (List.getElem?_eq_some_iff.1 hx).1
  have e : es[k] = x := by rw [List.getElem?_eq_getElem hk] at hx; injection hx
  rw [List.take_succ_eq_append_getElem hk, List.any_append, h, e]
  simp [hp]
set_option maxHeartbeats 1000000 in
theorem ifuncF_calls (w : World) (ok : Nat → Prop) (A : Option Addr) (n c : Nat) (es : List Flw) (hr : Rd elFl w ok A n es) (g : Nat) (lb : Array Value) (p : Flw → Bool)
    (eg : ∀ args w, (callFunc g args).run Tryz.prog w = .ok (.enter g args) w) (hg : GivesF g lb p w ok) :
    Calls Tryz.prog 71 #[.slice A n c, .func (.func g) #[] lb] w (RetIx w (es.any p)) := by
  have hl := hr.len
  have hm := hr.max
  obtain ⟨rb, hrb⟩ : ∃ rb, es.any p = rb := ⟨_, rfl⟩
  rw [hrb]
  have HRB := Lib.hid hrb
  clear hrb
  go_enter Tryz.func71, Tryz.ntmps71
  go_wp2
  go_loopg [8] n (fun gg s8 wr => ∃ k : Nat, k ≤ n ∧ n - k ≤ gg ∧ s8 = .int .i64 k ∧ Hid ((es.take k).any p = false) ∧ Hid (Below w.heap.size w wr))
  case atStart => exact ⟨0, Nat.zero_le _, by omega, rfl, Lib.hid (by simp), Lib.hid (Below.refl _ w)⟩
  case round =>
    obtain ⟨k, hk, hgk, rfl, HN, HB⟩ := hrel
    by_cases hlt : k < n
    · have hlti : (k : Int) < (n : Int) := by omega
      obtain ⟨x, hx⟩ : ∃ x, es[k]? = some x := ⟨_, List.getElem?_eq_getElem (by omega)⟩
      obtain ⟨b, o, vs, rfl, hb1, hb2, hV, hcl⟩ := (hr.below HB.out).at_ k x hx
      have hcall := hg wr x vs HB.out hV
      obtain ⟨A4, n4, c4, rfl, hi1, hi2, hi3, _, _⟩ := fl_open hV
      have k0 : wr.cell? ⟨b, o + k * 4, none⟩ = some (.int .i64 x.1) := hcl 0 _ rfl
      have k1 : wr.cell? ⟨b, o + k * 4 + 1, none⟩ = some (.int .i64 x.2.1) := hcl 1 _ rfl
      have k2 : wr.cell? ⟨b, o + k * 4 + 2, none⟩ = some (.int .i64 x.2.2.1) := hcl 2 _ rfl
      have k3 : wr.cell? ⟨b, o + k * 4 + 3, none⟩ = some (.slice A4 n4 c4) := hcl 3 _ rfl
      obtain ⟨x1, x2, x3, xs⟩ := x
      simp only at k0 k1 k2 k3
      have HX := Lib.hid hx
      clear hg hcl hV hx hl hr
      cases hq : p (x1, x2, x3, xs) with
      | true =>
        have hmem : es.any p = true := List.any_eq_true.2 ⟨_, List.mem_of_getElem? HX.out, hq⟩
        have HM := Lib.hid hmem
        rw [hq] at hcall
        clear hq hmem
        go_wp2_with (go_at_fn g; refine hcall.mono ?_; rintro e w2 ⟨rfl, hb2'⟩)
        go_ret
        exact ⟨k, rfl, by rw [← HRB.out, HM.out]; simp, belowThen HB.out HB.out.size hb2'⟩
      | false =>
        have HT := Lib.hid (any_takeF p es k _ HX.out HN.out hq)
        rw [hq] at hcall
        clear hq
        go_wp2_with (go_at_fn g; refine hcall.mono ?_; rintro e w2 ⟨rfl, hb2'⟩)
        go_roundg (n - (k + 1))
        case measure => omega
        case rel => exact ⟨k + 1, by omega, by omega, by go_num, HT, Lib.hid (belowThen HB.out HB.out.size hb2')⟩
    · have hlti : ¬ (k : Int) < (n : Int) := by omega
      have hmem : es.any p = false := by have := HN.out; rwa [List.take_of_length_le (by omega)] at this
      have HM := Lib.hid hmem
      clear hmem hg hl hr
      go_wp2
      go_ret
      exact ⟨-1, rfl, by rw [← HRB.out, HM.out]; simp, HB.out⟩
theorem cfuncF_calls (w : World) (ok : Nat → Prop) (A : Option Addr) (n c : Nat) (es : List Flw) (hr : Rd elFl w ok A n es) (g : Nat) (lb : Array Value) (p : Flw → Bool)
    (eg : ∀ args w, (callFunc g args).run Tryz.prog w = .ok (.enter g args) w) (hg : GivesF g lb p w ok) :
    Calls Tryz.prog 53 #[.slice A n c, .func (.func g) #[] lb] w fun e w' => e = .returned (.bool (es.any p)) ∧ Below w.heap.size w w' := by
  have hc := ifuncF_calls w ok A n c es hr g lb p eg hg
  obtain ⟨rb, hrb⟩ : ∃ rb, es.any p = rb := ⟨_, rfl⟩
  rw [hrb] at hc ⊢
  clear hrb hg eg hr
  go_enter Tryz.func53, Tryz.ntmps53
  go_wp2_with (go_at_call 71; refine hc.mono ?_; rintro e w2 ⟨r, rfl, hr2, hb2⟩; have HR := Lib.hid hr2; clear hr2)
  go_ret
  exact ⟨ret_bool HR.out, hb2⟩
theorem node_calls (nodes n : Int) (B : Nat) (w : World) (h1 : 1 ≤ nodes) (h2 : nodes ≤ 64) (hc : w.cell? ⟨B, 0, none⟩ = some (.int .i64 nodes)) :
    Calls Tryz.prog 51 #[.int .i64 n, .pointer (some ⟨B, 0, none⟩)] w fun e w' => e = .returned (.bool (nodeB nodes n)) ∧ w = w' := by
  have hwi := within_any n 0 (nodes - 1) w
  obtain ⟨r, hr⟩ : ∃ r, withinB n 0 (nodes - 1) = r := ⟨_, rfl⟩
  have hr' : nodeB nodes n = r := hr
  rw [hr] at hwi
  rw [hr']
  clear hr hr'
  go_enter Tryz.func51, Tryz.ntmps51
  go_wp2_with (go_at_call 52; refine hwi.mono ?_; rintro e w1 ⟨rfl, rfl⟩)
  go_ret
  exact ⟨rfl, rfl⟩
end Go.Proofs.YthgnjojkncodeaaGreat
