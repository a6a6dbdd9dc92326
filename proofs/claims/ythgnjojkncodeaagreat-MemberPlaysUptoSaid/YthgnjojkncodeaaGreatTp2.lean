/-
  Edges and topologies; topo.within, edges, ends, Next, Prev, Edge.
-/
import Derived.Test.YthgnjojkncodeaaGreatTp1
import Derived.Deep.LoopGhost
namespace Go.Proofs.YthgnjojkncodeaaGreat
open Go.RowKit

abbrev inI (z : Int) : Prop := -9223372036854775808 ≤ z ∧ z ≤ 9223372036854775807
abbrev Ed := Int × Int
abbrev elEd : El Ed := El.prod El.int El.int
abbrev elEs : El (List Ed) := El.slice elEd
theorem ed_open {w : World} {ok : Nat → Prop} {vs : List Value} {x : Ed} (h : elEd.V w ok vs x) : vs = [.int .i64 x.1, .int .i64 x.2] ∧ inI x.1 ∧ inI x.2 := by
  obtain ⟨us, ws, rfl, ⟨rfl, h1⟩, rfl, h2⟩ := h
  exact ⟨rfl, h1, h2⟩
theorem ed_mk (w : World) (ok : Nat → Prop) {x : Ed} (h1 : inI x.1) (h2 : inI x.2) : elEd.V w ok [.int .i64 x.1, .int .i64 x.2] x := ⟨_, _, rfl, ⟨rfl, h1⟩, rfl, h2⟩
/-- A topology's value. -/
def TopoV (w : World) (ok : Nat → Prop) (v : Value) (ep : Int) (up : List Bool) (hops : List (List Ed)) : Prop :=
  ∃ A n c B m d, v = .agg #[.int .u64 ep, .slice A n c, .slice B m d] ∧ n ≤ c ∧ m ≤ d ∧ Rd El.bool w ok A n up ∧ Rd elEs w ok B m hops
theorem TopoV.below {w w' : World} {ok : Nat → Prop} {v : Value} {ep : Int} {up : List Bool} {hops : List (List Ed)} (h : TopoV w ok v ep up hops) (hb : Below w.heap.size w w') : TopoV w' ok v ep up hops := by
  obtain ⟨A, n, c, B, m, d, rfl, h1, h2, h3, h4⟩ := h
  exact ⟨A, n, c, B, m, d, rfl, h1, h2, h3.below hb, h4.below hb⟩
theorem TopoV.mono {w : World} {ok ok' : Nat → Prop} {v : Value} {ep : Int} {up : List Bool} {hops : List (List Ed)} (h : TopoV w ok v ep up hops) (hk : ∀ k, ok k → k < w.heap.size → ok' k) : TopoV w ok' v ep up hops := by
  obtain ⟨A, n, c, B, m, d, rfl, h1, h2, h3, h4⟩ := h
  exact ⟨A, n, c, B, m, d, rfl, h1, h2, h3.mono hk, h4.mono hk⟩
/-- What a call leaves that hands back a row of ints of its own. -/
def RetI (w : World) (xs : List Int) (e : Ending) (w' : World) : Prop := ∃ v, e = .returned v ∧ OwnI w' w.heap.size v xs ∧ Below w.heap.size w w'
def withinB (n a b : Int) : Bool := decide (a ≤ n) && decide (n ≤ b)
theorem within_yes (n a b : Int) (w : World) (h1 : a ≤ n) (h2 : n ≤ b) : Calls Tryz.prog 52 #[.int .i64 n, .int .i64 a, .int .i64 b] w fun e w' => e = .returned (.bool true) ∧ w = w' := by
  have h1' : n ≥ a := h1
  go_enter Tryz.func52, Tryz.ntmps52
  go_wp2
  go_ret
  exact ⟨rfl, rfl⟩
theorem within_no (n a b : Int) (w : World) (h : ¬ (a ≤ n ∧ n ≤ b)) : Calls Tryz.prog 52 #[.int .i64 n, .int .i64 a, .int .i64 b] w fun e w' => e = .returned (.bool false) ∧ w = w' := by
  by_cases h1 : n ≥ a
  · have h2 : ¬ (n ≤ b) := fun h2 => h ⟨h1, h2⟩
    clear h
    go_enter Tryz.func52, Tryz.ntmps52
    go_wp2
    go_ret
    exact ⟨rfl, rfl⟩
  · clear h
    go_enter Tryz.func52, Tryz.ntmps52
    go_wp2
    go_ret
    exact ⟨rfl, rfl⟩
def edgesOf (hops : List (List Ed)) (flow : Int) : List Ed := if 0 ≤ flow then (hops[flow.toNat]?).getD [] else []
def RetEs (w : World) (es : List Ed) (e : Ending) (w' : World) : Prop := ∃ A n c, e = .returned (.slice A n c) ∧ n ≤ c ∧ Rd elEd w' (fun k => k < w.heap.size) A n es ∧ Below w.heap.size w w'
theorem edges_calls (w : World) (v : Value) (ep : Int) (up : List Bool) (hops : List (List Ed)) (h : TopoV w (fun k => k < w.heap.size) v ep up hops) (flow : Int) (hf : inI flow) :
    Calls Tryz.prog 73 #[v, .int .i64 flow] w (RetEs w (edgesOf hops flow)) := by
  obtain ⟨A, n, c, B, m, d, rfl, h1, h2, h3, h4⟩ := h
  have hm := h4.max
  have hl := h4.len
  by_cases hin : 0 ≤ flow ∧ flow < m
  · obtain ⟨k, rfl⟩ : ∃ k : Nat, flow = k := ⟨flow.toNat, by omega⟩
    have hk : k < m := by omega
    obtain ⟨x, hx⟩ : ∃ x, hops[k]? = some x := ⟨_, List.getElem?_eq_getElem (by rw [hl]; exact hk)⟩
    have he : edgesOf hops (k : Int) = x := by unfold edgesOf; rw [if_pos (by omega)]; simp [hx]
    obtain ⟨b, o, vs, rfl, hb1, hb2, hV, hcl⟩ := h4.at_ k x hx
    obtain ⟨C, p, q, rfl, hpq, hrd⟩ := hV
    have k0 : w.cell? ⟨b, o + k, none⟩ = some (.slice C p q) := by have := hcl 0 _ rfl; simpa [El.slice] using this
    have hw : (m : Int) - 1 = ((m : Int) - 1) := rfl
    have hwi := fun W : World => within_yes (k : Int) 0 ((m : Int) - 1) W (by omega) (by omega)
    have hkm : (k : Int) < (m : Int) := by omega
    rw [he]
    have HR := Lib.hid hrd
    clear hin h3 h4 hcl hx hrd he hl hw
    go_enter Tryz.func73, Tryz.ntmps73
    go_wp2_with (go_at_call 52; refine (hwi _).mono ?_; rintro e w1 ⟨rfl, rfl⟩)
    go_ret
    have hb : Below w.heap.size w (w.alloc (.cells #[.int .u64 ep, .slice A n c, .slice (some ⟨b, o, none⟩) m d] 38)) := (Below.refl _ _).alloc (Nat.le_refl _) _
    exact ⟨_, _, _, rfl, hpq, HR.out.below hb, hb⟩
  · have he : edgesOf hops flow = [] := by
      unfold edgesOf
      by_cases h0 : 0 ≤ flow
      · rw [if_pos h0, List.getElem?_eq_none (by omega)]; rfl
      · rw [if_neg h0]
    have hwi := fun W : World => within_no flow 0 ((m : Int) - 1) W (by omega)
    rw [he]
    clear hin h3 h4 he hl
    go_enter Tryz.func73, Tryz.ntmps73
    go_wp2_with (go_at_call 52; refine (hwi _).mono ?_; rintro e w1 ⟨rfl, rfl⟩)
    go_ret
    exact ⟨none, 0, 0, rfl, Nat.le_refl _, Rd.nil _ _ _ _, (Below.refl _ _).alloc (Nat.le_refl _) _⟩
/-- What a closure from edges to (int, bool) does. -/
def GivesE (g : Nat) (lb : Array Value) (f : Ed → Int × Bool) (w : World) : Prop := ∀ (W : World) (x : Ed), Below w.heap.size w W →
  Calls Tryz.prog g (#[.agg #[.int .i64 x.1, .int .i64 x.2]] ++ lb) W fun e w' => e = .returned (.tuple #[.int .i64 (f x).1, .bool (f x).2]) ∧ Below W.heap.size W w'
def picks (f : Ed → Int × Bool) (es : List Ed) : List Int := es.filterMap fun e => if (f e).2 then some (f e).1 else none
theorem picks_len (f : Ed → Int × Bool) (es : List Ed) : (picks f es).length ≤ es.length := List.length_filterMap_le _ _
theorem picks_snoc (f : Ed → Int × Bool) (es : List Ed) (k : Nat) (x : Ed) (hx : es[k]? = some x) : picks f (es.take (k + 1)) = picks f (es.take k) ++ (if (f x).2 then [(f x).1] else []) := by
  have hk : k < es.length := (List.getElem?_eq_some_iff.1 hx).1
  have e : es[k] = x := by rw [List.getElem?_eq_getElem hk] at hx; injection hx
  unfold picks
  rw [List.take_succ_eq_append_getElem hk, List.filterMap_append, e]
  cases h : (f x).2 <;> simp [h]
def endsOf (f : Ed → Int × Bool) (es : List Ed) : List Int := Lib.compact (sortI (picks f es))
set_option maxHeartbeats 1000000 in
theorem ends_calls (w : World) (A : Option Addr) (n c : Nat) (es : List Ed) (hr : Rd elEd w (fun k => k < w.heap.size) A n es) (hn : n ≤ 1048576) (g : Nat) (lb : Array Value) (f : Ed → Int × Bool)
    (eg : ∀ args w, (callFunc g args).run Tryz.prog w = .ok (.enter g args) w) (hg : GivesE g lb f w) :
    Calls Tryz.prog 72 #[.slice A n c, .func (.func g) #[] lb] w (RetI w (endsOf f es)) := by
  have hl := hr.len
  go_enter Tryz.func72, Tryz.ntmps72
  go_wp2
  go_loopg [5, 12] n (fun gg s5 s12 wr => ∃ k : Nat, k ≤ n ∧ n - k ≤ gg ∧ s12 = .int .i64 k ∧ Hid (OwnI wr w.heap.size s5 (picks f (es.take k))) ∧ Hid (Below w.heap.size w wr))
  case atStart => exact ⟨0, Nat.zero_le _, by omega, rfl, Lib.hid (OwnI.nil _ _), Lib.hid (Below.refl _ w)⟩
  case round =>
    obtain ⟨k, hk, hgk, rfl, HO, HB⟩ := hrel
    by_cases hlt : k < n
    · have hlti : (k : Int) < (n : Int) := by omega
      obtain ⟨x, hx⟩ : ∃ x, es[k]? = some x := ⟨_, List.getElem?_eq_getElem (by omega)⟩
      have hsn := picks_snoc f es k x hx
      have hpl := picks_len f (es.take k)
      rw [List.length_take] at hpl
      have hpl2 : (picks f (es.take k)).length ≤ 1099511627776 := by omega
      obtain ⟨b, o, vs, rfl, hb1, hb2, hV, hcl⟩ := (hr.below HB.out).at_ k x hx
      obtain ⟨rfl, hi1, hi2⟩ := ed_open hV
      have k0 : wr.cell? ⟨b, o + k * 2, none⟩ = some (.int .i64 x.1) := hcl 0 _ rfl
      have k1 : wr.cell? ⟨b, o + k * 2 + 1, none⟩ = some (.int .i64 x.2) := hcl 1 _ rfl
      obtain ⟨x1, x2⟩ := x
      simp only at k0 k1
      obtain ⟨wq, hwq⟩ : ∃ wq, wr.alloc (.cells #[.int .i64 x1, .int .i64 x2] 77) = wq := ⟨_, rfl⟩
      have hbq : Below wr.heap.size wr wq := by rw [← hwq]; exact (Below.refl _ _).alloc (Nat.le_refl _) _
      have hBq := belowThen HB.out HB.out.size hbq
      have hcall := hg wq (x1, x2) hBq
      have HBQ := Lib.hid hBq
      have HWQ := Lib.hid hwq
      have HOQ := Lib.hid (HO.out.below hbq)
      have HSN := Lib.hid hsn
      clear hg hcl hV hx hbq hBq hwq hsn hpl hl
      cases hq : (f (x1, x2)).2 with
      | true =>
        have HQ := Lib.hid hq
        rw [hq] at hcall
        clear hq
        go_wp2_with (first
          | (go_at_fn g; rw [HWQ.out]; refine hcall.mono ?_; rintro e w2 ⟨rfl, hb2'⟩; have HB2 := belowThen HBQ.out HBQ.out.size hb2'; have HO2 := HOQ.out.below hb2'; clear hb2')
          | (at_builtin; refine appI w.heap.size w.heap.size rfl (.tmp 23) (.tmp 25) rfl u5 _ _ rfl rfl HO2 HB2 HB2.size (Nat.le_refl _) hpl2 ?_; intro v3 w3 HO3 HB3; have HL3 := Lib.hid HO3; clear HO3))
        go_roundg (n - (k + 1))
        case measure => omega
        case rel => exact ⟨k + 1, by omega, by omega, by go_num, Lib.hid (by rw [HSN.out, HQ.out, if_pos rfl]; exact HL3.out), Lib.hid HB3⟩
      | false =>
        have HQ := Lib.hid hq
        rw [hq] at hcall
        clear hq
        go_wp2_with (go_at_fn g; rw [HWQ.out]; refine hcall.mono ?_; rintro e w2 ⟨rfl, hb2'⟩; have HB2 := belowThen HBQ.out HBQ.out.size hb2'; have HO2 := HOQ.out.below hb2'; clear hb2')
        go_roundg (n - (k + 1))
        case measure => omega
        case rel => exact ⟨k + 1, by omega, by omega, by go_num, Lib.hid (by rw [HSN.out, HQ.out, if_neg (by simp), List.append_nil]; exact HO2), Lib.hid HB2⟩
    · have hlti : ¬ (k : Int) < (n : Int) := by omega
      obtain rfl : k = n := by omega
      have hpl := picks_len f es
      have HOE : OwnI wr w.heap.size u5 (picks f es) := by have := HO.out; rwa [List.take_of_length_le (by omega)] at this
      have hc1 := sort_calls HOE HB.out (Nat.le_refl _) (by omega)
      clear hg HO hpl HOE hr hl
      go_wp2_with fail
      refine hc1.mono ?_
      rintro e w2 ⟨rfl, hO2, hB2⟩
      have hc2 := compact_calls hO2 hB2 (Nat.le_refl _)
      clear hc1
      go_wp2_with fail
      refine hc2.mono ?_
      rintro e w3 ⟨v3, rfl, hO3, hB3⟩
      clear hc2
      go_wp2_with fail
      go_ret
      exact ⟨v3, rfl, hO3, hB3⟩
theorem next1_gives (node : Int) (B : Nat) (w : World) (hB : B < w.heap.size) (hc : w.cell? ⟨B, 0, none⟩ = some (.int .i64 node)) :
    GivesE 74 #[.pointer (some ⟨B, 0, none⟩)] (fun e => (e.2, e.1 == node)) w := fun W x hb => by
  have hc' : W.cell? ⟨B, 0, none⟩ = some (.int .i64 node) := (hb.cell (p := ⟨B, 0, none⟩) hB).trans hc
  have hBW : B < W.heap.size := Nat.lt_of_lt_of_le hB hb.size
  have hne : B ≠ W.heap.size := by omega
  obtain ⟨x1, x2⟩ := x
  clear hb hc
  show Calls Tryz.prog 74 #[.agg #[.int .i64 x1, .int .i64 x2], .pointer (some ⟨B, 0, none⟩)] W _
  go_enter Tryz.func74, Tryz.ntmps74
  go_wp2
  go_quiet (fail)
  go_wp2
  go_ret2
  exact ⟨rfl, belowDrewN ((Below.refl _ _).alloc (Nat.le_refl _) _) _⟩
def nextOf (hops : List (List Ed)) (flow node : Int) : List Int := endsOf (fun e => (e.2, e.1 == node)) (edgesOf hops flow)
def prevOf (hops : List (List Ed)) (flow node : Int) : List Int := endsOf (fun e => (e.1, e.2 == node)) (edgesOf hops flow)
/-- Each flow of the topology has at most so many edges. -/
def Few (hops : List (List Ed)) : Prop := ∀ l ∈ hops, l.length ≤ 1048576
theorem Few.edges {hops : List (List Ed)} (h : Few hops) (flow : Int) : (edgesOf hops flow).length ≤ 1048576 := by
  unfold edgesOf
  by_cases h0 : 0 ≤ flow
  · rw [if_pos h0]
    cases hx : hops[flow.toNat]? with
    | none => simp
    | some x => exact h x (List.mem_of_getElem? hx)
  · rw [if_neg h0]; simp
theorem RetI.from {w w1 : World} {xs : List Int} {e : Ending} {w' : World} (h : RetI w1 xs e w') (hb : Below w.heap.size w w1) : RetI w xs e w' := by
  obtain ⟨v, rfl, h1, h2⟩ := h
  exact ⟨v, rfl, h1.lower hb.size, belowThen hb hb.size h2⟩
set_option maxHeartbeats 1000000 in
theorem next_calls (w : World) (v : Value) (ep : Int) (up : List Bool) (hops : List (List Ed)) (h : TopoV w (fun k => k < w.heap.size) v ep up hops) (hf : Few hops) (flow node : Int) (h1 : inI flow) :
    Calls Tryz.prog 56 #[v, .int .i64 flow, .int .i64 node] w (RetI w (nextOf hops flow node)) := by
  obtain ⟨A, n, c, B, m, d, rfl, g1, g2, g3, g4⟩ := h
  obtain ⟨w1, hw1⟩ : ∃ w1, w.alloc (.cells #[.int .u64 ep, .slice A n c, .slice B m d] 38) = w1 := ⟨_, rfl⟩
  have b1 : Below w.heap.size w w1 := by rw [← hw1]; exact (Below.refl _ _).alloc (Nat.le_refl _) _
  have hs1 : w1.heap.size = w.heap.size + 1 := by rw [← hw1]; simp
  obtain ⟨w2, hw2⟩ : ∃ w2, w1.alloc (.cells #[.int .i64 node] 3) = w2 := ⟨_, rfl⟩
  have b2 : Below w1.heap.size w1 w2 := by rw [← hw2]; exact (Below.refl _ _).alloc (Nat.le_refl _) _
  have b12 := belowThen b1 b1.size b2
  have hs2 : w2.heap.size = w1.heap.size + 1 := by rw [← hw2]; simp
  have k1 : w2.cell? ⟨w.heap.size + 1, 0, none⟩ = some (.int .i64 node) := by rw [← hs1, ← hw2]; simp
  have c0 : w2.cell? ⟨w.heap.size, 0, none⟩ = some (.int .u64 ep) := by rw [b2.cell (p := ⟨w.heap.size, 0, none⟩) (show w.heap.size < w1.heap.size by omega), ← hw1]; simp
  have c1 : w2.cell? ⟨w.heap.size, 1, none⟩ = some (.slice A n c) := by rw [b2.cell (p := ⟨w.heap.size, 1, none⟩) (show w.heap.size < w1.heap.size by omega), ← hw1]; simp
  have c2 : w2.cell? ⟨w.heap.size, 2, none⟩ = some (.slice B m d) := by rw [b2.cell (p := ⟨w.heap.size, 2, none⟩) (show w.heap.size < w1.heap.size by omega), ← hw1]; simp
  have hT : TopoV w2 (fun k => k < w2.heap.size) (.agg #[.int .u64 ep, .slice A n c, .slice B m d]) ep up hops :=
    ⟨A, n, c, B, m, d, rfl, g1, g2, (g3.below b12).mono fun k hk _ => by omega, (g4.below b12).mono fun k hk _ => by omega⟩
  have hed := edges_calls w2 _ ep up hops hT flow h1
  have hfe := hf.edges flow
  have eg : ∀ args w, (callFunc 74 args).run Tryz.prog w = .ok (.enter 74 args) w := enters_of Tryz.func74 (by kernel_rfl) rfl
  have HW1 := Lib.hid hw1
  have HW2 := Lib.hid hw2
  have HEG := Lib.hid eg
  clear hT g3 g4 hs2 hf b1 b2 hw1 hw2 eg
  go_enter Tryz.func56, Tryz.ntmps56
  go_upto_region 1 with (fail)
  rw [HW1.out, HW2.out]
  go_wp2_with (go_at_call 73; refine hed.mono ?_; rintro e w3 ⟨A3, n3, c3, rfl, hn3, hr3, b3⟩)
  have hl3 := hr3.len
  have k1' := (b3.cell (p := ⟨w.heap.size + 1, 0, none⟩) (show w.heap.size + 1 < w2.heap.size by rw [← HW2.out]; simp; omega)).trans k1
  have hen := ends_calls w3 A3 n3 c3 _ (hr3.mono fun k hk _ => by have := b3.size; omega) (by omega) 74 #[.pointer (some ⟨w.heap.size + 1, 0, none⟩)] _ HEG.out
    (next1_gives node (w.heap.size + 1) w3 (by have := b3.size; rw [← HW2.out] at this; simp at this; omega) k1')
  have B3 := belowThen b12 b12.size b3
  clear hed hl3 hr3 k1 k1' c0 c1 c2 b3
  go_wp2_with (go_at_call 72; refine hen.mono ?_; rintro e w4 ⟨v4, rfl, hO4, b4⟩)
  go_ret
  exact RetI.from ⟨v4, rfl, hO4, b4⟩ B3
end Go.Proofs.YthgnjojkncodeaaGreat
