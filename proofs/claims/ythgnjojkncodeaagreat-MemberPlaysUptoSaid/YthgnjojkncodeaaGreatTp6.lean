/-
  slices.ContainsFunc of edges; the closures of topo.Order.
-/
import Derived.Test.YthgnjojkncodeaaGreatTp5
import Derived.Laws.EntriesVeiled
namespace Go.Proofs.YthgnjojkncodeaaGreat
open Go.RowKit

/-- What a closure from edges to bool does. -/
def GivesB (g : Nat) (lb : Array Value) (p : Ed → Bool) (w : World) : Prop := ∀ (W : World) (x : Ed), Below w.heap.size w W →
  Calls Tryz.prog g (#[.agg #[.int .i64 x.1, .int .i64 x.2]] ++ lb) W fun e w' => e = .returned (.bool (p x)) ∧ Below W.heap.size W w'
def RetIx (w : World) (b : Bool) (e : Ending) (w' : World) : Prop := ∃ r : Int, e = .returned (.int .i64 r) ∧ decide (r ≥ 0) = b ∧ Below w.heap.size w w'
theorem any_take (p : Ed → Bool) (es : List Ed) (k : Nat) (x : Ed) (hx : es[k]? = some x) (h : (es.take k).any p = false) (hp : p x = false) : (es.take (k + 1)).any p = false := by
  have hk : k < es.length := (List.getElem?_eq_some_iff.1 hx).1
  have e : es[k] = x := by rw [List.getElem?_eq_getElem hk] at hx; injection hx
  rw [List.take_succ_eq_append_getElem hk, List.any_append, h, e]
  simp [hp]
set_option maxHeartbeats 1000000 in
theorem ifunc_calls (w : World) (A : Option Addr) (n c : Nat) (es : List Ed) (hr : Rd elEd w (fun k => k < w.heap.size) A n es) (g : Nat) (lb : Array Value) (p : Ed → Bool)
    (eg : ∀ args w, (callFunc g args).run Tryz.prog w = .ok (.enter g args) w) (hg : GivesB g lb p w) :
    Calls Tryz.prog 77 #[.slice A n c, .func (.func g) #[] lb] w (RetIx w (es.any p)) := by
  have hl := hr.len
  have hm := hr.max
  obtain ⟨rb, hrb⟩ : ∃ rb, es.any p = rb := ⟨_, rfl⟩
  rw [hrb]
  have HRB := Lib.hid hrb
  clear hrb
  go_enter Tryz.func77, Tryz.ntmps77
  go_wp2
  go_loopg [8] n (fun gg s8 wr => ∃ k : Nat, k ≤ n ∧ n - k ≤ gg ∧ s8 = .int .i64 k ∧ Hid ((es.take k).any p = false) ∧ Hid (Below w.heap.size w wr))
  case atStart => exact ⟨0, Nat.zero_le _, by omega, rfl, Lib.hid (by simp), Lib.hid (Below.refl _ w)⟩
  case round =>
    obtain ⟨k, hk, hgk, rfl, HN, HB⟩ := hrel
    by_cases hlt : k < n
    · have hlti : (k : Int) < (n : Int) := by omega
      obtain ⟨x, hx⟩ : ∃ x, es[k]? = some x := ⟨_, List.getElem?_eq_getElem (by omega)⟩
      obtain ⟨b, o, vs, rfl, hb1, hb2, hV, hcl⟩ := (hr.below HB.out).at_ k x hx
      obtain ⟨rfl, hi1, hi2⟩ := ed_open hV
      have k0 : wr.cell? ⟨b, o + k * 2, none⟩ = some (.int .i64 x.1) := hcl 0 _ rfl
      have k1 : wr.cell? ⟨b, o + k * 2 + 1, none⟩ = some (.int .i64 x.2) := hcl 1 _ rfl
      obtain ⟨x1, x2⟩ := x
      simp only at k0 k1
      have hcall := hg wr (x1, x2) HB.out
      have HX := Lib.hid hx
      clear hg hcl hV hx hl hr
      cases hq : p (x1, x2) with
      | true =>
        have hmem : es.any p = true := List.any_eq_true.2 ⟨_, List.mem_of_getElem? HX.out, hq⟩
        have HM := Lib.hid hmem
        rw [hq] at hcall
        clear hq hmem
        go_wp2_with (go_at_fn g; refine hcall.mono ?_; rintro e w2 ⟨rfl, hb2'⟩)
        go_ret
        exact ⟨k, rfl, by rw [← HRB.out, HM.out]; simp, belowThen HB.out HB.out.size hb2'⟩
      | false =>
        have HT := Lib.hid (any_take p es k _ HX.out HN.out hq)
        rw [hq] at hcall
        clear hq
        go_wp2_with (go_at_fn g; refine hcall.mono ?_; rintro e w2 ⟨rfl, hb2'⟩)
        go_roundg (n - (k + 1))
        case measure => omega
        case rel => exact ⟨k + 1, by omega, by omega, by go_num, HT, Lib.hid (belowThen HB.out HB.out.size hb2')⟩
    · have hlti : ¬ (k : Int) < (n : Int) := by omega
      have hmem : es.any p = false := by have := HN.out; rwa [List.take_of_length_le (by omega)] at this
      have HM := Lib.hid hmem
      clear hmem hg hl hr
      go_wp2
      go_ret
      exact ⟨-1, rfl, by rw [← HRB.out, HM.out]; simp, HB.out⟩
theorem cfunc_calls (w : World) (A : Option Addr) (n c : Nat) (es : List Ed) (hr : Rd elEd w (fun k => k < w.heap.size) A n es) (g : Nat) (lb : Array Value) (p : Ed → Bool)
    (eg : ∀ args w, (callFunc g args).run Tryz.prog w = .ok (.enter g args) w) (hg : GivesB g lb p w) :
    Calls Tryz.prog 61 #[.slice A n c, .func (.func g) #[] lb] w fun e w' => e = .returned (.bool (es.any p)) ∧ Below w.heap.size w w' := by
  have hc := ifunc_calls w A n c es hr g lb p eg hg
  obtain ⟨rb, hrb⟩ : ∃ rb, es.any p = rb := ⟨_, rfl⟩
  rw [hrb] at hc ⊢
  clear hrb hg eg hr
  go_enter Tryz.func61, Tryz.ntmps61
  go_wp2_with (go_at_call 77; refine hc.mono ?_; rintro e w2 ⟨r, rfl, hr2, hb2⟩; have HR := Lib.hid hr2; clear hr2)
  go_ret
  exact ⟨ret_bool HR.out, hb2⟩
/-! ### topo.Order's closures -/
theorem o2_gives (x1 x2 : Int) (W : World) : Calls Tryz.prog 81 #[.agg #[.int .i64 x1, .int .i64 x2]] W fun e w' => e = .returned (.int .i64 x1) ∧ Below W.heap.size W w' := by
  go_enter Tryz.func81, Tryz.ntmps81
  go_wp2
  go_ret
  exact ⟨rfl, (Below.refl _ _).alloc (Nat.le_refl _) _⟩
theorem o3_gives (x1 x2 : Int) (W : World) : Calls Tryz.prog 82 #[.agg #[.int .i64 x1, .int .i64 x2]] W fun e w' => e = .returned (.int .i64 x2) ∧ Below W.heap.size W w' := by
  go_enter Tryz.func82, Tryz.ntmps82
  go_wp2
  go_ret
  exact ⟨rfl, (Below.refl _ _).alloc (Nat.le_refl _) _⟩
/-- What 'of' does: an end of an edge. -/
def GivesO (h : Nat) (f : Ed → Int) : Prop := ∀ (W : World) (x : Ed), Calls Tryz.prog h #[.agg #[.int .i64 x.1, .int .i64 x.2]] W fun e w' => e = .returned (.int .i64 (f x)) ∧ Below W.heap.size W w'
theorem o11_gives (h : Nat) (f : Ed → Int) (eh : ∀ args w, (callFunc h args).run Tryz.prog w = .ok (.enter h args) w) (hf : GivesO h f) (B : Nat) (w : World) (hB : B < w.heap.size) (hc : w.cell? ⟨B, 0, none⟩ = some (.func (.func h) #[] #[])) :
    GivesE 79 #[.pointer (some ⟨B, 0, none⟩)] (fun e => (f e, true)) w := fun W x hb => by
  have hc' : W.cell? ⟨B, 0, none⟩ = some (.func (.func h) #[] #[]) := (hb.cell (p := ⟨B, 0, none⟩) hB).trans hc
  have hBW : B < W.heap.size := Nat.lt_of_lt_of_le hB hb.size
  have hne : B ≠ W.heap.size := by omega
  obtain ⟨x1, x2⟩ := x
  obtain ⟨W1, hW1⟩ : ∃ W1, W.alloc (.cells #[.int .i64 x1, .int .i64 x2] 77) = W1 := ⟨_, rfl⟩
  have hb1 : Below W.heap.size W W1 := by rw [← hW1]; exact (Below.refl _ _).alloc (Nat.le_refl _) _
  have hcall := hf W1 (x1, x2)
  have HW1 := Lib.hid hW1
  have HB1 := Lib.hid hb1
  clear hb hc hf hW1 hb1
  show Calls Tryz.prog 79 #[.agg #[.int .i64 x1, .int .i64 x2], .pointer (some ⟨B, 0, none⟩)] W _
  go_enter Tryz.func79, Tryz.ntmps79
  go_wp2_with (go_at_fn h; rw [HW1.out]; refine hcall.mono ?_; rintro e w2 ⟨rfl, hb2⟩)
  go_ret2
  exact ⟨rfl, belowThen HB1.out HB1.out.size hb2⟩
theorem o4_gives (x : Int) (left : List Int) (A : Option Addr) (n c : Nat) (B C : Nat) (w : World) (hB : B < w.heap.size) (hC : C < w.heap.size) (hx : w.cell? ⟨B, 0, none⟩ = some (.int .i64 x)) (hl : w.cell? ⟨C, 0, none⟩ = some (.slice A n c))
    (hr : RdI w (fun k => k < w.heap.size) A n left) :
    GivesB 83 #[.pointer (some ⟨B, 0, none⟩), .pointer (some ⟨C, 0, none⟩)] (fun e => (e.2 == x) && left.contains e.1) w := fun W y hb => by
  have hx' : W.cell? ⟨B, 0, none⟩ = some (.int .i64 x) := (hb.cell (p := ⟨B, 0, none⟩) hB).trans hx
  have hl' : W.cell? ⟨C, 0, none⟩ = some (.slice A n c) := (hb.cell (p := ⟨C, 0, none⟩) hC).trans hl
  have hBW : B < W.heap.size := Nat.lt_of_lt_of_le hB hb.size
  have hCW : C < W.heap.size := Nat.lt_of_lt_of_le hC hb.size
  have hne : B ≠ W.heap.size := by omega
  have hne2 : C ≠ W.heap.size := by omega
  obtain ⟨y1, y2⟩ := y
  obtain ⟨W1, hW1⟩ : ∃ W1, W.alloc (.cells #[.int .i64 y1, .int .i64 y2] 77) = W1 := ⟨_, rfl⟩
  have hb1 : Below W.heap.size W W1 := by rw [← hW1]; exact (Below.refl _ _).alloc (Nat.le_refl _) _
  have hcall := contains_calls (c := c) ((hr.below hb).below hb1) y1
  have HW1 := Lib.hid hW1
  have HB1 := Lib.hid hb1
  clear hb hx hl hr hW1 hb1
  show Calls Tryz.prog 83 #[.agg #[.int .i64 y1, .int .i64 y2], .pointer (some ⟨B, 0, none⟩), .pointer (some ⟨C, 0, none⟩)] W _
  cases hq : (y2 == x) with
  | true =>
    have HQ := Lib.hid hq
    obtain ⟨rb, hrb⟩ : ∃ rb, left.contains y1 = rb := ⟨_, rfl⟩
    rw [hrb] at hcall
    have HRB := Lib.hid hrb
    clear hrb
    go_enter Tryz.func83, Tryz.ntmps83
    go_wp2_with (go_at_call 38; rw [HW1.out]; refine hcall.mono ?_; rintro e w2 ⟨rfl, rfl⟩)
    go_ret
    exact ⟨ret_bool (by simp only [HQ.out, HRB.out, Bool.true_and]), HB1.out⟩
  | false =>
    have HQ := Lib.hid hq
    clear hcall
    go_enter Tryz.func83, Tryz.ntmps83
    go_wp2_with (rw [HW1.out]; fail)
    go_ret
    exact ⟨ret_bool (by simp only [HQ.out, Bool.false_and]), by rw [HW1.out]; exact HB1.out⟩
end Go.Proofs.YthgnjojkncodeaaGreat
