/-
  slices.Index, slices.Contains of edges; topo.Edge.
-/
import Derived.Test.YtgfnlfkbbedkaaaTp9
namespace Go.Proofs.Ytgfnlfkbbedkaaa
open Go.RowKit

theorem nomem_take (es : List Ed) (k : Nat) (x y : Ed) (hx : es[k]? = some y) (h : x ∉ es.take k) (hne : y ≠ x) : x ∉ es.take (k + 1) := by
  have hk : k < es.length := (List.getElem?_eq_some_iff.1 hx).1
  have e : es[k] = y := by rw [List.getElem?_eq_getElem hk] at hx; injection hx
  rw [List.take_succ_eq_append_getElem hk, e, List.mem_append, List.mem_singleton]
  rintro (h' | h')
  · exact h h'
  · exact hne h'.symm
set_option maxHeartbeats 2000000 in
theorem index_calls (w : World) (ok : Nat → Prop) (A : Option Addr) (n c : Nat) (es : List Ed) (hr : Rd elEd w ok A n es) (a b : Int) :
    Calls Try.prog 82 #[.slice A n c, .agg #[.int .i64 a, .int .i64 b]] w (RetIx w (decide ((a, b) ∈ es))) := by
  have hl := hr.len
  have hm := hr.max
  obtain ⟨rb, hrb⟩ : ∃ rb, decide ((a, b) ∈ es) = rb := ⟨_, rfl⟩
  rw [hrb]
  have HRB := Lib.hid hrb
  clear hrb
  obtain ⟨w1, hw1⟩ : ∃ w1, w.alloc (.cells #[.int .i64 a, .int .i64 b] 42) = w1 := ⟨_, rfl⟩
  have b1 : Below w.heap.size w w1 := by rw [← hw1]; exact (Below.refl _ _).alloc (Nat.le_refl _) _
  have hr1 := hr.below b1
  have c0 : w1.cell? ⟨w.heap.size, 0, none⟩ = some (.int .i64 a) := by rw [← hw1]; simp
  have c1 : w1.cell? ⟨w.heap.size, 1, none⟩ = some (.int .i64 b) := by rw [← hw1]; simp
  have HW1 := Lib.hid hw1
  have B1 := Lib.hid b1
  clear hr hw1 b1
  go_enter Try.func82, Try.ntmps82
  go_upto_region 1 with (fail)
  rw [HW1.out]
  go_wp2_with fail
  go_loopg [8] n (fun gg s8 wr => ∃ k qq : Nat, k ≤ n ∧ n - k ≤ gg ∧ s8 = .int .i64 k ∧ Hid ((a, b) ∉ es.take k) ∧ wr = w1.drewN qq)
  case atStart => exact ⟨0, 0, Nat.zero_le _, by omega, rfl, Lib.hid (by simp), rfl⟩
  case round =>
    obtain ⟨k, qq, hk, hgk, rfl, HN, rfl⟩ := hrel
    by_cases hlt : k < n
    · have hlti : (k : Int) < (n : Int) := by omega
      have hk0 : (0 : Int) ≤ (k : Int) := by omega
      obtain ⟨x, hx⟩ : ∃ x, es[k]? = some x := ⟨_, List.getElem?_eq_getElem (by omega)⟩
      obtain ⟨bb, o, vs, rfl, hb1, hb2, hV, hcl⟩ := hr1.at_ k x hx
      obtain ⟨rfl, hi1, hi2⟩ := ed_open hV
      have k0 : w1.cell? ⟨bb, o + k * 2, none⟩ = some (.int .i64 x.1) := hcl 0 _ rfl
      have k1 : w1.cell? ⟨bb, o + k * 2 + 1, none⟩ = some (.int .i64 x.2) := hcl 1 _ rfl
      obtain ⟨x1, x2⟩ := x
      simp only at k0 k1
      have HX := Lib.hid hx
      clear hcl hV hx hl hr1
      by_cases h1 : a = x1
      · by_cases h2 : b = x2
        · have e1 : (a == x1) = true := by rw [beq_iff_eq]; exact h1
          have e2 : (b == x2) = true := by rw [beq_iff_eq]; exact h2
          have hmem : decide ((a, b) ∈ es) = true := decide_eq_true (by rw [h1, h2]; exact List.mem_of_getElem? HX.out)
          have HM := Lib.hid hmem
          clear hmem h1 h2
          go_wp2
          go_quiet (fail)
          go_wp2
          go_ret
          exact ⟨k, rfl, by rw [← HRB.out, HM.out]; simp, belowDrewN (belowDrewN B1.out _) _⟩
        · have e1 : (a == x1) = true := by rw [beq_iff_eq]; exact h1
          have e2 : (b == x2) = false := by rw [beq_eq_false_iff_ne]; exact h2
          have HT := Lib.hid (nomem_take es k (a, b) _ HX.out HN.out (fun e => h2 (by injection e with _ e; exact e.symm)))
          clear h1 h2
          go_wp2
          go_quiet (fail)
          go_wp2
          go_roundg (n - (k + 1))
          case measure => omega
          case rel => exact ⟨k + 1, _, by omega, by omega, by go_num, HT, rfl⟩
      · have e1 : (a == x1) = false := by rw [beq_eq_false_iff_ne]; exact h1
        have HT := Lib.hid (nomem_take es k (a, b) _ HX.out HN.out (fun e => h1 (by injection e with e _; exact e.symm)))
        clear h1
        go_wp2
        go_quiet (fail)
        go_wp2
        go_roundg (n - (k + 1))
        case measure => omega
        case rel => exact ⟨k + 1, _, by omega, by omega, by go_num, HT, rfl⟩
    · have hlti : ¬ (k : Int) < (n : Int) := by omega
      have hmem : decide ((a, b) ∈ es) = false := decide_eq_false (by have := HN.out; rwa [List.take_of_length_le (by omega)] at this)
      have HM := Lib.hid hmem
      clear hmem hl hr1
      go_wp2
      go_ret
      exact ⟨-1, rfl, by rw [← HRB.out, HM.out]; simp, belowDrewN B1.out _⟩
theorem containsE_calls (w : World) (ok : Nat → Prop) (A : Option Addr) (n c : Nat) (es : List Ed) (hr : Rd elEd w ok A n es) (a b : Int) :
    Calls Try.prog 60 #[.slice A n c, .agg #[.int .i64 a, .int .i64 b]] w fun e w' => e = .returned (.bool (decide ((a, b) ∈ es))) ∧ Below w.heap.size w w' := by
  obtain ⟨w1, hw1⟩ : ∃ w1, w.alloc (.cells #[.int .i64 a, .int .i64 b] 42) = w1 := ⟨_, rfl⟩
  have b1 : Below w.heap.size w w1 := by rw [← hw1]; exact (Below.refl _ _).alloc (Nat.le_refl _) _
  have hc := index_calls w1 ok A n c es (hr.below b1) a b
  have c0 : w1.cell? ⟨w.heap.size, 0, none⟩ = some (.int .i64 a) := by rw [← hw1]; simp
  have c1 : w1.cell? ⟨w.heap.size, 1, none⟩ = some (.int .i64 b) := by rw [← hw1]; simp
  obtain ⟨rb, hrb⟩ : ∃ rb, decide ((a, b) ∈ es) = rb := ⟨_, rfl⟩
  rw [hrb] at hc ⊢
  have HW1 := Lib.hid hw1
  have B1 := Lib.hid b1
  clear hrb hr hw1 b1
  go_enter Try.func60, Try.ntmps60
  go_upto_region 1 with (fail)
  rw [HW1.out]
  go_wp2_with (go_at_call 82; refine hc.mono ?_; rintro e w2 ⟨r, rfl, hr2, hb2⟩; have HR := Lib.hid hr2; clear hr2)
  go_ret
  exact ⟨ret_bool HR.out, belowThen B1.out B1.out.size hb2⟩
theorem edge_calls (w : World) (v : Value) (ep : Int) (up : List Bool) (hops : List (List Ed)) (h : TopoV w (fun k => k < w.heap.size) v ep up hops) (flow a b : Int) (h1 : inI flow) :
    Calls Try.prog 16 #[v, .int .i64 flow, .int .i64 a, .int .i64 b] w fun e w' => e = .returned (.bool (decide ((a, b) ∈ edgesOf hops flow))) ∧ Below w.heap.size w w' := by
  have hT0 := h
  obtain ⟨A, n, c, B, m, d, rfl, g1, g2, g3, g4⟩ := h
  obtain ⟨w1, hw1⟩ : ∃ w1, w.alloc (.cells #[.int .u64 ep, .slice A n c, .slice B m d] 27) = w1 := ⟨_, rfl⟩
  have b1 : Below w.heap.size w w1 := by rw [← hw1]; exact (Below.refl _ _).alloc (Nat.le_refl _) _
  have c0 : w1.cell? ⟨w.heap.size, 0, none⟩ = some (.int .u64 ep) := by rw [← hw1]; simp
  have c1 : w1.cell? ⟨w.heap.size, 1, none⟩ = some (.slice A n c) := by rw [← hw1]; simp
  have c2 : w1.cell? ⟨w.heap.size, 2, none⟩ = some (.slice B m d) := by rw [← hw1]; simp
  have hed := edges_calls w1 _ ep up hops ((hT0.below b1).mono fun k hk _ => by have := b1.size; omega) flow h1
  have HW1 := Lib.hid hw1
  have B1 := Lib.hid b1
  obtain ⟨es, hes⟩ : ∃ es, edgesOf hops flow = es := ⟨_, rfl⟩
  rw [hes] at hed ⊢
  clear hT0 g3 g4 hw1 b1 hes
  go_enter Try.func16, Try.ntmps16
  go_upto_region 1 with (fail)
  rw [HW1.out]
  go_wp2_with (go_at_call 57; refine hed.mono ?_; rintro e w3 ⟨A3, n3, c3, rfl, hn3, hr3, b3⟩; have hce := containsE_calls w3 _ A3 n3 c3 es hr3 a b; have B3 := Lib.hid b3; clear hr3 b3)
  refine hce.mono ?_
  rintro e w4 ⟨rfl, b4⟩
  have B4 := Lib.hid b4
  clear b4 hce hed
  go_wp2_with fail
  go_ret
  exact ⟨rfl, belowThen (belowThen B1.out B1.out.size B3.out) (by have := B1.out.size; have := B3.out.size; omega) B4.out⟩
end Go.Proofs.Ytgfnlfkbbedkaaa
