/-
  The walk of TopoOrder.
-/
import Derived.Test.YtgfnlfkbbedkaaaTpQ
import Derived.Deep.CutBlock
namespace Go.Proofs.Ytgfnlfkbbedkaaa
open Go.RowKit

/-- Whether one of the first n nodes reaches itself. -/
def CircI (es : List Ed) (n : Nat) (cr : Bool) : Prop := cr = true ↔ ∃ x : Nat, x < n ∧ Reaches es (x : Int) (x : Int)
theorem CircI.start (es : List Ed) : CircI es 0 false := ⟨fun h => (by cases h), fun ⟨x, h, _⟩ => by omega⟩
theorem CircI.yes {es : List Ed} {n : Nat} (h : CircI es n true) : CircI es (n + 1) true := ⟨fun _ => by obtain ⟨x, h1, h2⟩ := h.1 rfl; exact ⟨x, by omega, h2⟩, fun _ => rfl⟩
theorem CircI.no {es : List Ed} {n : Nat} {r : Bool} (h : CircI es n false) (hr : r = true ↔ Reaches es (n : Int) (n : Int)) : CircI es (n + 1) r := by
  constructor
  · intro e; exact ⟨n, by omega, hr.1 e⟩
  · rintro ⟨x, h1, h2⟩
    rcases Nat.lt_or_ge x n with h3 | h3
    · have := h.2 ⟨x, h3, h2⟩; cases this
    · obtain rfl : x = n := by omega
      exact hr.2 h2
theorem stepBN {w w' : World} {q : Nat} (h : Below (w.drewN q).heap.size (w.drewN q) w') : Below w.heap.size w w' := ⟨h.os, h.tape, h.output, h.size, h.block⟩
/-- The array of places. -/
def BoxA (w : World) (Q : Nat) (cs : List Value) : Prop := w.heap[Q]? = some (.cells cs.toArray 36 (0, 0))
section
variable {w w' : World} {Q : Nat} {cs : List Value}
theorem BoxA.cell (h : BoxA w Q cs) {v : Nat} {u : Value} (hv : cs[v]? = some u) : w.cell? ⟨Q, v, none⟩ = some u := by unfold BoxA at h; simp [World.cell?, h, hv]
theorem BoxA.free (h : BoxA w Q cs) (v : Nat) : w.frozen? ⟨Q, v, none⟩ = false := by unfold BoxA at h; simp [World.frozen?, h]
theorem BoxA.lt (h : BoxA w Q cs) : Q < w.heap.size := (Array.getElem?_eq_some_iff.1 h).1
theorem BoxA.below (h : BoxA w Q cs) (hb : Below w.heap.size w w') : BoxA w' Q cs := (hb.block Q h.lt).trans h
theorem BoxA.set (h : BoxA w Q cs) (v : Nat) (u : Value) : BoxA (w.setCell ⟨Q, v, none⟩ u) Q (cs.set v u) := by
  unfold BoxA at h ⊢
  simp [World.setCell, Array.getElem?_modify, h]
end
set_option maxRecDepth 20000 in
set_option maxHeartbeats 4000000 in
theorem topoOrder_walk (w : World) (A : Option Addr) (n c : Nat) (l : List (Nat × Nat)) (hr : Rd elU2 w (fun k => k < w.heap.size) A n l) (hc : n ≤ c) :
    Calls Try.prog 3 #[.slice A n c] w fun e w' => e = .returned (.bool true) ∧ Below w.heap.size w w' := by
  have hbt := between_calls w A n c l hr
  have hfw := few_edges l
  obtain ⟨es, hes⟩ : ∃ es, edgesB l = es := ⟨_, rfl⟩
  rw [hes] at hbt hfw
  have HFW := Lib.hid hfw
  have HES := Lib.hid hes
  clear hr hes hfw
  go_enter Try.func3, Try.ntmps3
  go_upto_region 2 with (go_at_call 9; refine hbt.mono ?_; rintro e w1 ⟨v1, rfl, hT1, b1⟩; obtain ⟨A1, n1, c1, B1, m1, d1, rfl, _, _, hTB⟩ := TBox.made hT1; have HB1 := Lib.hid b1; have HT1 := Lib.hid hTB; clear hT1 b1 hTB hbt)
  obtain ⟨w2, hw2⟩ : ∃ w2, w1.alloc (.cells #[.int .u64 1, .slice A1 n1 c1, .slice B1 m1 d1] 27) = w2 := ⟨_, rfl⟩
  have b2 : Below w1.heap.size w1 w2 := by rw [← hw2]; exact (Below.refl _ _).alloc (Nat.le_refl _) _
  have HB2 := Lib.hid (belowThen HB1.out HB1.out.size b2)
  rw [hw2] at HT1 ⊢
  obtain ⟨P, hP⟩ : ∃ P, w1.heap.size = P := ⟨_, rfl⟩
  rw [hP] at HT1 ⊢
  clear hP b2 hw2 HB1
  obtain ⟨c0, c1', c2⟩ := HT1.out.cells
  have hor := HT1.out.order HFW.out 0 es rfl
  go_wp2_with fail
  refine hor.mono ?_
  obtain ⟨ro, hro⟩ : ∃ ro, orderOf es = ro := ⟨_, rfl⟩
  have hnone := order_none_iff es
  rw [hro] at hnone ⊢
  have HNO := Lib.hid hnone
  have HRO := Lib.hid hro
  clear hnone hor hro c0 c1' c2
  cases ro with
  | none =>
    rintro e w3 ⟨rfl, b3⟩
    have HT3 := Lib.hid (HT1.out.below b3)
    have HB3 := Lib.hid (belowThen HB2.out HB2.out.size b3)
    clear b3 HT1 HB2
    go_wp2_with fail
    go_loopg [6, 7] 10 (fun gg s6 s7 wr => ∃ (k : Nat) (cr : Bool), k ≤ 10 ∧ 10 - k ≤ gg ∧ s6 = .bool cr ∧ s7 = .int .i64 (k : Int) ∧ Hid (CircI es k cr) ∧ Hid (TBox wr P A1 n1 c1 B1 m1 d1 1 (List.replicate 10 false) [es]) ∧ Hid (Below w.heap.size w wr) ∧ Hid (Below w3.heap.size w3 wr))
    case atStart => exact ⟨0, false, by omega, by omega, rfl, rfl, Lib.hid (CircI.start es), HT3, HB3, Lib.hid (Below.refl _ _)⟩
    case round =>
      clear HT3 HB3
      obtain ⟨k, cr, hk, hgk, rfl, rfl, HCR, HT, HB, HB3r⟩ := hrel
      by_cases hlt : k < 10
      · have hlti : (k : Int) < 10 := by omega
        cases cr with
        | true =>
          have HY := Lib.hid HCR.out.yes
          go_wp2_with fail
          go_roundg (10 - (k + 1))
          case measure => omega
          case rel => exact ⟨k + 1, true, by omega, by omega, rfl, by go_num, HY, HT, HB, HB3r⟩
        | false =>
          obtain ⟨c0, c1', c2⟩ := HT.out.cells
          have hrc := HT.out.reach HFW.out 0 (k : Int) (by decide)
          go_wp2_with fail
          refine hrc.mono ?_
          rintro e w6 ⟨rl, hx1, hx2, v6, rfl, hO6, b6⟩
          obtain ⟨A6, N6, c6, rfl, hc6, hR6, hm6⟩ := hO6.row
          have HT6 := Lib.hid (HT.out.below b6)
          have HB6 := Lib.hid (belowThen HB.out HB.out.size b6)
          have HB36 := Lib.hid (belowThen HB3r.out HB3r.out.size b6)
          obtain ⟨r2, hr2⟩ : ∃ r2, decide ((k : Int) ∈ rl) = r2 := ⟨_, rfl⟩
          have hh4 := hR6.has c6 (k : Int) r2 hr2
          have HNC := Lib.hid (HCR.out.no (show r2 = true ↔ Reaches es (k : Int) (k : Int) by rw [← hr2, decide_eq_true_iff]; exact hx2 _))
          clear hx1 hx2 hO6 hR6 b6 hr2 hrc c0 c1' c2
          go_wp2_with fail
          refine hh4.mono ?_
          rintro e w7 ⟨rfl, b7⟩
          have HT7 := Lib.hid (HT6.out.below b7)
          have HB7 := Lib.hid (belowThen HB6.out HB6.out.size b7)
          have HB37 := Lib.hid (belowThen HB36.out HB36.out.size b7)
          clear hh4 b7
          go_wp2_with fail
          go_roundg (10 - (k + 1))
          case measure => omega
          case rel => exact ⟨k + 1, r2, by omega, by omega, rfl, by go_num, HNC, HT7, HB7, HB37⟩
      · have hlti : ¬ ((k : Int) < 10) := by omega
        obtain ⟨x, hx⟩ := HNO.out.1 (by simp)
        have hcr : cr = true := HCR.out.2 (by
          have hh := hx
          rw [← HES.out] at hh
          have := reach_in hh
          exact ⟨x.toNat, by omega, by rw [Int.toNat_of_nonneg (by omega)]; exact hx⟩)
        subst hcr
        have hwk := wakes_calls wr
        go_wp2_with fail
        refine hwk.mono ?_
        rintro e w8 ⟨rfl, b8⟩
        have HB8 := Lib.hid (belowThen HB.out HB.out.size b8)
        clear hwk b8
        go_wp2_with fail
        go_ret
        exact ⟨rfl, HB8.out⟩
  | some o =>
    rintro e w3 ⟨v3, rfl, hO3, b3⟩
    obtain ⟨A3, N, c3, rfl, hc3, hR3, hm3⟩ := hO3.row
    have hord : Ord10 es o := by rw [← HES.out]; exact ord10 (by rw [HES.out]; exact HRO.out)
    have HORD := Lib.hid hord
    have HR3 := Lib.hid hR3
    have HT3 := Lib.hid (HT1.out.below b3)
    have HB3 := Lib.hid (belowThen HB2.out HB2.out.size b3)
    clear b3 HT1 HB2 hord hR3 hO3
    go_wp2_with fail
    go_loopg [6, 7] 10 (fun gg s6 s7 wr => ∃ (k : Nat) (cr : Bool), k ≤ 10 ∧ 10 - k ≤ gg ∧ s6 = .bool cr ∧ s7 = .int .i64 (k : Int) ∧ Hid (CircI es k cr) ∧ Hid (TBox wr P A1 n1 c1 B1 m1 d1 1 (List.replicate 10 false) [es]) ∧ Hid (Below w.heap.size w wr) ∧ Hid (Below w3.heap.size w3 wr))
    case atStart => exact ⟨0, false, by omega, by omega, rfl, rfl, Lib.hid (CircI.start es), HT3, HB3, Lib.hid (Below.refl _ _)⟩
    case round =>
      clear HT3 HB3
      obtain ⟨k, cr, hk, hgk, rfl, rfl, HCR, HT, HB, HB3r⟩ := hrel
      by_cases hlt : k < 10
      · have hlti : (k : Int) < 10 := by omega
        cases cr with
        | true =>
          have HY := Lib.hid HCR.out.yes
          go_wp2_with fail
          go_roundg (10 - (k + 1))
          case measure => omega
          case rel => exact ⟨k + 1, true, by omega, by omega, rfl, by go_num, HY, HT, HB, HB3r⟩
        | false =>
          obtain ⟨c0, c1', c2⟩ := HT.out.cells
          have hrc := HT.out.reach HFW.out 0 (k : Int) (by decide)
          go_wp2_with fail
          refine hrc.mono ?_
          rintro e w6 ⟨rl, hx1, hx2, v6, rfl, hO6, b6⟩
          obtain ⟨A6, N6, c6, rfl, hc6, hR6, hm6⟩ := hO6.row
          have HT6 := Lib.hid (HT.out.below b6)
          have HB6 := Lib.hid (belowThen HB.out HB.out.size b6)
          have HB36 := Lib.hid (belowThen HB3r.out HB3r.out.size b6)
          obtain ⟨r2, hr2⟩ : ∃ r2, decide ((k : Int) ∈ rl) = r2 := ⟨_, rfl⟩
          have hh4 := hR6.has c6 (k : Int) r2 hr2
          have HNC := Lib.hid (HCR.out.no (show r2 = true ↔ Reaches es (k : Int) (k : Int) by rw [← hr2, decide_eq_true_iff]; exact hx2 _))
          clear hx1 hx2 hO6 hR6 b6 hr2 hrc c0 c1' c2
          go_wp2_with fail
          refine hh4.mono ?_
          rintro e w7 ⟨rfl, b7⟩
          have HT7 := Lib.hid (HT6.out.below b7)
          have HB7 := Lib.hid (belowThen HB6.out HB6.out.size b7)
          have HB37 := Lib.hid (belowThen HB36.out HB36.out.size b7)
          clear hh4 b7
          go_wp2_with fail
          go_roundg (10 - (k + 1))
          case measure => omega
          case rel => exact ⟨k + 1, r2, by omega, by omega, rfl, by go_num, HNC, HT7, HB7, HB37⟩
      · have hlti : ¬ ((k : Int) < 10) := by omega
        have hcr : cr = false := by
          cases cr with
          | false => rfl
          | true =>
            obtain ⟨x, _, hx⟩ := HCR.out.1 rfl
            have := HNO.out.2 ⟨_, hx⟩
            cases this
        subst hcr
        have HR4 := Lib.hid (HR3.out.below HB3r.out)
        have HL3 := Lib.hid HR3.out.len
        obtain ⟨wb, hwb⟩ : ∃ wb, wb = wr := ⟨_, rfl⟩
        subst hwb
        clear HCR HR3 HB3r HNO
        go_wp2_with fail
        obtain ⟨wA, hwA⟩ : ∃ wA, wb.alloc (.cells #[.int .i64 (-1), .int .i64 (-1), .int .i64 (-1), .int .i64 (-1), .int .i64 (-1), .int .i64 (-1), .int .i64 (-1), .int .i64 (-1), .int .i64 (-1), .int .i64 (-1)] 36) = wA := ⟨_, rfl⟩
        have hbA : Below wb.heap.size wb wA := by rw [← hwA]; exact (Below.refl _ _).alloc (Nat.le_refl _) _
        have hxA : BoxA wA wb.heap.size (atc (o.take 0)) := by rw [List.take_zero, atc_nil, ← hwA]; exact heap_alloc_new wb _
        have HQL : Hid (wb.heap.size ≤ wb.heap.size) := Lib.hid (Nat.le_refl _)
        rw [hwA]
        obtain ⟨Q, hQ⟩ : ∃ Q, wb.heap.size = Q := ⟨_, rfl⟩
        have HQ : Hid (wb.heap.size = Q) := Lib.hid hQ
        rw [hQ] at hxA ⊢
        have HBA := Lib.hid hbA
        have HXA := Lib.hid hxA
        clear hwA hbA hxA hQ HQL
        go_loopg [9] N (fun g2 s9 wi => ∃ i : Nat, i ≤ N ∧ N - i ≤ g2 ∧ s9 = .int .i64 (i : Int) ∧ Hid (BoxA wi Q (atc (o.take i))) ∧ Hid (Below wb.heap.size wb wi))
        case atStart => exact ⟨0, by omega, by omega, rfl, HXA, HBA⟩
        case round =>
          clear HXA HBA
          obtain ⟨i, hi, hgi, rfl, HX, HBi⟩ := hrel
          by_cases hil : i < N
          · have hili : (i : Int) < (N : Int) := by omega
            have hi0 : (0 : Int) ≤ (i : Int) := by omega
            obtain ⟨bx, ox, rfl, hbx, hcx⟩ := (HR4.out.below HBi.out).at_ i hil
            obtain ⟨x, hx⟩ : ∃ x, o[i]?.getD 0 = x := ⟨_, rfl⟩
            rw [hx] at hcx
            have hxi : o[i]? = some x := by
              have : i < o.length := by rw [HL3.out]; exact hil
              rw [List.getElem?_eq_getElem this] at hx ⊢
              simpa using hx
            have hrg := HORD.out.rng x (List.mem_of_getElem? hxi)
            obtain ⟨v, rfl⟩ : ∃ v : Nat, x = (v : Int) := ⟨x.toNat, by omega⟩
            have hv10 : v < 10 := by omega
            have hv10i : (v : Int) < 10 := by omega
            have hv0 : (0 : Int) ≤ (v : Int) := by omega
            have hv1 : decide ((v : Int) < 0) = false := decide_eq_false (by omega)
            have hv2 : decide ((v : Int) > 9) = false := decide_eq_false (by omega)
            have hq := HX.out.cell (v := v) (u := .int .i64 (-1)) (by rw [atc_get _ v hv10, posI_no (take_no HORD.out.nd hxi)])
            have hqf := HX.out.free v
            have HXS := HX.out.set v (.int .i64 (i : Int))
            rw [atc_step HORD.out.nd hxi hv10] at HXS
            have HX2 := Lib.hid HXS
            have HB2 := Lib.hid (HBi.out.setCell (p := ⟨Q, v, none⟩) (by have := HQ.out; show wb.heap.size ≤ Q; omega) (.int .i64 (i : Int)))
            clear hx hxi hrg HXS
            go_wp2_with fail
            go_roundg (N - (i + 1))
            case measure => omega
            case rel => exact ⟨i + 1, by omega, by omega, by go_num, HX2, HB2⟩
          · have hili : ¬ ((i : Int) < (N : Int)) := by omega
            have HXE : Hid (BoxA wr Q (atc o)) := Lib.hid (by have := HX.out; rwa [List.take_of_length_le (by rw [HL3.out]; omega)] at this)
            have HTE := Lib.hid (HT.out.below HBi.out)
            clear HX
            go_wp2_with fail
            go_loopg [10] 10 (fun g3 s10 wi => ∃ k : Nat, k ≤ 10 ∧ 10 - k ≤ g3 ∧ s10 = .int .i64 (k : Int) ∧ Hid (BoxA wi Q (atc o)) ∧ Hid (TBox wi P A1 n1 c1 B1 m1 d1 1 (List.replicate 10 false) [es]) ∧ Hid (Below wb.heap.size wb wi))
            case atStart => exact ⟨0, by omega, by omega, rfl, HXE, HTE, HBi⟩
            case round =>
              clear HXE HTE HBi
              obtain ⟨k, hk, hgk, rfl, HX, HTk, HBk⟩ := hrel
              obtain ⟨c0, c1', c2⟩ := HTk.out.cells
              by_cases hlt : k < 10
              · have hlti : (k : Int) < 10 := by omega
                have hk0 : (0 : Int) ≤ (k : Int) := by omega
                have hnx := HTk.out.drew.next HFW.out 0 (k : Int) (by decide)
                go_wp2_with fail
                go_region_held3 (fun w' => w'.cell? ⟨P, 0, none⟩ = some (.int .u64 1) ∧ w'.cell? ⟨P, 1, none⟩ = some (.slice A1 n1 c1) ∧ w'.cell? ⟨P, 2, none⟩ = some (.slice B1 m1 d1))
                  (first | exact ⟨c0, c1', c2⟩ | exact HT5.out.cells | exact HT6.out.cells)
                  (first
                  | (go_at_call 14; (with_reducible refine hnx.mono ?_); rintro e w5 ⟨v5, rfl, hO5, b5⟩; obtain ⟨A5, N5, c5, rfl, hc5, hR5, hm5⟩ := hO5.row; have HT5 := Lib.hid (HTk.out.drew.below b5); have hpv := HT5.out.prev HFW.out 0 (k : Int) (by decide); have HR5 := Lib.hid hR5; have B5 := Lib.hid (stepB1 b5); clear hO5 hR5 b5 hnx)
                  | (go_at_call 15; (with_reducible refine hpv.mono ?_); rintro e w6 ⟨v6, rfl, hO6, b6⟩; obtain ⟨A6, N6, c6, rfl, hc6, hR6, hm6⟩ := hO6.row; have HT6 := Lib.hid (HT5.out.below b6); have HR6 := Lib.hid hR6; have B6 := Lib.hid b6; clear hO6 hR6 b6 hpv))
                have HN5 : Hid (RowI w6 A5 N5 (endsOf (fun e : Ed => (e.2, e.1 == (k : Int))) es)) := Lib.hid (HR5.out.below B6.out)
                have HN6 : Hid (RowI w6 A6 N6 (endsOf (fun e : Ed => (e.1, e.2 == (k : Int))) es)) := HR6
                have HX6 := Lib.hid ((HX.out.below B5.out).below B6.out)
                have HB6 := Lib.hid (belowThen (belowThen HBk.out HBk.out.size B5.out) (by have := HBk.out.size; have := B5.out.size; omega) B6.out)
                have hn5 : N5 ≤ 1048576 := by have h1 := HN5.out.len; have h2 := endsOf_len (fun e : Ed => (e.2, e.1 == (k : Int))) es; have h3 := HFW.out es (by simp); omega
                have hn6 : N6 ≤ 1048576 := by have h1 := HN6.out.len; have h2 := endsOf_len (fun e : Ed => (e.1, e.2 == (k : Int))) es; have h3 := HFW.out es (by simp); omega
                obtain ⟨p, hp⟩ : ∃ p, posI o k = p := ⟨_, rfl⟩
                have hqc := HX6.out.cell (v := k) (u := .int .i64 p) (by rw [atc_get _ k hlt, hp])
                have hp1 := posI_lo o k
                have hp2 := posI_lt o k
                rw [hp] at hp1 hp2
                rw [HL3.out] at hp2
                obtain ⟨bb, hbb⟩ : ∃ bb, decide ((k : Int) ∈ o) = bb := ⟨_, rfl⟩
                have hb1 : decide (p ≥ 0) = bb := by
                  rw [← hbb, ← hp]
                  by_cases hm : (k : Int) ∈ o
                  · rw [decide_eq_true hm]; exact decide_eq_true (posI_yes hm)
                  · rw [decide_eq_false hm, posI_no hm]; rfl
                have hb2 : decide ((N5 : Int) + (N6 : Int) > 0) = bb := by
                  have hlen5 := HN5.out.len
                  have hlen6 := HN6.out.len
                  rw [← hbb]
                  by_cases hm : (k : Int) ∈ o
                  · rw [decide_eq_true hm]
                    obtain ⟨y, hy | hy⟩ := (HORD.out.mem _).1 hm
                    · have := List.length_pos_of_mem ((next_mem es k y).2 hy)
                      exact decide_eq_true (by omega)
                    · have := List.length_pos_of_mem ((prev_mem es k y).2 hy)
                      exact decide_eq_true (by omega)
                  · rw [decide_eq_false hm]
                    have h5 : (endsOf (fun e : Ed => (e.2, e.1 == (k : Int))) es).length = 0 := by
                      refine Nat.eq_zero_of_not_pos fun hpos => ?_
                      obtain ⟨y, hy⟩ := List.exists_mem_of_length_pos hpos
                      exact hm ((HORD.out.mem _).2 ⟨y, .inl ((next_mem es k y).1 hy)⟩)
                    have h6 : (endsOf (fun e : Ed => (e.1, e.2 == (k : Int))) es).length = 0 := by
                      refine Nat.eq_zero_of_not_pos fun hpos => ?_
                      obtain ⟨y, hy⟩ := List.exists_mem_of_length_pos hpos
                      exact hm ((HORD.out.mem _).2 ⟨y, .inr ((prev_mem es k y).1 hy)⟩)
                    exact decide_eq_false (by omega)
                have HP := Lib.hid hp
                clear hp hbb c0 c1' c2 HT5 HR5 B5 B6 HX HTk HBk HR6
                go_wp2_with fail
                go_loopg [13] N5 (fun g4 s13 wi => ∃ (i q : Nat), i ≤ N5 ∧ N5 - i ≤ g4 ∧ s13 = .int .i64 (i : Int) ∧ wi = w6.drewN q)
                case atStart => exact ⟨0, 0, by omega, by omega, rfl, rfl⟩
                case round =>
                  obtain ⟨i, q, hi, hgi, rfl, rfl⟩ := hrel
                  by_cases hil : i < N5
                  · have hili : (i : Int) < (N5 : Int) := by omega
                    have hi0 : (0 : Int) ≤ (i : Int) := by omega
                    obtain ⟨by_, oy, rfl, hby, hcy⟩ := HN5.out.at_ i hil
                    obtain ⟨y, hy⟩ : ∃ y, (endsOf (fun e : Ed => (e.2, e.1 == (k : Int))) es)[i]?.getD 0 = y := ⟨_, rfl⟩
                    rw [hy] at hcy
                    have hyi : (endsOf (fun e : Ed => (e.2, e.1 == (k : Int))) es)[i]? = some y := by
                      have : i < (endsOf (fun e : Ed => (e.2, e.1 == (k : Int))) es).length := by rw [HN5.out.len]; exact hil
                      rw [List.getElem?_eq_getElem this] at hy ⊢
                      simpa using hy
                    have hed := (next_mem es k y).1 (List.mem_of_getElem? hyi)
                    have hyr := HORD.out.rng y ((HORD.out.mem y).2 ⟨_, .inr hed⟩)
                    obtain ⟨v, rfl⟩ : ∃ v : Nat, y = (v : Int) := ⟨y.toNat, by omega⟩
                    have hv10 : v < 10 := by omega
                    have hv10i : (v : Int) < 10 := by omega
                    have hv0 : (0 : Int) ≤ (v : Int) := by omega
                    obtain ⟨p2, hp2'⟩ : ∃ p2, posI o v = p2 := ⟨_, rfl⟩
                    have hqv := HX6.out.cell (v := v) (u := .int .i64 p2) (by rw [atc_get _ v hv10, hp2'])
                    have hle : decide (p2 ≤ p) = false := decide_eq_false (by have := HORD.out.fwd k v hed; have := HP.out; omega)
                    clear hy hyi hed hyr hp2'
                    go_wp2_with fail
                    go_quiet (fail)
                    go_wp2_with fail
                    go_roundg (N5 - (i + 1))
                    case measure => omega
                    case rel => exact ⟨i + 1, _, by omega, by omega, by go_num, rfl⟩
                  · have hili : ¬ ((i : Int) < (N5 : Int)) := by omega
                    go_wp2_with fail
                    go_roundg (10 - (k + 1))
                    case measure => omega
                    case rel => exact ⟨k + 1, by omega, by omega, by go_num, Lib.hid (HX6.out.below (belowDrewN (Below.refl _ _) _)), Lib.hid (HT6.out.below (belowDrewN (Below.refl _ _) _)), Lib.hid (belowDrewN HB6.out _)⟩
              · have hlti : ¬ ((k : Int) < 10) := by omega
                have HR5 := Lib.hid (HR4.out.below HBk.out)
                have HBw := Lib.hid (belowThen HB.out HB.out.size HBk.out)
                clear c0 c1' c2 HX HBk HR4
                go_wp2_with fail
                obtain ⟨wc, hwc⟩ : ∃ wc, wc = wr := ⟨_, rfl⟩
                subst hwc
                go_loopg [14] N (fun g5 s14 wi => ∃ j : Nat, j ≤ N ∧ N - j ≤ g5 ∧ s14 = .int .i64 ((j : Int) + 1) ∧ Hid (TBox wi P A1 n1 c1 B1 m1 d1 1 (List.replicate 10 false) [es]) ∧ Hid (Below wc.heap.size wc wi))
                case atStart => exact ⟨0, by omega, by omega, rfl, HTk, Lib.hid (Below.refl _ _)⟩
                case round =>
                  clear HTk
                  obtain ⟨j, hj, hgj, rfl, HTj, HBj⟩ := hrel
                  by_cases hjl : j + 1 < N
                  · have hjli : (j : Int) + 1 < (N : Int) := by omega
                    have hj0 : (0 : Int) ≤ (j : Int) := by omega
                    have hj1 : (0 : Int) ≤ (j : Int) + 1 := by omega
                    have hj2 : (j : Int) < (N : Int) := by omega
                    obtain ⟨c0, c1', c2⟩ := HTj.out.cells
                    obtain ⟨by_, oy, rfl, hby, hcm⟩ := (HR5.out.below HBj.out).at_ j (by omega)
                    obtain ⟨by2, oy2, e2, _, hcx⟩ := (HR5.out.below HBj.out).at_ (j + 1) hjl
                    injection e2 with e2
                    injection e2 with e3 e4
                    subst e3 e4
                    obtain ⟨m, hm⟩ : ∃ m, o[j]?.getD 0 = m := ⟨_, rfl⟩
                    obtain ⟨x, hx⟩ : ∃ x, o[j + 1]?.getD 0 = x := ⟨_, rfl⟩
                    rw [hm] at hcm
                    rw [hx] at hcx
                    have hmj : o[j]? = some m := by
                      have : j < o.length := by rw [HL3.out]; omega
                      rw [List.getElem?_eq_getElem this] at hm ⊢
                      simpa using hm
                    have hxj : o[j + 1]? = some x := by
                      have : j + 1 < o.length := by rw [HL3.out]; omega
                      rw [List.getElem?_eq_getElem this] at hx ⊢
                      simpa using hx
                    have hcon := HORD.out.cons j m x hmj hxj
                    have hs0 : (j : Int) + 1 - 1 = (j : Int) := by omega
                    have hs1 : IntKind.i64.wrap ((j : Int) + 1 - 1) = (j : Int) := by rw [hs0]; exact IntWalk.i64_in _ ⟨by omega, by omega⟩
                    have hs2 : IntKind.i64.wrap (j : Int) = (j : Int) := IntWalk.i64_in _ ⟨by omega, by omega⟩
                    have hs3 : ((j : Int) + 1).toNat = j + 1 := by omega
                    by_cases hmx : m < x
                    · have hgt : decide (x > m) = true := decide_eq_true hmx
                      clear hm hx hmj hxj hcon
                      go_wp2_with fail
                      go_quiet (fail)
                      go_wp2_with fail
                      go_roundg (N - (j + 1))
                      case measure => omega
                      case rel => exact ⟨j + 1, by omega, by omega, by go_num, Lib.hid (HTj.out.below (belowDrewN (Below.refl _ _) _)), Lib.hid (belowDrewN HBj.out _)⟩
                    · have hgt : decide (x > m) = false := decide_eq_false hmx
                      have HED := Lib.hid (hcon hmx)
                      clear hm hx hmj hxj hcon
                      go_wp2_with fail
                      go_quiet (fail)
                      go_wp2_with fail
                      have hedg := fun q : Nat => (HTj.out.below (belowDrewN (Below.refl _ _) q)).edge 0 m x (by decide) true (decide_eq_true HED.out)
                      go_region_held3 (fun w' => w'.cell? ⟨P, 0, none⟩ = some (.int .u64 1) ∧ w'.cell? ⟨P, 1, none⟩ = some (.slice A1 n1 c1) ∧ w'.cell? ⟨P, 2, none⟩ = some (.slice B1 m1 d1) ∧ w'.cell? ⟨by_, oy + j, none⟩ = some (.int .i64 m) ∧ w'.cell? ⟨by_, oy + (j + 1), none⟩ = some (.int .i64 x))
                        (first | exact ⟨c0, c1', c2, hcm, hcx⟩ | exact ⟨HT9.out.cells.1, HT9.out.cells.2.1, HT9.out.cells.2.2, hcm9, hcx9⟩)
                        ((go_at_call 16; (with_reducible refine (hedg _).mono ?_); rintro e w9 ⟨rfl, b9⟩; have B9 := Lib.hid (stepBN b9); have HT9 := Lib.hid (HTj.out.below B9.out); have hcm9 := cellBelow B9.out hcm; have hcx9 := cellBelow B9.out hcx; clear b9))
                      clear hedg
                      go_wp2_with fail
                      go_roundg (N - (j + 1))
                      case measure => omega
                      case rel => exact ⟨j + 1, by omega, by omega, by go_num, HT9, Lib.hid (belowThen HBj.out HBj.out.size B9.out)⟩
                  · have hjli : ¬ ((j : Int) + 1 < (N : Int)) := by omega
                    have hwk := wakes_calls wr
                    go_wp2_with fail
                    refine hwk.mono ?_
                    rintro e w8 ⟨rfl, b8⟩
                    have HB8 := Lib.hid (belowThen (belowThen HBw.out HBw.out.size HBj.out) (by have := HBw.out.size; have := HBj.out.size; omega) b8)
                    clear hwk b8
                    go_wp2_with fail
                    go_ret
                    exact ⟨rfl, HB8.out⟩
end Go.Proofs.Ytgfnlfkbbedkaaa
