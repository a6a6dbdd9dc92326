/-
  The walk of TopoHops.
-/
import Derived.Test.YtgfnlfkbbedkaaaTpT
namespace Go.Proofs.Ytgfnlfkbbedkaaa
open Go.RowKit

/-- Whether b is reached from a over the first i next hops. -/
def OverI (es : List Ed) (a b : Int) (nx : List Int) (i : Nat) (ov : Bool) : Prop := ov = true ↔ (a, b) ∈ es ∨ ∃ j x, j < i ∧ nx[j]? = some x ∧ Reaches es x b
theorem OverI.start (es : List Ed) (a b : Int) (nx : List Int) (r : Bool) (h : decide ((a, b) ∈ es) = r) : OverI es a b nx 0 r := by
  unfold OverI
  rw [← h, decide_eq_true_iff]
  exact ⟨.inl, fun h => by rcases h with h | ⟨j, x, h, _⟩; exact h; omega⟩
theorem OverI.yes {es : List Ed} {a b : Int} {nx : List Int} {i : Nat} (h : OverI es a b nx i true) : OverI es a b nx (i + 1) true := by
  refine ⟨fun _ => ?_, fun _ => rfl⟩
  rcases h.1 rfl with h | ⟨j, x, h1, h2⟩
  · exact .inl h
  · exact .inr ⟨j, x, by omega, h2⟩
theorem OverI.no {es : List Ed} {a b : Int} {nx : List Int} {i : Nat} {x : Int} {r : Bool} (h : OverI es a b nx i false) (hx : nx[i]? = some x) (hr : r = true ↔ Reaches es x b) : OverI es a b nx (i + 1) r := by
  constructor
  · intro e
    exact .inr ⟨i, x, by omega, hx, hr.1 e⟩
  · rintro (h1 | ⟨j, y, h1, h2, h3⟩)
    · have := h.2 (.inl h1); cases this
    · rcases Nat.lt_or_ge j i with h4 | h4
      · have := h.2 (.inr ⟨j, y, h4, h2, h3⟩); cases this
      · obtain rfl : j = i := by omega
        rw [hx] at h2; injection h2 with h2; subst h2
        exact hr.2 h3
theorem OverI.all {es : List Ed} {a b : Int} {i : Nat} {ov : Bool} {N : Nat} (h : OverI es a b (endsOf (fun e : Ed => (e.2, e.1 == a)) es) i ov) (hi : i = N) (hN : (endsOf (fun e : Ed => (e.2, e.1 == a)) es).length = N) :
    ov = true ↔ Reaches es a b := by
  refine Iff.trans h ?_
  constructor
  · rintro (h1 | ⟨j, x, _, h2, h3⟩)
    · exact .one h1
    · exact reach_head ((next_mem es a x).1 (List.mem_of_getElem? h2)) h3
  · intro h1
    rcases reach_cases h1 with h1 | ⟨x, h2, h3⟩
    · exact .inl h1
    · obtain ⟨j, hj, e⟩ := List.mem_iff_getElem.1 ((next_mem es a x).2 h2)
      exact .inr ⟨j, x, by omega, by rw [List.getElem?_eq_getElem hj, e], h3⟩
theorem ends_nil (f : Ed → Int × Bool) : endsOf f [] = [] := ends_eq _ _ _ (by simp) fun x => by simp
theorem reach_none {es : List Ed} (h : es = []) {a : Int} (rl : List Int) (hx : ∀ x, x ∈ rl ↔ Reaches es a x) : rl = [] := by
  subst h
  refine List.eq_nil_iff_forall_not_mem.2 fun x hm => ?_
  have := reaches_end ((hx x).1 hm)
  simp at this
set_option maxRecDepth 20000 in
set_option maxHeartbeats 4000000 in
theorem topoHops_walk (w : World) (A : Option Addr) (n c : Nat) (l : List (Nat × Nat)) (hr : Rd elU2 w (fun k => k < w.heap.size) A n l) (hc : n ≤ c) :
    Calls Try.prog 4 #[.slice A n c] w fun e w' => e = .returned (.bool true) ∧ Below w.heap.size w w' := by
  have hbt := between_calls w A n c l hr
  have hfw := few_edges l
  obtain ⟨es, hes⟩ : ∃ es, edgesB l = es := ⟨_, rfl⟩
  rw [hes] at hbt hfw
  have HFW := Lib.hid hfw
  clear hr hes hfw
  go_enter Try.func4, Try.ntmps4
  go_upto_region 2 with (go_at_call 9; refine hbt.mono ?_; rintro e w1 ⟨v1, rfl, hT1, b1⟩; obtain ⟨A1, n1, c1, B1, m1, d1, rfl, _, _, hTB⟩ := TBox.made hT1; have HB1 := Lib.hid b1; have HT1 := Lib.hid hTB; clear hT1 b1 hTB hbt)
  obtain ⟨w2, hw2⟩ : ∃ w2, w1.alloc (.cells #[.int .u64 1, .slice A1 n1 c1, .slice B1 m1 d1] 27) = w2 := ⟨_, rfl⟩
  have b2 : Below w1.heap.size w1 w2 := by rw [← hw2]; exact (Below.refl _ _).alloc (Nat.le_refl _) _
  have HB2 := Lib.hid (belowThen HB1.out HB1.out.size b2)
  rw [hw2] at HT1 ⊢
  obtain ⟨P, hP⟩ : ∃ P, w1.heap.size = P := ⟨_, rfl⟩
  rw [hP] at HT1 ⊢
  clear hP b2 hw2 HB1
  go_wp2_with fail
  go_loopg [4] 10 (fun gg s4 wr => ∃ a : Nat, a ≤ 10 ∧ 10 - a ≤ gg ∧ s4 = .int .i64 (a : Int) ∧ Hid (TBox wr P A1 n1 c1 B1 m1 d1 1 (List.replicate 10 false) [es]) ∧ Hid (Below w.heap.size w wr))
  case atStart => exact ⟨0, by omega, by omega, rfl, HT1, HB2⟩
  case round =>
    clear HT1 HB2
    obtain ⟨a, ha, hga, rfl, HT, HB⟩ := hrel
    obtain ⟨c0, c1', c2⟩ := HT.out.cells
    by_cases hlt : a < 10
    · have hlti : (a : Int) < 10 := by omega
      have hnx := HT.out.drew.next HFW.out 0 (a : Int) (by decide)
      go_wp2_with fail
      go_region_held3 (fun w' => w'.cell? ⟨P, 0, none⟩ = some (.int .u64 1) ∧ w'.cell? ⟨P, 1, none⟩ = some (.slice A1 n1 c1) ∧ w'.cell? ⟨P, 2, none⟩ = some (.slice B1 m1 d1))
        (first | exact ⟨c0, c1', c2⟩ | exact HT5.out.cells | exact HT6.out.cells)
        (first
        | (go_at_call 14; (with_reducible refine hnx.mono ?_); rintro e w5 ⟨v5, rfl, hO5, b5⟩; obtain ⟨A5, N5, c5, rfl, hc5, hR5, hm5⟩ := hO5.row; have HT5 := Lib.hid (HT.out.drew.below b5); have hrc := HT5.out.reach HFW.out 0 (a : Int) (by decide); have HR5 := Lib.hid hR5; have B5 := Lib.hid b5; clear hO5 hR5 b5 hnx)
        | (go_at_call 12; (with_reducible refine hrc.mono ?_); rintro e w6 ⟨rl, hx1, hx2, v6, rfl, hO6, b6⟩; obtain ⟨A6, N6, c6, rfl, hc6, hR6, hm6⟩ := hO6.row; have HT6 := Lib.hid (HT5.out.below b6); have HR6 := Lib.hid hR6; have B6 := Lib.hid b6; have HX1 := Lib.hid hx1; have HX2 := Lib.hid hx2; clear hO6 hR6 b6 hx1 hx2 hrc))
      have HB6 := Lib.hid (belowThen (belowThen HB.out HB.out.size (stepB1 B5.out)) (by have := HB.out.size; have := (stepB1 B5.out).size; omega) B6.out)
      have HN5 : Hid (RowI w6 A5 N5 (endsOf (fun e : Ed => (e.2, e.1 == (a : Int))) es)) := Lib.hid (HR5.out.below B6.out)
      clear c0 c1' c2 HT5 HR5 B5 B6 HT HB
      go_wp2_with fail
      go_loopg [7] 10 (fun g2 s7 wb => ∃ b : Nat, b ≤ 10 ∧ 10 - b ≤ g2 ∧ s7 = .int .i64 (b : Int) ∧ Hid (TBox wb P A1 n1 c1 B1 m1 d1 1 (List.replicate 10 false) [es]) ∧ Hid (Below w6.heap.size w6 wb))
      case atStart => exact ⟨0, by omega, by omega, rfl, HT6, Lib.hid (Below.refl _ _)⟩
      case round =>
        clear HT6
        obtain ⟨b, hb, hgb, rfl, HTb, HBb⟩ := hrel
        by_cases hbl : b < 10
        · have hbli : (b : Int) < 10 := by omega
          obtain ⟨x0, x1, x2⟩ := HTb.out.cells
          obtain ⟨r, hr⟩ : ∃ r, decide (((a : Int), (b : Int)) ∈ es) = r := ⟨_, rfl⟩
          have hed := HTb.out.edge 0 (a : Int) (b : Int) (by decide) r hr
          have HRR := Lib.hid hr
          clear hr
          go_wp2_with fail
          refine hed.mono ?_
          rintro e w7 ⟨rfl, b7⟩
          have HT7 := Lib.hid (HTb.out.below b7)
          have HB7 := Lib.hid (belowThen HBb.out HBb.out.size b7)
          have hh1 := (HN5.out.below HB7.out).has c5 (b : Int) r (has_eq ((next_mem es a b).trans (by rw [← HRR.out, decide_eq_true_iff])))
          clear hed b7 x0 x1 x2 HTb HBb
          go_wp2_with fail
          refine hh1.mono ?_
          rintro e w8 ⟨rfl, b8⟩
          have HT8 := Lib.hid (HT7.out.below b8)
          have HB8 := Lib.hid (belowThen HB7.out HB7.out.size b8)
          obtain ⟨x0, x1, x2⟩ := HT8.out.cells
          have hpv := HT8.out.prev HFW.out 0 (b : Int) (by decide)
          clear hh1 b8 HT7 HB7
          go_wp2_with fail
          refine hpv.mono ?_
          rintro e w9 ⟨v9, rfl, hO9, b9⟩
          obtain ⟨A9, N9, c9, rfl, hc9, hR9, hm9⟩ := hO9.row
          have HT9 := Lib.hid (HT8.out.below b9)
          have HB9 := Lib.hid (belowThen HB8.out HB8.out.size b9)
          have hh2 := hR9.has c9 (a : Int) r (has_eq ((prev_mem es b a).trans (by rw [← HRR.out, decide_eq_true_iff])))
          clear hpv hO9 hR9 b9 x0 x1 x2 HT8 HB8
          go_wp2_with fail
          refine hh2.mono ?_
          rintro e w10 ⟨rfl, b10⟩
          have HT10 := Lib.hid (HT9.out.below b10)
          have HB10 := Lib.hid (belowThen HB9.out HB9.out.size b10)
          have HO0 := Lib.hid (OverI.start es a b (endsOf (fun e : Ed => (e.2, e.1 == (a : Int))) es) r HRR.out)
          clear hh2 b10 HT9 HB9
          go_wp2_with fail
          go_loopg [9, 10] N5 (fun g3 s9 s10 wi => ∃ (i : Nat) (ov : Bool), i ≤ N5 ∧ N5 - i ≤ g3 ∧ s9 = .bool ov ∧ s10 = .int .i64 (i : Int) ∧ Hid (OverI es a b (endsOf (fun e : Ed => (e.2, e.1 == (a : Int))) es) i ov) ∧ Hid (TBox wi P A1 n1 c1 B1 m1 d1 1 (List.replicate 10 false) [es]) ∧ Hid (Below w6.heap.size w6 wi))
          case atStart => exact ⟨0, r, by omega, by omega, rfl, rfl, HO0, HT10, HB10⟩
          case round =>
            clear HO0 HT10 HB10
            obtain ⟨i, ov, hi, hgi, rfl, rfl, HOV, HTi, HBi⟩ := hrel
            by_cases hil : i < N5
            · have hili : (i : Int) < (N5 : Int) := by omega
              have hi0 : (0 : Int) ≤ (i : Int) := by omega
              cases ov with
              | true =>
                have HY := Lib.hid HOV.out.yes
                go_wp2_with fail
                go_quiet (fail)
                go_wp2_with fail
                go_roundg (N5 - (i + 1))
                case measure => omega
                case rel => exact ⟨i + 1, true, by omega, by omega, rfl, by go_num, HY, Lib.hid (HTi.out.below (belowDrewN (Below.refl _ _) _)), Lib.hid (belowDrewN HBi.out _)⟩
              | false =>
                obtain ⟨x0, x1, x2⟩ := HTi.out.cells
                obtain ⟨bx, ox, rfl, hbx, hcx⟩ := (HN5.out.below HBi.out).at_ i hil
                obtain ⟨x, hx⟩ : ∃ x, (endsOf (fun e : Ed => (e.2, e.1 == (a : Int))) es)[i]?.getD 0 = x := ⟨_, rfl⟩
                rw [hx] at hcx
                have HXI : Hid ((endsOf (fun e : Ed => (e.2, e.1 == (a : Int))) es)[i]? = some x) := Lib.hid (by
                  have : i < (endsOf (fun e : Ed => (e.2, e.1 == (a : Int))) es).length := by rw [HN5.out.len]; exact hil
                  rw [List.getElem?_eq_getElem this] at hx ⊢
                  simpa using hx)
                have hrc := HTi.out.drew.reach HFW.out 0 x (by decide)
                clear hx
                go_wp2_with fail
                go_region_held3 (fun w' => w'.cell? ⟨P, 0, none⟩ = some (.int .u64 1) ∧ w'.cell? ⟨P, 1, none⟩ = some (.slice A1 n1 c1) ∧ w'.cell? ⟨P, 2, none⟩ = some (.slice B1 m1 d1) ∧ w'.cell? ⟨bx, ox + i, none⟩ = some (.int .i64 x))
                  (first | exact ⟨x0, x1, x2, hcx⟩ | exact ⟨HT11.out.cells.1, HT11.out.cells.2.1, HT11.out.cells.2.2, hcy⟩ | exact ⟨HT12.out.cells.1, HT12.out.cells.2.1, HT12.out.cells.2.2, hcz⟩)
                  (first
                  | (go_at_call 12; (with_reducible refine hrc.mono ?_); rintro e w11 ⟨xs, q1, q2, v11, rfl, hO11, b11⟩; obtain ⟨A11, N11, c11, rfl, hc11, hR11, hm11⟩ := hO11.row; have HT11 := Lib.hid (HTi.out.drew.below b11); have hcy := cellBelow (stepB1 b11) hcx; obtain ⟨r2, hr2⟩ : ∃ r2, decide ((b : Int) ∈ xs) = r2 := ⟨_, rfl⟩; have hh4 := hR11.has c11 (b : Int) r2 hr2; have HQ2 : Hid (r2 = true ↔ Reaches es x b) := Lib.hid (by rw [← hr2, decide_eq_true_iff]; exact q2 b); have B11 := Lib.hid (stepB1 b11); clear hO11 hR11 b11 hr2 q1 q2 hrc)
                  | (go_at_call 11; (with_reducible refine hh4.mono ?_); rintro e w12 ⟨rfl, b12⟩; have HT12 := Lib.hid (HT11.out.below b12); have hcz := cellBelow b12 hcy; have B12 := Lib.hid b12; clear b12 hh4))
                have HNO := Lib.hid (HOV.out.no HXI.out HQ2.out)
                have HBZ := Lib.hid (belowThen (belowThen HBi.out HBi.out.size B11.out) (by have := HBi.out.size; have := B11.out.size; omega) B12.out)
                go_wp2_with fail
                go_roundg (N5 - (i + 1))
                case measure => omega
                case rel => exact ⟨i + 1, r2, by omega, by omega, rfl, by go_num, HNO, HT12, HBZ⟩
            · have hili : ¬ ((i : Int) < (N5 : Int)) := by omega
              have hov := HOV.out.all (N := N5) (by omega) HN5.out.len
              have hh3 := (HR6.out.below HBi.out).has c6 (b : Int) ov (has_eq ((HX2.out b).trans hov.symm))
              clear hov
              go_wp2_with fail
              refine hh3.mono ?_
              rintro e w13 ⟨rfl, b13⟩
              have HT13 := Lib.hid (HTi.out.below b13)
              have HB13 := Lib.hid (belowThen HBi.out HBi.out.size b13)
              clear hh3 b13
              go_wp2_with fail
              go_roundg (10 - (b + 1))
              case measure => omega
              case rel => exact ⟨b + 1, by omega, by omega, by go_num, HT13, HB13⟩
        · have hbli : ¬ ((b : Int) < 10) := by omega
          have hl6 := HR6.out.len
          have HL6 := Lib.hid hl6
          clear hl6
          go_wp2_with fail
          go_loopg [11] N6 (fun g4 s11 wi => ∃ (j q : Nat), j ≤ N6 ∧ N6 - j ≤ g4 ∧ s11 = .int .i64 ((j : Int) + 1) ∧ wi = wr.drewN q)
          case atStart => exact ⟨0, 0, by omega, by omega, rfl, rfl⟩
          case round =>
            obtain ⟨j, q, hj, hgj, rfl, rfl⟩ := hrel
            by_cases hjl : j + 1 < N6
            · have hjli : (j : Int) + 1 < (N6 : Int) := by omega
              have hj0 : (0 : Int) ≤ (j : Int) := by omega
              have hj1 : (0 : Int) ≤ (j : Int) + 1 := by omega
              have hj2 : (j : Int) < (N6 : Int) := by omega
              obtain ⟨by_, oy, rfl, hby, hcy⟩ := (HR6.out.below HBb.out).at_ j (by omega)
              obtain ⟨by2, oy2, e2, _, hcz⟩ := (HR6.out.below HBb.out).at_ (j + 1) hjl
              injection e2 with e2
              injection e2 with e3 e4
              subst e3 e4
              obtain ⟨x, hx⟩ : ∃ x, rl[j]?.getD 0 = x := ⟨_, rfl⟩
              obtain ⟨y, hy⟩ : ∃ y, rl[j + 1]?.getD 0 = y := ⟨_, rfl⟩
              rw [hx] at hcy
              rw [hy] at hcz
              have hxy : x < y := by
                have h1 : j < rl.length := by rw [HL6.out]; omega
                have h2 : j + 1 < rl.length := by rw [HL6.out]; omega
                have := List.pairwise_iff_getElem.1 HX1.out j (j + 1) h1 h2 (by omega)
                rw [← hx, ← hy, List.getElem?_eq_getElem h1, List.getElem?_eq_getElem h2]
                exact this
              have hge : decide (x ≥ y) = false := decide_eq_false (by omega)
              have hs0 : (j : Int) + 1 - 1 = (j : Int) := by omega
              have hs1 : IntKind.i64.wrap ((j : Int) + 1 - 1) = (j : Int) := by rw [hs0]; exact IntWalk.i64_in _ ⟨by omega, by omega⟩
              have hs2 : IntKind.i64.wrap (j : Int) = (j : Int) := IntWalk.i64_in _ ⟨by omega, by omega⟩
              have hs3 : ((j : Int) + 1).toNat = j + 1 := by omega
              clear hx hy
              go_wp2_with fail
              go_quiet (fail)
              go_wp2_with fail
              go_roundg (N6 - (j + 1))
              case measure => omega
              case rel => exact ⟨j + 1, _, by omega, by omega, by go_num, rfl⟩
            · have hjli : ¬ ((j : Int) + 1 < (N6 : Int)) := by omega
              go_wp2_with fail
              go_roundg (10 - (a + 1))
              case measure => omega
              case rel => exact ⟨a + 1, by omega, by omega, by go_num, Lib.hid (HTb.out.below (belowDrewN (Below.refl _ _) _)), Lib.hid (belowThen HB6.out HB6.out.size (belowDrewN HBb.out _))⟩
    · have hlti : ¬ ((a : Int) < 10) := by omega
      have hnx := HT.out.next HFW.out 1 0 (by decide)
      rw [show nextOf [es] 1 0 = [] from ends_nil _] at hnx
      go_wp2_with fail
      refine hnx.mono ?_
      rintro e w5 ⟨v5, rfl, hO5, b5⟩
      obtain ⟨A5, c5, rfl, hc5, _, _, _⟩ := hO5.rd
      have HT5 := Lib.hid (HT.out.below b5)
      have HB5 := Lib.hid (belowThen HB.out HB.out.size b5)
      clear c0 c1' c2 hnx hO5 b5
      obtain ⟨c0, c1', c2⟩ := HT5.out.cells
      have hrc := HT5.out.reach HFW.out (-1) 0 (by decide)
      go_wp2_with fail
      refine hrc.mono ?_
      rintro e w6 ⟨rl, hx1, hx2, v6, rfl, hO6, b6⟩
      obtain rfl : rl = [] := reach_none rfl rl hx2
      obtain ⟨A6, c6, rfl, hc6, _, _, _⟩ := hO6.rd
      have HT6 := Lib.hid (HT5.out.below b6)
      have HB6 := Lib.hid (belowThen HB5.out HB5.out.size b6)
      clear c0 c1' c2 hrc hO6 b6 hx1 hx2
      obtain ⟨c0, c1', c2⟩ := HT6.out.cells
      have hed := HT6.out.edge 1 0 1 (by decide) false rfl
      go_wp2_with fail
      refine hed.mono ?_
      rintro e w7 ⟨rfl, b7⟩
      have HB7 := Lib.hid (belowThen HB6.out HB6.out.size b7)
      have hwk := wakes_calls w7
      clear c0 c1' c2 hed b7
      go_wp2_with fail
      refine hwk.mono ?_
      rintro e w8 ⟨rfl, b8⟩
      have HB8 := Lib.hid (belowThen HB7.out HB7.out.size b8)
      clear hwk b8
      go_wp2_with fail
      go_ret
      exact ⟨rfl, HB8.out⟩
end Go.Proofs.Ytgfnlfkbbedkaaa
