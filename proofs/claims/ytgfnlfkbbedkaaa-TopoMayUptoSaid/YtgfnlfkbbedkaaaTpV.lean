/-
  The walk of wakes.
-/
import Derived.Test.YtgfnlfkbbedkaaaTpW
namespace Go.Proofs.Ytgfnlfkbbedkaaa
open Go.RowKit

theorem same_lit (W : World) (A : Option Addr) (c : Nat) (zs : List Int) (ok : Nat → Prop) (hR : RdI W ok A zs.length zs) :
    Calls Try.prog 18 #[.slice A zs.length c, .slice (some ⟨W.heap.size, 0, none⟩) zs.length zs.length] (W.alloc (.cells (ivals zs).toArray 3)) fun e w' => e = .returned (.bool true) ∧ Below W.heap.size W w' := by
  have hb : Below W.heap.size W (W.alloc (.cells (ivals zs).toArray 3)) := (Below.refl _ _).alloc (Nat.le_refl _) _
  refine (same_calls _ _ (fun _ => True) _ _ _ c _ _ zs zs (hR.below hb) (lit_rdI W zs _ trivial (hR.2.1))).mono ?_
  rintro e w' ⟨rfl, q, rfl⟩
  exact ⟨by simp, belowDrewN hb _⟩
set_option maxRecDepth 20000 in
set_option maxHeartbeats 4000000 in
theorem wakes_calls (w : World) : Calls Try.prog 13 #[] w fun e w' => e = .returned (.bool true) ∧ Below w.heap.size w w' := by
  have hd0 := diamond_calls w none 0 0 [] (Rd.nil _ _ _ _) (by decide)
  rw [List.append_nil] at hd0
  go_enter Try.func13, Try.ntmps13
  go_wp2_with fail
  refine hd0.mono ?_
  rintro e w1 ⟨v1, rfl, hT1, b1⟩
  obtain ⟨A, n, c, B, m, d, rfl, g1, g2, g3, g4⟩ := hT1
  obtain ⟨w2, hw2⟩ : ∃ w2, w1.alloc (.cells #[.int .u64 1, .slice A n c, .slice B m d] 27) = w2 := ⟨_, rfl⟩
  have b2 : Below w1.heap.size w1 w2 := by rw [← hw2]; exact (Below.refl _ _).alloc (Nat.le_refl _) _
  have hs2 : w2.heap.size = w1.heap.size + 1 := by rw [← hw2]; simp
  have hc : ∀ (W : World), Below w2.heap.size w2 W → W.cell? ⟨w1.heap.size, 0, none⟩ = some (.int .u64 1) ∧ W.cell? ⟨w1.heap.size, 1, none⟩ = some (.slice A n c) ∧ W.cell? ⟨w1.heap.size, 2, none⟩ = some (.slice B m d) := by
    intro W hb
    refine ⟨(hb.cell (p := ⟨w1.heap.size, 0, none⟩) (show w1.heap.size < w2.heap.size by omega)).trans ?_, (hb.cell (p := ⟨w1.heap.size, 1, none⟩) (show w1.heap.size < w2.heap.size by omega)).trans ?_, (hb.cell (p := ⟨w1.heap.size, 2, none⟩) (show w1.heap.size < w2.heap.size by omega)).trans ?_⟩ <;> rw [← hw2] <;> simp
  have hT : ∀ (W : World), Below w2.heap.size w2 W → TopoV W (fun k => k < W.heap.size) (.agg #[.int .u64 1, .slice A n c, .slice B m d]) 1 [true, true, true, true, true] [dia] := by
    intro W hb
    have hz := hb.size
    exact ⟨A, n, c, B, m, d, rfl, g1, g2, ((g3.below b2).below hb).mono fun k hk _ => by omega, ((g4.below b2).below hb).mono fun k hk _ => by omega⟩
  have hfw : Few [dia] := few_one (by decide)
  have hed : edgesOf [dia] 0 = dia := rfl
  have hor := order_in w2 _ 1 _ [dia] (hT w2 (Below.refl _ _)) hfw 0 dia rfl
  rw [dia_order] at hor
  have HW2 := Lib.hid hw2
  have HC := Lib.hid hc
  have HT := Lib.hid hT
  have B12 := Lib.hid (belowThen b1 b1.size b2)
  have HS2 := Lib.hid hs2
  clear hd0 g3 g4 hw2 b2 hc hT b1 hs2
  go_wp2_with fail
  rw [HW2.out]
  refine hor.mono ?_
  rintro e w3 ⟨v3, rfl, hO3, b3⟩
  have hd1 := fun W : World => diamond_calls (W.alloc (.cells #[.int .i64 4, .int .i64 0] 42)) (some ⟨W.heap.size, 0, none⟩) 1 1 [(4, 0)]
    (rd_block (E := elEd) (xs := [(4, 0)]) (vss := [[.int .i64 4, .int .i64 0]]) (.cons (ed_mk _ _ (x := (4, 0)) (by decide) (by decide)) .nil) (by simp) (by simp) (by decide) fun j u hu => by
      simpa using hu) (by decide)
  have HO3 := Lib.hid hO3
  have B3 := Lib.hid b3
  clear hor hO3 b3
  go_wp2_with fail
  refine (hd1 _).mono ?_
  rintro e w4 ⟨v4, rfl, hT4, b4⟩
  have B34 : Hid (Below w3.heap.size w3 w4) := Lib.hid (belowThen ((Below.refl _ _).alloc (Nat.le_refl _) _) (by simp) b4)
  have hor4 := order_in w4 v4 1 _ [dia ++ [(4, 0)]] (hT4.mono fun k hk h2 => h2) (few_one (by decide)) 0 _ rfl
  rw [dia_circle] at hor4
  clear hd1 hT4 b4
  go_wp2_with fail
  refine hor4.mono ?_
  rintro e w5 ⟨rfl, b5⟩
  have B25 := Lib.hid (belowThen (belowThen B3.out B3.out.size B34.out) (by have := B3.out.size; have := B34.out.size; omega) b5)
  have B35 := Lib.hid (belowThen B34.out B34.out.size b5)
  clear hor4 b5
  obtain ⟨c0, c1, c2⟩ := HC.out _ B25.out
  have hnx := next_calls w5 _ 1 _ [dia] (HT.out _ B25.out) hfw 0 0 (by decide)
  unfold nextOf at hnx
  rw [hed, dia_next] at hnx
  go_wp2_with fail
  refine hnx.mono ?_
  rintro e w6 ⟨v6, rfl, hO6, b6⟩
  obtain ⟨A6, c6, e6, _, _, _, hR6⟩ := hO6.rd
  subst e6
  have hs6 := (show Calls Try.prog 18 #[.slice A6 2 c6, .slice (some ⟨w6.heap.size, 0, none⟩) 2 2] (w6.alloc (.cells #[.int .i64 2, .int .i64 3] 3)) (fun e w' => e = .returned (.bool true) ∧ Below w6.heap.size w6 w') from same_lit w6 A6 c6 [2, 3] _ hR6)
  have B26 := Lib.hid (belowThen B25.out B25.out.size b6)
  have B36 := Lib.hid (belowThen B35.out B35.out.size b6)
  clear hnx hO6 hR6 c0 c1 c2
  go_wp2_with fail
  refine hs6.mono ?_
  rintro e w7 ⟨rfl, b7⟩
  have B27 := Lib.hid (belowThen B26.out B26.out.size b7)
  have B37 := Lib.hid (belowThen B36.out B36.out.size b7)
  clear hs6 b7
  obtain ⟨c0, c1, c2⟩ := HC.out _ B27.out
  have hpv := prev_calls w7 _ 1 _ [dia] (HT.out _ B27.out) hfw 0 4 (by decide)
  unfold prevOf at hpv
  rw [hed, dia_prev] at hpv
  go_wp2_with fail
  refine hpv.mono ?_
  rintro e w8 ⟨v8, rfl, hO8, b8⟩
  obtain ⟨A8, c8, e8, _, _, _, hR8⟩ := hO8.rd
  subst e8
  have hs8 := (show Calls Try.prog 18 #[.slice A8 2 c8, .slice (some ⟨w8.heap.size, 0, none⟩) 2 2] (w8.alloc (.cells #[.int .i64 2, .int .i64 3] 3)) (fun e w' => e = .returned (.bool true) ∧ Below w8.heap.size w8 w') from same_lit w8 A8 c8 [2, 3] _ hR8)
  have B28 := Lib.hid (belowThen B27.out B27.out.size b8)
  have B38 := Lib.hid (belowThen B37.out B37.out.size b8)
  clear hpv hO8 hR8 c0 c1 c2 b8
  go_wp2_with fail
  refine hs8.mono ?_
  rintro e w9 ⟨rfl, b9⟩
  have B29 := Lib.hid (belowThen B28.out B28.out.size b9)
  have B39 := Lib.hid (belowThen B38.out B38.out.size b9)
  clear hs8 b9
  obtain ⟨c0, c1, c2⟩ := HC.out _ B29.out
  have hrc := reach_calls w9 _ 1 _ [dia] (HT.out _ B29.out) hfw 0 0 (by decide)
  rw [hed] at hrc
  go_wp2_with fail
  refine hrc.mono ?_
  rintro e w10 ⟨xs, hx1, hx2, v10, rfl, hO10, b10⟩
  obtain rfl := dia_reach xs hx1 hx2
  obtain ⟨A10, c10, e10, _, _, _, hR10⟩ := hO10.rd
  subst e10
  have hs10 := (show Calls Try.prog 18 #[.slice A10 3 c10, .slice (some ⟨w10.heap.size, 0, none⟩) 3 3] (w10.alloc (.cells #[.int .i64 2, .int .i64 3, .int .i64 4] 3)) (fun e w' => e = .returned (.bool true) ∧ Below w10.heap.size w10 w') from same_lit w10 A10 c10 [2, 3, 4] _ hR10)
  have B210 := Lib.hid (belowThen B29.out B29.out.size b10)
  have B310 := Lib.hid (belowThen B39.out B39.out.size b10)
  clear hrc hO10 hR10 hx1 hx2 c0 c1 c2
  go_wp2_with fail
  refine hs10.mono ?_
  rintro e w11 ⟨rfl, b11⟩
  have B211 := Lib.hid (belowThen B210.out B210.out.size b11)
  have B311 := Lib.hid (belowThen B310.out B310.out.size b11)
  obtain ⟨A3, c3, e3, _, _, _, hR3⟩ := HO3.out.rd
  subst e3
  have hs11 := (show Calls Try.prog 18 #[.slice A3 4 c3, .slice (some ⟨w11.heap.size, 0, none⟩) 4 4] (w11.alloc (.cells #[.int .i64 0, .int .i64 2, .int .i64 3, .int .i64 4] 3)) (fun e w' => e = .returned (.bool true) ∧ Below w11.heap.size w11 w') from same_lit w11 A3 c3 [0, 2, 3, 4] _ (hR3.below B311.out))
  clear hs10 b11 hR3
  go_wp2_with fail
  refine hs11.mono ?_
  rintro e w12 ⟨rfl, b12⟩
  have B212 := Lib.hid (belowThen B211.out B211.out.size b12)
  clear hs11 b12
  obtain ⟨c0, c1, c2⟩ := HC.out _ B212.out
  have he1 := edge_calls w12 _ 1 _ [dia] (HT.out _ B212.out) 0 2 4 (by decide)
  rw [hed, show decide (((2 : Int), (4 : Int)) ∈ dia) = true by decide] at he1
  go_wp2_with fail
  refine he1.mono ?_
  rintro e w13 ⟨rfl, b13⟩
  have B213 := Lib.hid (belowThen B212.out B212.out.size b13)
  clear he1 b13 c0 c1 c2
  obtain ⟨c0, c1, c2⟩ := HC.out _ B213.out
  have he2 := edge_calls w13 _ 1 _ [dia] (HT.out _ B213.out) 0 4 2 (by decide)
  rw [hed, show decide (((4 : Int), (2 : Int)) ∈ dia) = false by decide] at he2
  go_wp2_with fail
  refine he2.mono ?_
  rintro e w14 ⟨rfl, b14⟩
  have B214 := Lib.hid (belowThen B213.out B213.out.size b14)
  clear he2 b14 c0 c1 c2
  go_wp2_with fail
  go_ret
  exact ⟨rfl, belowThen B12.out B12.out.size B214.out⟩
end Go.Proofs.Ytgfnlfkbbedkaaa
