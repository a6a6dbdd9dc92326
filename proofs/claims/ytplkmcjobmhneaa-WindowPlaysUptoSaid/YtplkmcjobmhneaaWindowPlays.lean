/-
  The walk of WindowPlays.
-/
import Derived.Test.YtplkmcjobmhneaaWinP
namespace Go.Proofs.Ytplkmcjobmhneaa
open Go.RowKit

theorem idx4_0 (a b c d : Value) (W : World) : (Instr.index 37 (.agg #[a, b, c, d]) (.int .i64 0)).run Try.prog W = .ok a W := by
  simp [Instr.index, run_underlying Try.underlying37, go_sem]
theorem idx4_1 (a b c d : Value) (W : World) : (Instr.index 37 (.agg #[a, b, c, d]) (.int .i64 1)).run Try.prog W = .ok b W := by
  simp [Instr.index, run_underlying Try.underlying37, go_sem]
theorem idx4_2 (a b c d : Value) (W : World) : (Instr.index 37 (.agg #[a, b, c, d]) (.int .i64 2)).run Try.prog W = .ok c W := by
  simp [Instr.index, run_underlying Try.underlying37, go_sem]
theorem idx4_3 (a b c d : Value) (W : World) : (Instr.index 37 (.agg #[a, b, c, d]) (.int .i64 3)).run Try.prog W = .ok d W := by
  simp [Instr.index, run_underlying Try.underlying37, go_sem]
theorem wrapU (z : Int) : IntKind.u64.wrap z = z % 18446744073709551616 := by
  simp [IntKind.wrap, IntKind.bits, IntKind.signed]
set_option maxRecDepth 100000 in
set_option maxHeartbeats 4000000 in
theorem windowPlays_bad (w : World) (wd : Int) (A : Option Addr) (m c : Nat) (n : Nat) (hw : wd < 1 ∨ 16 < wd) :
    Calls Try.prog 3 #[.int .i64 wd, .slice A m c, .int .u64 (n : Int)] w fun e w' => e = .returned (.bool true) ∧ Below w.heap.size w w' := by
  have HW := Lib.hid hw
  clear hw
  go_enter Try.func3, Try.ntmps3
  go_wp2_with fail
  refine (new_bad wd w HW.out).mono ?_
  rintro e w1 ⟨rfl, rfl⟩
  go_wp2_with fail
  refine (rnew_bad wd w HW.out).mono ?_
  rintro e w1 ⟨rfl, rfl⟩
  go_wp2_with fail
  refine (wakes_calls w).mono ?_
  rintro e w1 ⟨rfl, hb⟩
  go_wp2_with fail
  go_ret
  exact ⟨rfl, hb⟩
set_option maxRecDepth 100000 in
set_option maxHeartbeats 4000000 in
theorem windowPlays_good (w : World) (wd : Nat) (A : Option Addr) (m c : Nat) (xs : List Nat) (n : Nat) (h1 : 1 ≤ wd) (h16 : wd ≤ 16) (hr : RdU w (fun k => k < w.heap.size) A m xs) (hm : m ≤ 1048576) (hc : m ≤ c) (hx : ∀ x ∈ xs, x ≤ 18446744073709551615) (_hn : n ≤ 18446744073709551615) :
    Calls Try.prog 3 #[.int .i64 (wd : Int), .slice A m c, .int .u64 (n : Int)] w fun e w' => e = .returned (.bool true) ∧ Below w.heap.size w w' := by
  go_enter Try.func3, Try.ntmps3
  go_wp2_with fail
  refine (new_calls wd w h1 h16).mono ?_
  rintro e w1 ⟨g, rfl, hg, hW1, hB1⟩
  go_wp2_with fail
  refine (rnew_calls wd w1 h1 h16).mono ?_
  rintro e w2 ⟨gx, rfl, hgx, hX2, hb⟩
  have hB2 := stepBelow hB1 hb
  have hW2 := hW1.below hb
  have hgg : g < w1.heap.size := hW1.2.2.2.1
  have hg1 : w.heap.size ≤ w1.heap.size := hB1.size
  clear hb hW1 hB1
  go_wp2_with fail
  refine (wakes_calls w2).mono ?_
  rintro e w3 ⟨rfl, hb⟩
  have hB3 := stepBelow hB2 hb
  have hW3 := hW2.below hb
  have hX3 := hX2.below hb
  clear hb hB2 hW2 hX2
  go_wp2_with fail
  go_loopw [11] (fun i wr => ∃ k b : Nat, k ≤ m ∧ k ≤ 40 ∧ i = .int .i64 k ∧ Win wr g b wd ∧ Win wr gx b wd ∧ Below w.heap.size w wr) (fun i _ => 40 - (intOf i).toNat)
  case atStart => exact ⟨0, 0, Nat.zero_le _, by omega, rfl, hW3, hX3, hB3⟩
  case round =>
    obtain ⟨k, b, hk, hk40, rfl, hWr, hXr, hBr⟩ := hrel
    clear hW3 hX3 hB3
    by_cases hlt : k < m
    · by_cases hlt4 : k < 40
      · have hkx : k < xs.length := by rw [hr.len]; exact hlt
        have hxb : nth xs k ≤ 18446744073709551615 := by rw [nth_eq xs k hkx]; exact hx _ (List.getElem_mem hkx)
        have hrr := hr.below hBr
        obtain ⟨b1, o1, e1, ho1, k1⟩ := hrr.atk k hlt
        subst e1
        obtain ⟨x, hxe⟩ : ∃ x, nth xs k = x := ⟨_, rfl⟩
        rw [hxe] at k1 hxb
        have HXE := Lib.hid hxe
        obtain ⟨y, hy⟩ : ∃ y, x / 2 = y := ⟨_, rfl⟩
        have hdiv : (x : Int).tdiv 2 = (y : Int) := by rw [Int.tdiv_eq_ediv_of_nonneg (by omega)]; omega
        have hdiv2 : (x : Int) / 2 = (y : Int) := by omega
        clear hy hxe
        have hgs : g < wr.heap.size := hWr.2.2.2.1
        have hgxs : gx < wr.heap.size := hXr.2.2.2.1
        have hbl : b1 < w.heap.size := ho1
        go_wp2_with fail
        refine (copy_calls g b wd wr hWr).mono ?_
        rintro e w4 ⟨gc, rfl, hgc, hC4, hb⟩
        have hW4 := hWr.below hb
        have hX4 := hXr.below hb
        have hB4 := stepBelow hBr hb
        have k4 := cellBelow hb k1
        have hs4 := hb.size
        clear hb
        go_wp2_with fail
        refine (move_to gc b wd y w4 hC4).mono ?_
        rintro e w5 ⟨v5, rfl, _, _, hg5⟩
        have hW5 := hW4.grown hg5 (fun k e => by cases e; omega)
        have hX5 := hX4.grown hg5 (fun k e => by cases e; omega)
        have hB5 : Below w.heap.size w w5 := hB4.grown hg5 hB4.size (fun k e => by cases e; have := hBr.size; omega)
        have k5 := hg5.cell k4 (by simp; have := hBr.size; omega)
        have hs45 := hg5.size
        clear hg5 hW4 hX4 hB4 k4 hC4
        go_wp2_with fail
        refine (move_to g b wd x w5 hW5).mono ?_
        rintro e w6 ⟨v6, rfl, ho6, hW6, hg6⟩
        have hX6 := hX5.grown hg6 (fun k e => by cases e; omega)
        have hB6 : Below w.heap.size w w6 := hB5.grown hg6 hB5.size (fun k e => by cases e; omega)
        have k6 := hg6.cell k5 (by simp; omega)
        have h56 := hg6.size
        have hs5 := hB5.size
        clear hg6 hW5 hX5 hB5 k5
        go_wp2_with fail
        refine (rmove_to gx b wd x w6 hX6).mono ?_
        rintro e w7 ⟨v7, rfl, ho7, hX7, hg7⟩
        have hW7 := hW6.grown hg7 (fun k e => by cases e; omega)
        have hB7 : Below w.heap.size w w7 := hB6.grown hg7 hB6.size (fun k e => by cases e; omega)
        have k7 := hg7.cell k6 (by simp; omega)
        have ho67 := ho6.grown hg7 (fun q hq e => by cases e; have := (ho6.lt gx hq).1; omega)
        clear hg7 hW6 hX6 hB6 k6 ho6
        obtain ⟨p1, hp1⟩ : ∃ p1 : Nat, IntKind.u64.wrap ((x : Int) + (wd : Int)) = (p1 : Int) := ⟨((x : Int) + (wd : Int)).toNat % 18446744073709551616, by rw [wrapU]; omega⟩
        obtain ⟨p2, hp2⟩ : ∃ p2 : Nat, IntKind.u64.wrap ((x : Int) - 1) = (p2 : Int) := ⟨(((x : Int) - 1) % 18446744073709551616).toNat, by rw [wrapU]; omega⟩
        have hwd : IntKind.u64.wrap (wd : Int) = (wd : Int) := IntWalk.u64_in _ ⟨by omega, by omega⟩
        go_wp2_with fail
        go_quiet (fail)
        go_wp2_with fail
        have hW8 : Win (w7.drewN nq) g (toOf b x) wd := hW7
        have hX8 : Win (w7.drewN nq) gx (toOf b x) wd := hX7
        have ho8 : OwnU (w7.drewN nq) w6.heap.size v7 (goOf b x wd) := ho7
        have ho68 : OwnU (w7.drewN nq) w5.heap.size v6 (goOf b x wd) := ho67
        have hB8 := belowDrewN hB7 nq
        obtain ⟨w8, hw8⟩ : ∃ w8, w7.drewN nq = w8 := ⟨_, rfl⟩
        rw [hw8] at hW8 hX8 ho8 ho68 hB8 ⊢
        obtain ⟨Z, hZ⟩ : ∃ Z, (goOf b x wd).length = Z := ⟨_, rfl⟩
        obtain ⟨A6, c6, rfl, _, s6⟩ := ho68.rdn Z hZ
        obtain ⟨A7, c7, rfl, _, s7⟩ := ho8.rdn Z hZ
        clear hw8 hW7 hX7 ho7 ho67 hB7 hZ ho8 ho68 k7
        go_loopw [99] (fun j wr2 => ∃ t : Nat, t ≤ 4 ∧ j = .int .i64 t ∧ Win wr2 g (toOf b x) wd ∧ Win wr2 gx (toOf b x) wd ∧ Below w8.heap.size w8 wr2) (fun j _ => 4 - (intOf j).toNat)
        case atStart => exact ⟨0, by omega, rfl, hW8, hX8, Below.refl _ _⟩
        case round =>
          obtain ⟨t, ht, rfl, hWs, hXs, hbs⟩ := hrel
          clear hW8 hX8
          rcases (by omega : t = 0 ∨ t = 1 ∨ t = 2 ∨ t = 3 ∨ t = 4) with rfl | rfl | rfl | rfl | rfl
          · have hix := idx4_0 (.int .u64 (n : Int)) (.int .u64 (x : Int)) (.int .u64 (p1 : Int)) (.int .u64 (p2 : Int))
            go_wp2_with fail
            refine (slot_any g (toOf b x) wd n wr hWs).mono ?_
            rintro e wa ⟨rfl, hb⟩
            have hWa := hWs.below hb
            have hXa := hXs.below hb
            have hBa := stepBelow hbs hb
            clear hb hWs hXs hbs
            go_wp2_with fail
            refine (rslot_any gx (toOf b x) wd n wa hXa).mono ?_
            rintro e wb ⟨rfl, hb⟩
            have hWb := hWa.below hb
            have hXb := hXa.below hb
            have hBb := stepBelow hBa hb
            clear hb hWa hXa hBa
            go_wp2_with fail
            refine (in_any g (toOf b x) wd n wb hWb).mono ?_
            rintro e wc ⟨rfl, hb⟩
            have hWc := hWb.below hb
            have hXc := hXb.below hb
            have hBc := stepBelow hBb hb
            clear hb hWb hXb hBb
            go_wp2_with fail
            refine (rin_calls gx (toOf b x) wd n wc hXc).mono ?_
            rintro e wd2 ⟨rfl, hb⟩
            have hWd := hWc.below hb
            have hXd := hXc.below hb
            have hBd := stepBelow hBc hb
            clear hb hWc hXc hBc
            go_wp2_with fail
            go_roundw
            case rel => exact ⟨1, by omega, by go_num, hWd, hXd, hBd⟩
            case measure => simp [intOf]
          · have hix := idx4_1 (.int .u64 (n : Int)) (.int .u64 (x : Int)) (.int .u64 (p1 : Int)) (.int .u64 (p2 : Int))
            go_wp2_with fail
            refine (slot_any g (toOf b x) wd x wr hWs).mono ?_
            rintro e wa ⟨rfl, hb⟩
            have hWa := hWs.below hb
            have hXa := hXs.below hb
            have hBa := stepBelow hbs hb
            clear hb hWs hXs hbs
            go_wp2_with fail
            refine (rslot_any gx (toOf b x) wd x wa hXa).mono ?_
            rintro e wb ⟨rfl, hb⟩
            have hWb := hWa.below hb
            have hXb := hXa.below hb
            have hBb := stepBelow hBa hb
            clear hb hWa hXa hBa
            go_wp2_with fail
            refine (in_any g (toOf b x) wd x wb hWb).mono ?_
            rintro e wc ⟨rfl, hb⟩
            have hWc := hWb.below hb
            have hXc := hXb.below hb
            have hBc := stepBelow hBb hb
            clear hb hWb hXb hBb
            go_wp2_with fail
            refine (rin_calls gx (toOf b x) wd x wc hXc).mono ?_
            rintro e wd2 ⟨rfl, hb⟩
            have hWd := hWc.below hb
            have hXd := hXc.below hb
            have hBd := stepBelow hBc hb
            clear hb hWc hXc hBc
            go_wp2_with fail
            go_roundw
            case rel => exact ⟨2, by omega, by go_num, hWd, hXd, hBd⟩
            case measure => simp [intOf]
          · have hix := idx4_2 (.int .u64 (n : Int)) (.int .u64 (x : Int)) (.int .u64 (p1 : Int)) (.int .u64 (p2 : Int))
            go_wp2_with fail
            refine (slot_any g (toOf b x) wd p1 wr hWs).mono ?_
            rintro e wa ⟨rfl, hb⟩
            have hWa := hWs.below hb
            have hXa := hXs.below hb
            have hBa := stepBelow hbs hb
            clear hb hWs hXs hbs
            go_wp2_with fail
            refine (rslot_any gx (toOf b x) wd p1 wa hXa).mono ?_
            rintro e wb ⟨rfl, hb⟩
            have hWb := hWa.below hb
            have hXb := hXa.below hb
            have hBb := stepBelow hBa hb
            clear hb hWa hXa hBa
            go_wp2_with fail
            refine (in_any g (toOf b x) wd p1 wb hWb).mono ?_
            rintro e wc ⟨rfl, hb⟩
            have hWc := hWb.below hb
            have hXc := hXb.below hb
            have hBc := stepBelow hBb hb
            clear hb hWb hXb hBb
            go_wp2_with fail
            refine (rin_calls gx (toOf b x) wd p1 wc hXc).mono ?_
            rintro e wd2 ⟨rfl, hb⟩
            have hWd := hWc.below hb
            have hXd := hXc.below hb
            have hBd := stepBelow hBc hb
            clear hb hWc hXc hBc
            go_wp2_with fail
            go_roundw
            case rel => exact ⟨3, by omega, by go_num, hWd, hXd, hBd⟩
            case measure => simp [intOf]
          · have hix := idx4_3 (.int .u64 (n : Int)) (.int .u64 (x : Int)) (.int .u64 (p1 : Int)) (.int .u64 (p2 : Int))
            go_wp2_with fail
            refine (slot_any g (toOf b x) wd p2 wr hWs).mono ?_
            rintro e wa ⟨rfl, hb⟩
            have hWa := hWs.below hb
            have hXa := hXs.below hb
            have hBa := stepBelow hbs hb
            clear hb hWs hXs hbs
            go_wp2_with fail
            refine (rslot_any gx (toOf b x) wd p2 wa hXa).mono ?_
            rintro e wb ⟨rfl, hb⟩
            have hWb := hWa.below hb
            have hXb := hXa.below hb
            have hBb := stepBelow hBa hb
            clear hb hWa hXa hBa
            go_wp2_with fail
            refine (in_any g (toOf b x) wd p2 wb hWb).mono ?_
            rintro e wc ⟨rfl, hb⟩
            have hWc := hWb.below hb
            have hXc := hXb.below hb
            have hBc := stepBelow hBb hb
            clear hb hWb hXb hBb
            go_wp2_with fail
            refine (rin_calls gx (toOf b x) wd p2 wc hXc).mono ?_
            rintro e wd2 ⟨rfl, hb⟩
            have hWd := hWc.below hb
            have hXd := hXc.below hb
            have hBd := stepBelow hBc hb
            clear hb hWc hXc hBc
            go_wp2_with fail
            go_roundw
            case rel => exact ⟨4, by omega, by go_num, hWd, hXd, hBd⟩
            case measure => simp [intOf]
          · have hB9 := stepBelow hB8 hbs
            have s6' := s6.below hbs
            have s7' := s7.below hbs
            clear s6 s7 hB8 hbs
            go_wp2_with fail
            obtain ⟨b2, hb2⟩ : ∃ b2, toOf b x = b2 := ⟨_, rfl⟩
            rw [hb2] at hWs hXs
            have qs0 := hXs.2.2.2.2.1
            have qs1 := hXs.2.2.2.2.2.1
            clear hb2
            obtain ⟨EL, hEL'⟩ : ∃ EL, (els b2 wd).length = EL := ⟨_, rfl⟩
            have HEL := Lib.hid hEL'
            have hEL : ∀ _ : Unit, (els b2 wd).length = EL := fun _ => hEL'
            clear hEL'
            have s6d : RdU wr.drew _ A6 Z (goOf b x wd) := s6'.drew
            have s7d : RdU wr.drew _ A7 Z (goOf b x wd) := s7'.drew
            have hWsd : Win wr.drew g b2 wd := hWs
            have hXsd : Win wr.drew gx b2 wd := hXs
            have hBsd : Below w.heap.size w wr.drew := hB9.drew
            go_region_held3 (fun w' => w'.cell? ⟨gx, 0, none⟩ = some (.int .u64 (b2 : Int)) ∧ w'.cell? ⟨gx, 1, none⟩ = some (.int .i64 (wd : Int)))
              (first | exact ⟨qf0, qf1⟩ | exact ⟨qe0, qe1⟩ | exact ⟨qc0, qc1⟩ | exact ⟨qb0, qb1⟩ | exact ⟨qa0, qa1⟩ | exact ⟨qs0, qs1⟩)
              (first
              | (go_at_call 15; (with_reducible refine (weakD (same_eq A6 A7 Z c6 c7 (goOf b x wd) wr.drew _ _ s6d s7d)).mono ?_); rintro e wa ⟨rfl, hb⟩; have hWa := Win.below hWsd hb; have hXa := Win.below hXsd hb; have hBa := stepBelow hBsd hb; have qa0 := hXa.2.2.2.2.1; have qa1 := hXa.2.2.2.2.2.1; clear hb)
              | (go_at_call 16; (with_reducible refine (base_calls g b2 wd wa hWa).mono ?_); rintro e w' ⟨rfl, rfl⟩)
              | (go_at_call 17; (with_reducible refine (weakD (end_calls g b2 wd wa hWa)).mono ?_); rintro e wb ⟨rfl, hb⟩; have hWb := Win.below hWa hb; have hXb := Win.below hXa hb; have hBb := stepBelow hBa hb; have qb0 := hXb.2.2.2.2.1; have qb1 := hXb.2.2.2.2.2.1; clear hb)
              | (go_at_call 18; (with_reducible refine (rend_calls gx b2 wd wb hXb).mono ?_); rintro e wc ⟨rfl, hb⟩; have hWc := Win.below hWb hb; have hXc := Win.below hXb hb; have hBc := stepBelow hBb hb; have qc0 := hXc.2.2.2.2.1; have qc1 := hXc.2.2.2.2.2.1; clear hb)
              | (go_at_call 19; (with_reducible refine (width_calls g b2 wd wc hWc).mono ?_); rintro e w' ⟨rfl, rfl⟩)
              | (go_at_call 20; (with_reducible refine (all_calls g b2 wd wc hWc).mono ?_); rintro e we ⟨ve, rfl, hoe, hb⟩; have hWe := Win.below hWc hb; have hXe := Win.below hXc hb; have hBe := stepBelow hBc hb; have qe0 := hXe.2.2.2.2.1; have qe1 := hXe.2.2.2.2.2.1; clear hb)
              | (go_at_call 21; (with_reducible refine (rall_calls gx b2 wd we hXe).mono ?_); rintro e wf ⟨vf, rfl, hof, hb⟩; have hWf := Win.below hWe hb; have hXf := Win.below hXe hb; have hBf := stepBelow hBe hb; have hoe2 := OwnU.below hoe hb; have qf0 := hXf.2.2.2.2.1; have qf1 := hXf.2.2.2.2.2.1; obtain ⟨Ae, ce, rfl, _, se⟩ := hoe2.rdn EL (hEL ()); obtain ⟨Af, cf, rfl, _, sf⟩ := hof.rdn EL (hEL ()); clear hb)
              | (go_at_call 15; (with_reducible refine (weakD (same_eq Ae Af EL ce cf (els b2 wd) wf _ _ se sf)).mono ?_); rintro e wg ⟨rfl, hb⟩; have hWg := Win.below hWf hb; have hXg := Win.below hXf hb; have hBg := stepBelow hBf hb; have qf0 := hXg.2.2.2.2.1; have qf1 := hXg.2.2.2.2.2.1; clear hb))
            all_goals
              clear hWa hXa hBa hWb hXb hBb hWc hXc hBc hWe hXe hBe hWf hXf hBf s6d s7d hWsd hXsd hBsd
              go_wp2_with fail
              go_roundw
              case rel => exact ⟨k + 1, b2, by omega, by omega, by go_num, hWg, hXg, hBg⟩
              case measure => simp [intOf]; omega
      · obtain rfl : k = 40 := by omega
        go_wp2_with fail
        go_ret
        exact ⟨rfl, hBr⟩
    · obtain rfl : k = m := by omega
      go_wp2_with fail
      go_ret
      exact ⟨rfl, hBr⟩
theorem windowPlays_walk (w : World) (wd : Int) (A : Option Addr) (m c : Nat) (xs : List Nat) (n : Nat) (_h1 : -9223372036854775808 ≤ wd) (_h2 : wd ≤ 9223372036854775807) (hr : RdU w (fun k => k < w.heap.size) A m xs) (hm : m ≤ 1048576) (hc : m ≤ c) (hx : ∀ x ∈ xs, x ≤ 18446744073709551615) (hn : n ≤ 18446744073709551615) :
    Calls Try.prog 3 #[.int .i64 wd, .slice A m c, .int .u64 (n : Int)] w fun e w' => e = .returned (.bool true) ∧ Below w.heap.size w w' := by
  by_cases h : wd < 1 ∨ 16 < wd
  · exact windowPlays_bad w wd A m c n h
  · obtain ⟨k, rfl⟩ : ∃ k : Nat, wd = (k : Int) := ⟨wd.toNat, by omega⟩
    exact windowPlays_good w k A m c xs n (by omega) (by omega) hr hm hc hx hn
end Go.Proofs.Ytplkmcjobmhneaa
