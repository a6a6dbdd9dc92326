/-
  The walk of the document's Chunks.
-/
import Derived.Test.YtnadohbgnanpiaaPadC
import Derived.Test.YtnadohbgnanpiaaPadR2
namespace Go.Proofs.Ytnadohbgnanpiaa
open Go.RowKit

theorem rchunks_bad (A : Option Addr) (n c : Nat) (Ac : Option Addr) (m cc : Nat) (g s : Int) (w : World) (h : ¬ okGS g s) :
    Calls Try.prog 20 #[.slice A n c, .slice Ac m cc, .int .i64 g, .int .i64 s] w fun e w' => e = .returned (.tuple #[.slice none 0 0, .slice none 0 0, .int .i64 1]) ∧ Below w.heap.size w w' := by
  have H := Lib.hid h
  clear h
  go_enter Try.func20, Try.ntmps20
  go_wp2_with fail
  refine (rroom_bad g s w H.out).mono ?_
  rintro e w' ⟨rfl, rfl⟩
  go_wp2_with fail
  go_ret3
  exact ⟨rfl, Below.refl _ _⟩
theorem RdI.at2 {w : World} {ok : Nat → Prop} {A : Option Addr} {n : Nat} {zs : List Int} (h : RdI w ok A n zs) (j : Nat) (hj : j < n) : ∃ b o, A = some ⟨b, o, none⟩ ∧ w.cell? ⟨b, o + j, none⟩ = some (.int .i64 (zat zs j)) := h.at_ j hj
set_option maxHeartbeats 8000000 in
set_option maxRecDepth 20000 in
theorem rchunks_calls (A : Option Addr) (n c : Nat) (xs : List UInt8) (Ac : Option Addr) (m cc : Nat) (zs : List Int) (a b P : Nat) (w : World) (hr : RdB w (fun k => k < w.heap.size) A n xs) (hnc : n ≤ c) (hn : n ≤ 1099511627776) (hm : m ≤ 1099511627776) (hz : RdI w (fun k => k < w.heap.size) Ac m zs)
    (hP : ((a : Int) * (b : Int)) = (P : Int)) (h1 : 1 ≤ a) (h2 : a ≤ 255) (h3 : 1 ≤ b) (h4 : b ≤ 65535) (h5 : 4 < P) (h6 : P ≤ 16711425) :
    Calls Try.prog 20 #[.slice A n c, .slice Ac m cc, .int .i64 (a : Int), .int .i64 (b : Int)] w (RetCh w (chunkRes xs zs (P - 4))) := by
  have hroom := rroom_calls a b P w hP h1 h2 h3 h4 h5 h6
  obtain ⟨R, hR⟩ : ∃ R, P - 4 = R := ⟨_, rfl⟩
  rw [hR] at hroom ⊢
  have hR1 : 1 ≤ R := by omega
  have hR2 : R ≤ 16711421 := by omega
  have hxl := Lib.hid hr.len
  have hzl := Lib.hid hz.len
  clear hR hP
  go_enter Try.func20, Try.ntmps20
  go_wp2_with fail
  refine hroom.mono ?_
  rintro e w' ⟨rfl, rfl⟩
  clear hroom
  go_wp2_with fail
  go_loopw [13] (fun i wr => ∃ k : Nat, k ≤ m ∧ i = .int .i64 (k : Int) ∧ (∀ i, i < k → (0 ≤ zat zs i ∧ zat zs i ≤ (n : Int)) ∧ ∀ j, j < i → zat zs j ≤ zat zs i) ∧ Below w.heap.size w wr) (fun i _ => m - (intOf i).toNat)
  case atStart => exact ⟨0, Nat.zero_le _, rfl, fun i hi => absurd hi (by omega), Below.refl _ _⟩
  case round =>
    obtain ⟨k, hk, rfl, hV, hbe⟩ := hrel
    have hzr := hz.below hbe
    by_cases hlt : k < m
    · obtain ⟨b1, o1, e1, k1⟩ := hzr.at2 k hlt
      subst e1
      have hbad : (zat zs k < 0 ∨ (n : Int) < zat zs k ∨ (0 < k ∧ zat zs k < zat zs (k - 1))) → ∀ q, RetCh w (chunkRes xs zs R) (.returned (.tuple #[.slice none 0 0, .slice none 0 0, .int .i64 1])) (wr.drewN q) := fun h q => by
        rw [chunkRes_none xs zs R k (by rw [hzl.out]; exact hlt) _ (by rw [hxl.out]; exact h)]
        · exact ⟨_, _, rfl, OwnBB.nil _ _, OwnB.nil _ _, belowDrewN hbe q⟩
        · unfold prevOf
          split
          · exact Int.le_refl _
          · exact (hV (k - 1) (by omega)).1.1
      have hgood : 0 ≤ zat zs k → zat zs k ≤ (n : Int) → (0 < k → zat zs (k - 1) ≤ zat zs k) → ∀ i, i < k + 1 → (0 ≤ zat zs i ∧ zat zs i ≤ (n : Int)) ∧ ∀ j, j < i → zat zs j ≤ zat zs i := fun g1 g2 g3 i hi => by
        rcases Nat.lt_or_eq_of_le (Nat.le_of_lt_succ hi) with h1 | h1
        · exact hV i h1
        · subst h1
          refine ⟨⟨g1, g2⟩, fun j hj => ?_⟩
          have h2 := g3 (by omega)
          rcases Nat.lt_or_eq_of_le (show j ≤ i - 1 by omega) with h3 | h3
          · have := (hV (i - 1) (by omega)).2 j h3; omega
          · rw [h3]; exact h2
      obtain ⟨z, hzz⟩ : ∃ z, zat zs k = z := ⟨_, rfl⟩
      rw [hzz] at k1 hbad hgood
      clear hzz hV
      by_cases hneg : z < 0
      · have hd := hbad (.inl hneg)
        have HD := Lib.hid hd
        clear hbad hgood hd hzr
        go_wp2_with fail
        go_quiet (fail)
        go_wp2_with fail
        go_ret3
        exact HD.out _
      · have hz0 : 0 ≤ z := by omega
        have hb1 : (decide (z < 0)) = false := by rw [decide_eq_false_iff_not]; omega
        by_cases hbig : (n : Int) < z
        · have hd := hbad (.inr (.inl hbig))
          have HD := Lib.hid hd
          clear hbad hgood hd hzr
          go_wp2_with fail
          go_quiet (fail)
          go_wp2_with fail
          go_ret3
          exact HD.out _
        · have hb2 : (decide ((n : Int) < z)) = false := by rw [decide_eq_false_iff_not]; omega
          have hzn : z ≤ (n : Int) := by omega
          by_cases hk0 : 0 < k
          · obtain ⟨k', hk'⟩ : ∃ k', k - 1 = k' := ⟨_, rfl⟩
            have hk'' : (k : Int) - 1 = (k' : Int) := by omega
            obtain ⟨b2, o2, e2, k2⟩ := hzr.at2 k' (by omega)
            cases e2
            rw [hk'] at hbad hgood
            obtain ⟨y, hy⟩ : ∃ y, zat zs k' = y := ⟨_, rfl⟩
            rw [hy] at k2 hbad hgood
            have hk0i : 0 < (k : Int) := by omega
            have hb3 : (decide (0 < (k : Int))) = true := by rw [decide_eq_true_eq]; omega
            have hwk : IntKind.i64.wrap (k' : Int) = (k' : Int) := IntWalk.i64_in _ ⟨by omega, by omega⟩
            have hk'm : (k' : Int) < (m : Int) := by omega
            have hk'm2 : k' < m := by omega
            clear hk' hy
            by_cases hyz : z < y
            · have hd := hbad (.inr (.inr ⟨hk0, hyz⟩))
              have HD := Lib.hid hd
              clear hbad hgood hd hzr
              go_wp2_with fail
              go_quiet (fail)
              go_wp2_with fail
              go_ret3
              exact HD.out _
            · have hb4 : (decide (z < y)) = false := by rw [decide_eq_false_iff_not]; omega
              have hyz2 : y ≤ z := by omega
              have hg := hgood (by omega) (by omega) (fun _ => by omega)
              have HG := Lib.hid hg
              clear hbad hgood hg hzr
              go_wp2_with fail
              go_quiet (fail)
              go_wp2_with fail
              go_roundw
              case rel => exact ⟨k + 1, by omega, by go_num, HG.out, belowDrewN hbe nq⟩
              case measure => simp [intOf]; omega
          · obtain rfl : k = 0 := by omega
            have hg := hgood (by omega) (by omega) (fun h => absurd h hk0)
            have HG := Lib.hid hg
            have k1' : wr.cell? ⟨b1, o1, none⟩ = some (.int .i64 z) := k1
            clear hbad hgood hk0 hg hzr
            go_wp2_with fail
            go_quiet (fail)
            go_wp2_with fail
            go_roundw
            case rel => exact ⟨1, by omega, by go_num, HG.out, belowDrewN hbe nq⟩
            case measure => simp [intOf]; omega
    · obtain rfl : m = k := by omega
      have hVal : Valid xs.length zs := fun i hi => by rw [hxl.out]; exact hV i (by rw [← hzl.out]; exact hi)
      clear hV
      have hnz : zs.length = m := hzl.out
      have hres : chunkRes xs zs R = ((finCuts xs R zs ([], 0)).1, xs.drop (finCuts xs R zs ([], 0)).2, 0) := chunkRes_good xs zs R hVal
      have hst := RCI.start xs zs R hVal
      obtain ⟨goal, hgoal⟩ : ∃ goal, finCuts xs R zs ([], 0) = goal := ⟨_, rfl⟩
      rw [hgoal] at hres hst
      have HRES := Lib.hid hres
      clear hnz hres hgoal
      go_wp2_with fail
      go_loopw [14, 15, 16, 17] (fun v f k i wr => ∃ (kk q : Nat) (out : List (List UInt8)) (F : Nat), q ≤ n + 1 ∧ F ≤ n ∧ RCI xs zs R goal q kk (out, F) ∧ f = .int .i64 (F : Int) ∧ k = .int .i64 (kk : Int) ∧ i = .int .i64 (q : Int) ∧ OwnBB wr w.heap.size v out ∧ Below w.heap.size w wr) (fun _ _ _ i _ => n + 1 - (intOf i).toNat)
      case atStart => exact ⟨0, 0, [], 0, by omega, by omega, hst, rfl, rfl, rfl, OwnBB.nil _ _, hbe⟩
      case round =>
        obtain ⟨kk0, q, out, F, hq, hFn, hI0, rfl, rfl, rfl, ho, hbe2⟩ := hrel
        by_cases hqn1 : q ≤ n
        · have hqi : (q : Int) ≤ (n : Int) := by omega
          go_wp2_with fail
          go_loopw [16] (fun k wi => ∃ kk : Nat, k = .int .i64 (kk : Int) ∧ RCI xs zs R goal q kk (out, F) ∧ OwnBB wi w.heap.size u14 out ∧ Below w.heap.size w wi) (fun k _ => m - (intOf k).toNat)
          case atStart => exact ⟨kk0, rfl, hI0, ho, hbe2⟩
          case round =>
            obtain ⟨kk, rfl, hI, hoi, hbi⟩ := hrel
            clear hI0 ho hbe2 hst
            by_cases hkm : kk < m
            · obtain ⟨b1, o1, e1, k1⟩ := (hz.below hbi).at2 kk hkm
              subst e1
              obtain ⟨z, hzz⟩ : ∃ z, zat zs kk = z := ⟨_, rfl⟩
              rw [hzz] at k1
              have HZZ := Lib.hid hzz
              clear hzz
              by_cases hzq0 : z < (q : Int)
              · have hnx := hI.skip hR1 (by rw [hzl.out]; exact hkm) (by rw [HZZ.out]; exact hzq0)
                have HI := Lib.hid hnx
                clear hI hnx
                go_wp2_with fail
                go_roundw
                case rel => exact ⟨kk + 1, by go_num, HI.out, hoi, hbi⟩
                case measure => simp [intOf]; omega
              · have hkq : kk < zs.length → (q : Int) ≤ zat zs kk := fun _ => by rw [HZZ.out]; omega
                have hqz : (q : Int) ≤ z := by omega
                obtain ⟨d, hdd⟩ : ∃ d, q - F = d := ⟨_, rfl⟩
                have hdq : (q : Int) - (F : Int) = (d : Int) := by have := hI.le; simp only at this; omega
                have hd2 : d ≤ 1099511627776 := by omega
                have HDD := Lib.hid hdd
                by_cases hfull : d = R
                · have hq2 : q = F + R := by have := hI.le; simp only at this; omega
                  have hnx : RCI xs zs R goal (q + 1) kk (out ++ [(xs.take q).drop F], q) := hI.full hR1 hVal hkq hq2 (by rw [hxl.out]; omega)
                  have hbeq : ((d : Int) == (R : Int)) = true := by rw [beq_iff_eq]; omega
                  clear hq2 hfull hdd hkq
                  have hFq : F ≤ q := hI.le
                  have hqn : q ≤ n := by omega
                  obtain ⟨A5, hcut, hcr⟩ := cut_run A n c F q hFq hqn hnc
                  have hcut' := hcut .i64 .i64
                  have r5 := hcr wr _ _ (hr.below hbi)
                  rw [HDD.out] at hcut' r5
                  have hol := hI.len
                  simp only at hol
                  have holen : out.length ≤ 1099511627776 := by omega
                  have HI := Lib.hid hnx
                  clear hcut hcr hI hnx
                  go_wp2_with fail
                  refine (own_calls A5 d (c - F) _ wr _ r5 (by omega)).mono ?_
                  rintro e5 w5 ⟨v5, rfl, ho5, hb5⟩
                  obtain ⟨A6, c6, rfl, hc6, r6⟩ := ho5.rdn d r5.len
                  have hbw5 := stepBelow hbi hb5
                  have ho55 := hoi.below hb5
                  have hzi := hbi.size
                  have hz5 := hbw5.size
                  have holt := hoi.lt
                  have r66 : RdB w5 (fun k => w.heap.size ≤ k ∧ u14.ownBlock ≠ some k) A6 d ((xs.take q).drop F) := r6.mono fun x hx hl => ⟨by have := hx.1; omega, fun e => by have h1 := holt x e; have h2 := hx.1; omega⟩
                  clear r5 hb5 ho5 r6 hoi
                  go_wp2_with (at_builtin; go_loud (refine appBB (w0 := w) w.heap.size w.heap.size rfl _ _ rfl u14 out ((xs.take q).drop F) A6 d c6 rfl rfl ho55 hc6 r66 hbw5 hz5 (Nat.le_refl _) holen ?_); intro v7 w7 ho7 hb7 _ _)
                  go_roundw
                  case rel => exact ⟨kk, q + 1, out ++ [(xs.take q).drop F], q, by omega, hqn, HI.out, rfl, rfl, by go_num, ho7, hb7⟩
                  case measure => simp [intOf]; omega
                · have hq2 : q ≠ F + R := by have := hI.le; simp only at this; omega
                  have hbeq : ((d : Int) == (R : Int)) = false := by rw [beq_eq_false_iff_ne]; omega
                  clear hfull hdd
                  by_cases hFl : F < q
                  · have hFli : (F : Int) < (q : Int) := by omega
                    by_cases hzq : zat zs kk = (q : Int)
                    · have hzq2 : (z == (q : Int)) = true := by rw [beq_iff_eq, ← HZZ.out]; exact hzq
                      have hnx : RCI xs zs R goal (q + 1) kk (out ++ [(xs.take q).drop F], q) := hI.hand hR1 (by rw [hzl.out]; exact hkm) hzq hFl hq2
                      clear hzq hq2 hFl hkq
                      have hFq : F ≤ q := hI.le
                      have hqn : q ≤ n := by omega
                      obtain ⟨A5, hcut, hcr⟩ := cut_run A n c F q hFq hqn hnc
                      have hcut' := hcut .i64 .i64
                      have r5 := hcr wr _ _ (hr.below hbi)
                      rw [HDD.out] at hcut' r5
                      have hol := hI.len
                      simp only at hol
                      have holen : out.length ≤ 1099511627776 := by omega
                      have HI := Lib.hid hnx
                      clear hcut hcr hI hnx
                      go_wp2_with fail
                      refine (own_calls A5 d (c - F) _ wr _ r5 (by omega)).mono ?_
                      rintro e5 w5 ⟨v5, rfl, ho5, hb5⟩
                      obtain ⟨A6, c6, rfl, hc6, r6⟩ := ho5.rdn d r5.len
                      have hbw5 := stepBelow hbi hb5
                      have ho55 := hoi.below hb5
                      have hzi := hbi.size
                      have hz5 := hbw5.size
                      have holt := hoi.lt
                      have r66 : RdB w5 (fun k => w.heap.size ≤ k ∧ u14.ownBlock ≠ some k) A6 d ((xs.take q).drop F) := r6.mono fun x hx hl => ⟨by have := hx.1; omega, fun e => by have h1 := holt x e; have h2 := hx.1; omega⟩
                      clear r5 hb5 ho5 r6 hoi
                      go_wp2_with (at_builtin; go_loud (refine appBB (w0 := w) w.heap.size w.heap.size rfl _ _ rfl u14 out ((xs.take q).drop F) A6 d c6 rfl rfl ho55 hc6 r66 hbw5 hz5 (Nat.le_refl _) holen ?_); intro v7 w7 ho7 hb7 _ _)
                      go_roundw
                      case rel => exact ⟨kk, q + 1, out ++ [(xs.take q).drop F], q, by omega, hqn, HI.out, rfl, rfl, by go_num, ho7, hb7⟩
                      case measure => simp [intOf]; omega
                    · have hzq2 : (z == (q : Int)) = false := by rw [beq_eq_false_iff_ne, ← HZZ.out]; exact hzq
                      have hnx := hI.pass hVal hkq hq2 (fun _ _ => hzq)
                      clear hzq hq2 hFl hkq
                      have HI := Lib.hid hnx
                      clear hI hnx
                      go_wp2_with fail
                      go_roundw
                      case rel => exact ⟨kk, q + 1, out, F, by omega, hFn, HI.out, rfl, rfl, by go_num, hoi, hbi⟩
                      case measure => simp [intOf]; omega
                  · have hFli : ¬ (F : Int) < (q : Int) := by omega
                    have hnx := hI.pass hVal hkq hq2 (fun h _ => absurd h hFl)
                    clear hq2 hFl hkq
                    have HI := Lib.hid hnx
                    clear hI hnx
                    go_wp2_with fail
                    go_roundw
                    case rel => exact ⟨kk, q + 1, out, F, by omega, hFn, HI.out, rfl, rfl, by go_num, hoi, hbi⟩
                    case measure => simp [intOf]; omega
            · have hkz : ¬ kk < zs.length := by rw [hzl.out]; exact hkm
              have hkq : kk < zs.length → (q : Int) ≤ zat zs kk := fun h => absurd h hkz
              have hkmi : ¬ (kk : Int) < (m : Int) := by omega
              obtain ⟨d, hdd⟩ : ∃ d, q - F = d := ⟨_, rfl⟩
              have hdq : (q : Int) - (F : Int) = (d : Int) := by have := hI.le; simp only at this; omega
              have hd2 : d ≤ 1099511627776 := by omega
              have HDD := Lib.hid hdd
              by_cases hfull : d = R
              · have hq2 : q = F + R := by have := hI.le; simp only at this; omega
                have hnx : RCI xs zs R goal (q + 1) kk (out ++ [(xs.take q).drop F], q) := hI.full hR1 hVal hkq hq2 (by rw [hxl.out]; omega)
                have hbeq : ((d : Int) == (R : Int)) = true := by rw [beq_iff_eq]; omega
                clear hq2 hfull hdd hkq
                have hFq : F ≤ q := hI.le
                have hqn : q ≤ n := by omega
                obtain ⟨A5, hcut, hcr⟩ := cut_run A n c F q hFq hqn hnc
                have hcut' := hcut .i64 .i64
                have r5 := hcr wr _ _ (hr.below hbi)
                rw [HDD.out] at hcut' r5
                have hol := hI.len
                simp only at hol
                have holen : out.length ≤ 1099511627776 := by omega
                have HI := Lib.hid hnx
                clear hcut hcr hI hnx
                go_wp2_with fail
                refine (own_calls A5 d (c - F) _ wr _ r5 (by omega)).mono ?_
                rintro e5 w5 ⟨v5, rfl, ho5, hb5⟩
                obtain ⟨A6, c6, rfl, hc6, r6⟩ := ho5.rdn d r5.len
                have hbw5 := stepBelow hbi hb5
                have ho55 := hoi.below hb5
                have hzi := hbi.size
                have hz5 := hbw5.size
                have holt := hoi.lt
                have r66 : RdB w5 (fun k => w.heap.size ≤ k ∧ u14.ownBlock ≠ some k) A6 d ((xs.take q).drop F) := r6.mono fun x hx hl => ⟨by have := hx.1; omega, fun e => by have h1 := holt x e; have h2 := hx.1; omega⟩
                clear r5 hb5 ho5 r6 hoi
                go_wp2_with (at_builtin; go_loud (refine appBB (w0 := w) w.heap.size w.heap.size rfl _ _ rfl u14 out ((xs.take q).drop F) A6 d c6 rfl rfl ho55 hc6 r66 hbw5 hz5 (Nat.le_refl _) holen ?_); intro v7 w7 ho7 hb7 _ _)
                go_roundw
                case rel => exact ⟨kk, q + 1, out ++ [(xs.take q).drop F], q, by omega, hqn, HI.out, rfl, rfl, by go_num, ho7, hb7⟩
                case measure => simp [intOf]; omega
              · have hq2 : q ≠ F + R := by have := hI.le; simp only at this; omega
                have hbeq : ((d : Int) == (R : Int)) = false := by rw [beq_eq_false_iff_ne]; omega
                clear hfull hdd
                have hnx := hI.pass hVal hkq hq2 (fun _ h => absurd h hkz)
                by_cases hFl : F < q
                · have hFli : (F : Int) < (q : Int) := by omega
                  clear hq2 hFl hkq
                  have HI := Lib.hid hnx
                  clear hI hnx
                  go_wp2_with fail
                  go_roundw
                  case rel => exact ⟨kk, q + 1, out, F, by omega, hFn, HI.out, rfl, rfl, by go_num, hoi, hbi⟩
                  case measure => simp [intOf]; omega
                · have hFli : ¬ (F : Int) < (q : Int) := by omega
                  clear hq2 hFl hkq
                  have HI := Lib.hid hnx
                  clear hI hnx
                  go_wp2_with fail
                  go_roundw
                  case rel => exact ⟨kk, q + 1, out, F, by omega, hFn, HI.out, rfl, rfl, by go_num, hoi, hbi⟩
                  case measure => simp [intOf]; omega
        · obtain rfl : q = n + 1 := by omega
          have hqi : ¬ ((n + 1 : Nat) : Int) ≤ (n : Int) := by omega
          have hxl2 := hxl.out
          have hg : goal = (out, F) := by
            rw [← hxl2] at hI0
            exact hI0.done hR1 hVal
          have hol := hI0.len
          rw [hg] at HRES
          obtain ⟨A5, hcut, hcr⟩ := cutFrom_run A n c F hFn hnc
          have hcut' := hcut .i64
          have r5 := hcr wr _ _ (hr.below hbe2)
          clear hcut hcr hg hxl2 hI0 hst hq
          go_wp2_with fail
          refine (own_calls A5 (n - F) (c - F) (xs.drop F) wr _ r5 (by omega)).mono ?_
          rintro e5 w5 ⟨v5, rfl, ho5, hb5⟩
          go_wp2_with fail
          go_ret3
          rw [HRES.out]
          exact ⟨_, _, rfl, ho.below hb5, ho5.lower hbe2.size, stepBelow hbe2 hb5⟩
end Go.Proofs.Ytnadohbgnanpiaa
