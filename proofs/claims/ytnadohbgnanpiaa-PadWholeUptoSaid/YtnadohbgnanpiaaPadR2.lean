/-
  The walk of the document's Take.
-/
import Derived.Test.YtnadohbgnanpiaaPadR1
namespace Go.Proofs.Ytnadohbgnanpiaa
open Go.RowKit

theorem rtake_bad (A : Option Addr) (n c : Nat) (g s : Int) (w : World) (h : ¬ okGS g s) :
    Calls Try.prog 18 #[.slice A n c, .int .i64 g, .int .i64 s] w fun e w' => e = .returned (.tuple #[.slice none 0 0, .int .i64 1]) ∧ Below w.heap.size w w' := by
  have H := Lib.hid h
  clear h
  go_enter Try.func18, Try.ntmps18
  go_wp2_with fail
  refine (rroom_bad g s w H.out).mono ?_
  rintro e w' ⟨rfl, rfl⟩
  go_wp2_with fail
  go_ret2
  exact ⟨rfl, Below.refl _ _⟩
theorem flat_next (ls : List (List UInt8)) (k : Nat) (h : k < ls.length) : (ls.take (k + 1)).flatten = (ls.take k).flatten ++ lrow ls k := by
  have e : ls.take (k + 1) = ls.take k ++ [lrow ls k] := by
    rw [List.take_add_one, lrow_eq ls k h]; simp [h]
  rw [e]
  simp
theorem be_next (xs : List UInt8) (k : Nat) (h : k < xs.length) : Wire.be (xs.take (k + 1)) = 256 * Wire.be (xs.take k) + byt xs k := by
  have e : xs.take (k + 1) = xs.take k ++ [xs[k]] := by rw [List.take_add_one]; simp [h]
  rw [e, Wire.be_snoc, byt_eq xs k h]
set_option maxHeartbeats 40000000 in
theorem rtake_calls (A : Option Addr) (n c a b P : Nat) (ls : List (List UInt8)) (w : World) (ok : Nat → Prop) (hr : RdBB w ok A n ls) (hab : a * b = P) (hP : ((a : Int) * (b : Int)) = (P : Int)) (h1 : 1 ≤ a) (h2 : a ≤ 255) (h3 : 1 ≤ b) (h4 : b ≤ 65535) (h5 : 4 < P) (h6 : P ≤ 16711425) :
    Calls Try.prog 18 #[.slice A n c, .int .i64 (a : Int), .int .i64 (b : Int)] w (RetTk w (Pad.takes ls a b)) := by
  have hroom := rroom_calls a b P w hP h1 h2 h3 h4 h5 h6
  obtain ⟨R, hR⟩ : ∃ R, P - 4 = R := ⟨_, rfl⟩
  rw [hR] at hroom
  have HR := Lib.hid hR
  have hR2 : R ≤ 16711421 := by omega
  have HAB := Lib.hid hab
  have HL := Lib.hid hr.len
  clear hR hab hP
  go_enter Try.func18, Try.ntmps18
  go_wp2_with fail
  refine hroom.mono ?_
  rintro e w' ⟨rfl, rfl⟩
  clear hroom
  by_cases hna : n = a
  · subst hna
    go_wp2_with fail
    go_loopw [10, 11] (fun v i wr => ∃ k : Nat, k ≤ n ∧ i = .int .i64 k ∧ OwnB wr w.heap.size v (ls.take k).flatten ∧ (ls.take k).flatten.length = k * b ∧ (∀ t, t < k → (lrow ls t).length = b) ∧ Below w.heap.size w wr) (fun _ i _ => n - (intOf i).toNat)
    case atStart => exact ⟨0, Nat.zero_le _, rfl, OwnB.nil _ _, by simp, fun t ht => absurd ht (by omega), Below.refl _ _⟩
    case round =>
      obtain ⟨k, hk, rfl, ho, hlen, hall, hbe⟩ := hrel
      have hrk := hr.below hbe
      by_cases hlt : k < n
      · obtain ⟨b1, o1, Aj, nj, cj, e1, _, _, k1, _, q1⟩ := hrk.at_ k hlt
        subst e1
        have hnj := q1.len
        have hkl : k < ls.length := by rw [HL.out]; exact hlt
        by_cases hs : nj = b
        · have hne : ((nj : Int) != (b : Int)) = false := by rw [bne_eq_false_iff_eq]; omega
          have hkb : k * b + b ≤ P := by rw [← HAB.out, ← Nat.succ_mul]; exact Nat.mul_le_mul_right _ hlt
          have hll : (ls.take k).flatten.length + nj ≤ 140737488355328 := by omega
          have hnext : ∀ t, t < k + 1 → (lrow ls t).length = b := fun t ht => by
            rcases Nat.lt_or_eq_of_le (Nat.le_of_lt_succ ht) with h1 | h1
            · exact hall t h1
            · rw [h1]; omega
          have HF := Lib.hid (flat_next ls k hkl)
          have hlen2 : (ls.take (k + 1)).flatten.length = (k + 1) * b := by rw [HF.out, List.length_append, hlen, Nat.succ_mul]; omega
          have HLEN := Lib.hid hlen2
          have hz := hbe.size
          clear hall hnj hs hkb hlen2 hlen hkl
          go_wp2_with (at_builtin; refine appB w.heap.size w.heap.size rfl _ _ rfl u10 (ls.take k).flatten (lrow ls k) Aj nj cj rfl rfl ho q1 hbe hz (Nat.le_refl _) hll ?_; intro v2 w2 ho2 hb2 _ _)
          go_roundw
          case rel => exact ⟨k + 1, by omega, by go_num, by rw [HF.out]; exact ho2, HLEN.out, hnext, hb2⟩
          case measure => simp [intOf]; omega
        · have hne : ((nj : Int) != (b : Int)) = true := by rw [bne_iff_ne]; omega
          have hF : Pad.takes ls n b = ([], 21) := by
            rw [Pad.takes, if_neg]
            have hno := all_found (fun x : List UInt8 => decide (x.length = b)) ls (lrow ls k) (by rw [lrow_eq ls k hkl]; exact List.getElem_mem _) (decide_eq_false (by rw [hnj]; exact hs))
            rw [Pad.fits, hno]
            simp
          have HF := Lib.hid hF
          clear hall hnj hs hF hlen hkl
          go_wp2_with fail
          go_ret2
          rw [HF.out]
          exact ⟨_, rfl, OwnB.nil _ _, hbe⟩
      · obtain rfl : k = n := by omega
        have htk : ls.take k = ls := List.take_of_length_le (by rw [HL.out]; exact Nat.le_refl _)
        rw [htk] at ho hlen
        have hfit : Pad.fits ls k b = true := by
          rw [Pad.fits, HL.out]
          simp only [decide_true, Bool.true_and, List.all_eq_true, decide_eq_true_eq]
          intro x hx
          obtain ⟨t, ht, e⟩ := List.getElem_of_mem hx
          have := hall t (by rw [← HL.out]; exact ht)
          rw [lrow_eq ls t ht, e] at this
          exact this
        have hT : Pad.takes ls k b = Pad.opened ls.flatten R := by rw [Pad.takes, if_pos hfit, HAB.out, HR.out]
        rw [HAB.out] at hlen
        obtain ⟨all, hall2⟩ : ∃ all, ls.flatten = all := ⟨_, rfl⟩
        rw [hall2] at ho hlen hT
        obtain ⟨A4, c4, rfl, hc4, r4⟩ := ho.rdn P hlen
        have HT := Lib.hid hT
        have HLEN := Lib.hid hlen
        clear htk hfit hT hall hall2 hlen ho hrk hr
        go_wp2_with fail
        go_loop [12, 13] (fun y i => ∃ t : Nat, t ≤ 4 ∧ i = .int .i64 t ∧ y = .int .i64 ((Wire.be (all.take t) : Nat) : Int)) (fun _ i => 4 - (intOf i).toNat)
        case atStart => exact ⟨0, by omega, rfl, rfl⟩
        case round =>
          obtain ⟨t, ht, rfl, rfl⟩ := hrel
          by_cases hlt4 : t < 4
          · obtain ⟨b1, o1, e1, k1⟩ := r4.at_ t (by omega)
            subst e1
            have hbl := Wire.be_lt (all.take t)
            have hbn := be_next all t (by rw [HLEN.out]; omega)
            have htl : (all.take t).length = t := by rw [List.length_take, HLEN.out]; omega
            have hp : 256 ^ t ≤ 256 ^ 3 := Nat.pow_le_pow_right (by omega) (by omega)
            rw [htl] at hbl
            have hbt := byt_lt all t
            have HBN := Lib.hid hbn
            have hyb : Wire.be (all.take t) < 16777216 := Nat.lt_of_lt_of_le hbl hp
            clear hbn hbl hp htl
            generalize Wire.be (all.take t) = y at *
            obtain ⟨z, hz⟩ : ∃ z, byt all t = z := ⟨_, rfl⟩
            have HZ := Lib.hid hz
            rw [hz] at k1 hbt
            clear hz
            go_wp2_with fail
            go_round
            case rel => exact ⟨t + 1, by omega, by go_num, by rw [HBN.out, HZ.out]; go_num⟩
            case measure => simp [intOf]; omega
          · obtain rfl : t = 4 := by omega
            have hbl := Wire.be_lt (all.take 4)
            have htl : (all.take 4).length = 4 := by rw [List.length_take, HLEN.out]; omega
            rw [htl] at hbl
            obtain ⟨N, hN⟩ : ∃ N, Wire.be (all.take 4) = N := ⟨_, rfl⟩
            rw [hN] at hbl ⊢
            have hNl : N < 4294967296 := by omega
            clear hbl htl
            by_cases hbad : N < 1 ∨ R < N
            · have hO : Pad.opened all R = ([], 5) := by rw [Pad.opened, hN, if_pos hbad]
              have HO := Lib.hid hO
              have hdone : RetTk w (Pad.takes ls k b) (.returned (.tuple #[.slice none 0 0, .int .i64 5])) wr := by
                rw [HT.out, HO.out]
                exact ⟨_, rfl, OwnB.nil _ _, hbe⟩
              clear hN hO
              rcases hbad with hlow | hhigh
              · obtain rfl : N = 0 := by omega
                go_wp2_with fail
                go_ret2
                exact hdone
              · have hl1 : ¬ (N : Int) < 1 := by omega
                have hl2 : (R : Int) < (N : Int) := by omega
                clear hhigh
                go_wp2_with fail
                go_ret2
                exact hdone
            · have hl1 : ¬ (N : Int) < 1 := by omega
              have hl2 : ¬ (R : Int) < (N : Int) := by omega
              have hNR : N ≤ R := by omega
              have hRP : R + 4 = P := by have := HR.out; omega
              have hO : Pad.opened all R = if (all.drop (4 + N)).any (fun b => b != 0) = true then ([], 5) else ((all.drop 4).take N, 0) := by rw [Pad.opened, hN, if_neg hbad]
              have HO := Lib.hid hO
              have HRP := Lib.hid hRP
              have hNP : 4 + N ≤ P := by omega
              clear hbad hN hO hRP
              go_wp2_with fail
              have hc4' : 4 ≤ 4 + N := by omega
              obtain ⟨A5, hrun5, hrd5⟩ := cut_run A4 P c4 4 (4 + N) hc4' hNP hc4
              have e45 : 4 + N - 4 = N := by omega
              have hq3 : ((4 + N : Nat) : Int) = 4 + (N : Int) := by omega
              have hq4 : ((4 : Nat) : Int) = 4 := rfl
              rw [e45] at hrun5 hrd5
              rw [hq3, hq4] at hrun5
              have hcut5 := hrun5 .i64 .i64
              have r5 := hrd5 _ _ _ r4
              have e5 : (all.take (4 + N)).drop 4 = (all.drop 4).take N := by
                rw [List.drop_take, e45]
              rw [e5] at r5
              clear hrun5 hrd5 e45 hq3 hq4 e5 hc4'
              go_loop [14] (fun i => ∃ t : Nat, 4 + N ≤ t ∧ t ≤ P ∧ i = .int .i64 t ∧ ∀ u, 4 + N ≤ u → u < t → byt all u = 0) (fun i => P - (intOf i).toNat)
              case atStart => exact ⟨4 + N, Nat.le_refl _, hNP, by go_num, fun u h1 h2 => absurd h2 (by omega)⟩
              case round =>
                obtain ⟨t, ht1, ht2, rfl, hz⟩ := hrel
                by_cases hltP : t < P
                · obtain ⟨b1, o1, e1, k1⟩ := r4.at_ t hltP
                  subst e1
                  have htx : t < all.length := by rw [HLEN.out]; exact hltP
                  have hbeq := byt_eq all t htx
                  obtain ⟨y, hy⟩ : ∃ y, byt all t = y := ⟨_, rfl⟩
                  rw [hy] at k1 hbeq
                  by_cases h0 : y = 0
                  · subst h0
                    have hnext : ∀ u, 4 + N ≤ u → u < t + 1 → byt all u = 0 := fun u hu1 hu2 => by
                      rcases Nat.lt_or_eq_of_le (Nat.le_of_lt_succ hu2) with h1 | h1
                      · exact hz u hu1 h1
                      · rw [h1, hy]
                    clear hz hy hbeq htx
                    go_wp2_with fail
                    go_round
                    case rel => exact ⟨t + 1, by omega, by omega, by go_num, hnext⟩
                    case measure => simp [intOf]; omega
                  · have hne : ((y : Int) != 0) = true := by rw [bne_iff_ne]; omega
                    have hany : (all.drop (4 + N)).any (fun b => b != 0) = true := List.any_eq_true.2 ⟨all[t], by
                      rw [List.mem_drop_iff_getElem]
                      exact ⟨t - (4 + N), by omega, by congr 1; omega⟩, by
                      rw [bne_iff_ne]
                      intro e
                      rw [e] at hbeq
                      exact h0 hbeq⟩
                    have hdone : RetTk w (Pad.takes ls k b) (.returned (.tuple #[.slice none 0 0, .int .i64 5])) wr := by
                      rw [HT.out, HO.out, if_pos hany]
                      exact ⟨_, rfl, OwnB.nil _ _, hbe⟩
                    clear hz hy hbeq htx h0 hany
                    go_wp2_with fail
                    go_ret2
                    exact hdone
                · obtain rfl : t = P := by omega
                  have hno : ¬ (all.drop (4 + N)).any (fun b => b != 0) = true := by
                    intro e
                    obtain ⟨v, hv, hv0⟩ := List.any_eq_true.1 e
                    rw [List.mem_drop_iff_getElem] at hv
                    obtain ⟨j, hj, rfl⟩ := hv
                    have hj2 := hz (4 + N + j) (by omega) (by rw [← HLEN.out]; omega)
                    rw [byt_eq all (4 + N + j) (by omega)] at hj2
                    rw [bne_iff_ne] at hv0
                    exact hv0 (UInt8.toNat_inj.1 hj2)
                  have hO2 : Pad.opened all R = ((all.drop 4).take N, 0) := by rw [HO.out, if_neg hno]
                  have HO2 := Lib.hid hO2
                  clear hz hno hO2
                  go_wp2_with fail
                  refine (own_calls A5 N (c4 - 4) _ wr _ r5 (by omega)).mono ?_
                  rintro e w2 ⟨v2, rfl, ho2, hb2⟩
                  go_wp2_with fail
                  go_ret2
                  rw [HT.out, HO2.out]
                  exact ⟨_, rfl, ho2.lower hbe.size, belowThen hbe hbe.size hb2⟩
  · have hnai : ((n : Int) != (a : Int)) = true := by rw [bne_iff_ne]; omega
    have hF : Pad.takes ls a b = ([], 21) := by
      rw [Pad.takes, if_neg]
      rw [Pad.fits, HL.out, decide_eq_false hna]
      simp
    have HF := Lib.hid hF
    clear hna hF
    go_wp2_with fail
    go_ret2
    rw [HF.out]
    exact ⟨_, rfl, OwnB.nil _ _, Below.refl _ _⟩
end Go.Proofs.Ytnadohbgnanpiaa
