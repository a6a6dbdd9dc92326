/-
  The walk of pad.Take.
-/
import Derived.Test.YtnadohbgnanpiaaPad5
namespace Go.Proofs.Ytnadohbgnanpiaa
open Go.RowKit

theorem take_bad (A : Option Addr) (n c : Nat) (g s : Int) (w : World) (h : ¬ okGS g s) :
    Calls Try.prog 11 #[.slice A n c, .int .i64 g, .int .i64 s] w fun e w' => e = .returned (.tuple #[.slice none 0 0, .int .i64 1]) ∧ Below w.heap.size w w' := by
  have H := Lib.hid h
  clear h
  go_enter Try.func11, Try.ntmps11
  go_wp2_with fail
  refine (room_bad g s _ H.out).mono ?_
  rintro e w' ⟨rfl, rfl⟩
  go_wp2_with fail
  go_ret2
  exact ⟨rfl, (Below.refl _ _).alloc (Nat.le_refl _) _⟩
/-- What Take leaves. -/
def RetTk (w : World) (r : List UInt8 × Nat) (e : Ending) (w' : World) : Prop := ∃ v, e = .returned (.tuple #[v, .int .i64 (r.2 : Int)]) ∧ OwnB w' w.heap.size v r.1 ∧ Below w.heap.size w w'
set_option maxHeartbeats 2000000 in
theorem ptake_calls (A : Option Addr) (n c a b P : Nat) (ls : List (List UInt8)) (w : World) (ok : Nat → Prop) (hr : RdBB w ok A n ls) (hc : n ≤ c) (hab : a * b = P) (hP : ((a : Int) * (b : Int)) = (P : Int)) (h1 : 1 ≤ a) (h2 : a ≤ 255) (h3 : 1 ≤ b) (h4 : b ≤ 65535) (h5 : 4 < P) (h6 : P ≤ 16711425) :
    Calls Try.prog 11 #[.slice A n c, .int .i64 (a : Int), .int .i64 (b : Int)] w (RetTk w (Pad.takes ls a b)) := by
  obtain ⟨wS, hwS⟩ : ∃ wS, w.alloc (.cells #[.int .i64 (b : Int)] 3) = wS := ⟨_, rfl⟩
  have hroom := room_calls a b P wS hP h1 h2 h3 h4 h5 h6
  obtain ⟨R, hR⟩ : ∃ R, P - 4 = R := ⟨_, rfl⟩
  rw [hR] at hroom
  have hbS : Below w.heap.size w wS := by rw [← hwS]; exact (Below.refl _ _).alloc (Nat.le_refl _) _
  have hcB : wS.cell? ⟨w.heap.size, 0, none⟩ = some (.int .i64 (b : Int)) := by rw [← hwS]; exact World.cell?_alloc_new _ _ _ 0
  have hrS := hr.below hbS
  have hln := hr.len
  have HWS := Lib.hid hwS
  have HR := Lib.hid hR
  have HLN := Lib.hid hln
  have HP := Lib.hid hP
  have HAB := Lib.hid hab
  have hRi : R ≤ 16711421 := by omega
  have hwR : IntKind.u64.wrap (R : Int) = (R : Int) := IntWalk.u64_in _ ⟨by omega, by omega⟩
  clear hP hab hwS hr hR hln
  go_enter Try.func11, Try.ntmps11
  go_wp2_with fail
  rw [HWS.out]
  refine hroom.mono ?_
  rintro e w' ⟨rfl, rfl⟩
  clear hroom
  by_cases hna : n = a
  · have hnai : ((n : Int) != (a : Int)) = false := by rw [bne_eq_false_iff_eq]; omega
    have hsym := has_sym A n c w.heap.size b ls wS _ hrS hcB
    cases hfit : (ls.all fun x => decide (x.length = b)) with
    | false =>
      have hF : Pad.takes ls a b = ([], 21) := by
        rw [Pad.takes, if_neg]
        rw [Pad.fits, hfit]
        simp
      have HF := Lib.hid hF
      rw [hfit] at hsym
      clear hna hfit hF
      go_wp2_with fail
      refine hsym.mono ?_
      rintro e w' ⟨rfl, rfl⟩
      go_wp2_with fail
      go_ret2
      rw [HF.out]
      exact ⟨_, rfl, OwnB.nil _ _, hbS⟩
    | true =>
      have hfits : Pad.fits ls a b = true := by rw [Pad.fits, hfit, HLN.out, hna]; simp
      have hT : Pad.takes ls a b = Pad.opened ls.flatten R := by rw [Pad.takes, if_pos hfits, HAB.out, HR.out]
      have hfl : ls.flatten.length = P := by
        rw [Pad.flatten_length b ls (fun x hx => of_decide_eq_true (List.all_eq_true.1 hfit x hx)), HLN.out, hna, HAB.out]
      rw [hfit] at hsym
      have HT := Lib.hid hT
      have hjoin := join_calls A n c ls wS _ hrS hc (by omega) (by omega)
      obtain ⟨all, hall⟩ : ∃ all, ls.flatten = all := ⟨_, rfl⟩
      rw [hall] at hfl hjoin
      have HALL := Lib.hid hall
      have HFL := Lib.hid hfl
      clear hna hfit hT hfits hall hfl
      go_wp2_with fail
      refine hsym.mono ?_
      rintro e w' ⟨rfl, rfl⟩
      go_wp2_with fail
      refine hjoin.mono ?_
      rintro e w1 ⟨A1, c1, rfl, hc1, r1, hb1⟩
      rw [HFL.out] at r1 hc1 ⊢
      have hb01 := belowThen hbS hbS.size hb1
      clear hsym hjoin hb1
      go_wp2_with fail
      refine (new_calls A1 P c1 all w1 _ r1 (by omega)).mono ?_
      rintro e w2 ⟨g, rfl, hg, ⟨A2, n2, c2, hR2⟩, hb2⟩
      have hb02 := belowThen hb01 hb01.size hb2
      have hg0 : w.heap.size ≤ g := Nat.le_trans hb01.size hg
      have hgl2 : g < w2.heap.size := hR2.1
      clear hb01 hb2 r1
      go_wp2_with fail
      refine (read_calls g g A2 n2 c2 all 4 w2 hR2 (by omega)).mono ?_
      have hnr : Wire.numRead all 4 = (Wire.be (all.take 4), 0, all.drop 4) := by
        rw [Wire.numRead, if_neg (by omega), if_neg (by rw [HFL.out]; omega)]
        rfl
      unfold RetRead
      rw [hnr]
      rintro e w3 ⟨rfl, ⟨A3, n3, c3, hR3⟩, hg3⟩
      have hbl := Wire.be_lt (all.take 4)
      have ht4 : (all.take 4).length = 4 := by rw [List.length_take, HFL.out]; omega
      rw [ht4] at hbl
      obtain ⟨N, hN⟩ : ∃ N, Wire.be (all.take 4) = N := ⟨_, rfl⟩
      rw [hN] at hbl ⊢
      have hNl : N < 4294967296 := by omega
      have hb03 : Below w.heap.size w w3 := hb02.grown hg3 hb02.size (fun k e => by cases e; exact hg0)
      have hgl3 : g < w3.heap.size := hR3.1
      have hd4 : (all.drop 4).length = R := by rw [List.length_drop, HFL.out]; have := HR.out; omega
      have hn3 : n3 ≤ R := by have : (all.drop 4).length = n3 := hR3.2.2.2.2.2.len; omega
      have hwN : IntKind.i64.wrap (N : Int) = (N : Int) := IntWalk.i64_in _ ⟨by omega, by omega⟩
      have HD4 := Lib.hid hd4
      clear hnr hbl ht4 hg3 hb02 hR2 hd4
      by_cases hbad : N < 1 ∨ R < N
      · have hO : Pad.opened all R = ([], 5) := by rw [Pad.opened, hN, if_pos hbad]
        have HO := Lib.hid (hO)
        have hdone : RetTk w (Pad.takes ls a b) (.returned (.tuple #[.slice none 0 0, .int .i64 5])) w3 := by
          rw [HT.out, HALL.out, HO.out]
          exact ⟨_, rfl, OwnB.nil _ _, hb03⟩
        clear hN hO
        rcases hbad with hlow | hhigh
        · obtain rfl : N = 0 := by omega
          go_wp2_with fail
          go_ret2
          exact hdone
        · have hl1 : ¬ (N : Int) < 1 := by omega
          have hl2 : (R : Int) < (N : Int) := by omega
          clear hhigh
          go_wp2_with fail
          go_ret2
          exact hdone
      · have hl1 : ¬ (N : Int) < 1 := by omega
        have hl2 : ¬ (R : Int) < (N : Int) := by omega
        have hNR : N ≤ R := by omega
        have hO : Pad.opened all R = if (all.drop (4 + N)).any (fun b => b != 0) = true then ([], 5) else ((all.drop 4).take N, 0) := by rw [Pad.opened, hN, if_neg hbad]
        have HO := Lib.hid hO
        clear hbad hN hO
        go_wp2_with fail
        refine (take_calls g g A3 n3 c3 (all.drop 4) (N : Int) w3 hR3 (by omega) (by omega)).mono ?_
        have htr : Wire.takeRead (all.drop 4) (N : Int) = ((all.drop 4).take N, 0, all.drop (4 + N)) := by
          rw [Wire.takeRead, if_neg (by omega), if_neg (by rw [HD4.out]; omega)]
          simp
        unfold RetTake
        rw [htr]
        rintro e w4 ⟨v4, rfl, ho4, ⟨A4, n4, c4, hR4⟩, hg4⟩
        have hb04 : Below w.heap.size w w4 := hb03.grown hg4 hb03.size (fun k e => by cases e; exact hg0)
        have hgl4 : g < w4.heap.size := hR4.1
        have hn4 : (all.drop (4 + N)).length ≤ R := by rw [List.length_drop, HFL.out]; have := HR.out; omega
        have hn44 : (all.drop (4 + N)).length = n4 := hR4.2.2.2.2.2.len
        have hO2 := HO.out
        obtain ⟨rest, hrest⟩ : ∃ rest, all.drop (4 + N) = rest := ⟨_, rfl⟩
        simp only [hrest] at hR4 hn4 hn44 hO2
        obtain ⟨M, hM⟩ : ∃ M, rest.length = M := ⟨_, rfl⟩
        have hn4' : M ≤ R := by omega
        have hnM : n4 ≤ R := by omega
        have HM := Lib.hid hM
        have HO2 := Lib.hid hO2
        clear htr hg4 hR3 hrest hM hn4 hn44 hO2
        go_wp2_with fail
        refine (left_calls g g A4 n4 c4 rest w4 hR4).mono ?_
        rw [HM.out]
        rintro e w' ⟨rfl, rfl⟩
        go_wp2_with fail
        refine (take_calls g g A4 n4 c4 rest (M : Int) w4 hR4 (by omega) (by omega)).mono ?_
        have htr : Wire.takeRead rest (M : Int) = (rest, 0, []) := by
          rw [Wire.takeRead, if_neg (by omega), if_neg (by rw [HM.out]; omega)]
          simp [← HM.out]
        unfold RetTake
        rw [htr]
        rintro e w5 ⟨v5, rfl, ho5, _, hg5⟩
        have hb05 : Below w.heap.size w w5 := hb04.grown hg5 hb04.size (fun k e => by cases e; exact hg0)
        have ho45 := ho4.grown hg5 (fun k hk e => by cases e; have := (ho4.lt g hk).1; omega)
        obtain ⟨A5, c5, rfl, _, _, r5⟩ := ho5.rd
        have hz3 : w.heap.size ≤ w3.heap.size := hb03.size
        rw [HM.out] at r5 ⊢
        clear htr hg5 hR4 ho4 ho5
        have hhas := has_byte A5 M c5 rest w5 _ r5
        cases hany : (rest.any fun b => b != 0) with
        | true =>
          have hdone : RetTk w (Pad.takes ls a b) (.returned (.tuple #[.slice none 0 0, .int .i64 5])) w5 := by
            rw [HT.out, HALL.out, HO2.out, if_pos hany]
            exact ⟨_, rfl, OwnB.nil _ _, hb05⟩
          rw [hany] at hhas
          clear hany
          go_wp2_with fail
          refine hhas.mono ?_
          rintro e w' ⟨rfl, rfl⟩
          go_wp2_with fail
          go_ret2
          exact hdone
        | false =>
          have hdone : RetTk w (Pad.takes ls a b) (.returned (.tuple #[v4, .int .i64 0])) w5 := by
            rw [HT.out, HALL.out, HO2.out, if_neg (by rw [hany]; exact Bool.false_ne_true)]
            exact ⟨_, rfl, ho45.lower hz3, hb05⟩
          rw [hany] at hhas
          clear hany
          go_wp2_with fail
          refine hhas.mono ?_
          rintro e w' ⟨rfl, rfl⟩
          go_wp2_with fail
          go_ret2
          exact hdone
  · have hnai : ((n : Int) != (a : Int)) = true := by rw [bne_iff_ne]; omega
    have hF : Pad.takes ls a b = ([], 21) := by
      rw [Pad.takes, if_neg]
      rw [Pad.fits, HLN.out, decide_eq_false hna]
      simp
    have HF := Lib.hid hF
    clear hna hF
    go_wp2_with fail
    go_ret2
    rw [HF.out]
    exact ⟨_, rfl, OwnB.nil _ _, hbS⟩
end Go.Proofs.Ytnadohbgnanpiaa
