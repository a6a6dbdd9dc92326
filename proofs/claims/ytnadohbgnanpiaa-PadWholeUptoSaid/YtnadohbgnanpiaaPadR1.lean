/-
  The walks of the document's Room and Lay.
-/
import Derived.Test.YtnadohbgnanpiaaPadB
namespace Go.Proofs.Ytnadohbgnanpiaa
open Go.RowKit

set_option maxHeartbeats 800000 in
theorem rroom_bad (g s : Int) (w : World) (h : ¬ okGS g s) :
    Calls Try.prog 15 #[.int .i64 g, .int .i64 s] w fun e w' => e = .returned (.tuple #[.int .i64 0, .int .i64 1]) ∧ w = w' := by
  have H := Lib.hid h
  clear h
  by_cases h1 : g < 1
  · go_enter Try.func15, Try.ntmps15
    go_wp2
    go_ret2
    exact ⟨rfl, rfl⟩
  by_cases h2 : 255 < g
  · go_enter Try.func15, Try.ntmps15
    go_wp2
    go_ret2
    exact ⟨rfl, rfl⟩
  by_cases h3 : s < 1
  · go_enter Try.func15, Try.ntmps15
    go_wp2
    go_ret2
    exact ⟨rfl, rfl⟩
  by_cases h4 : 65535 < s
  · go_enter Try.func15, Try.ntmps15
    go_wp2
    go_ret2
    exact ⟨rfl, rfl⟩
  obtain ⟨p, hp⟩ : ∃ p, g * s = p := ⟨_, rfl⟩
  have h5 : p < 5 := by
    rcases Int.lt_or_le 4 p with h5 | h5
    · exact absurd ⟨by omega, by omega, by omega, by omega, by rw [hp]; exact h5⟩ H.out
    · omega
  have h6 := mul_le g s (by omega) (by omega) (by omega) (by omega)
  rw [hp] at h6
  have hw : IntKind.i64.wrap (g * s) = p := by rw [hp]; exact IntWalk.i64_in _ ⟨by omega, by omega⟩
  have hw2 : IntKind.i64.wrap p = p := IntWalk.i64_in _ ⟨by omega, by omega⟩
  go_enter Try.func15, Try.ntmps15
  go_wp2
  go_ret2
  exact ⟨rfl, rfl⟩
theorem rroom_calls (a b P : Nat) (w : World) (hP : ((a : Int) * (b : Int)) = (P : Int)) (h1 : 1 ≤ a) (h2 : a ≤ 255) (h3 : 1 ≤ b) (h4 : b ≤ 65535) (h5 : 4 < P) (h6 : P ≤ 16711425) :
    Calls Try.prog 15 #[.int .i64 (a : Int), .int .i64 (b : Int)] w fun e w' => e = .returned (.tuple #[.int .i64 ((P - 4 : Nat) : Int), .int .i64 0]) ∧ w = w' := by
  have c1 : ¬ (a : Int) < 1 := by omega
  have c2 : ¬ 255 < (a : Int) := by omega
  have c3 : ¬ (b : Int) < 1 := by omega
  have c4 : ¬ 65535 < (b : Int) := by omega
  have c5 : ¬ (P : Int) < 5 := by omega
  have hw : IntKind.i64.wrap ((a : Int) * (b : Int)) = (P : Int) := by rw [hP]; exact IntWalk.i64_in _ ⟨by omega, by omega⟩
  have hw2 : IntKind.i64.wrap (P : Int) = (P : Int) := IntWalk.i64_in _ ⟨by omega, by omega⟩
  have hs : ((P : Int) - 4) = ((P - 4 : Nat) : Int) := by omega
  have hw3 : IntKind.i64.wrap ((P : Int) - 4) = ((P - 4 : Nat) : Int) := by rw [hs]; exact IntWalk.i64_in _ ⟨by omega, by omega⟩
  have hw4 : IntKind.i64.wrap ((P - 4 : Nat) : Int) = ((P - 4 : Nat) : Int) := IntWalk.i64_in _ ⟨by omega, by omega⟩
  go_enter Try.func15, Try.ntmps15
  go_wp2
  go_ret2
  exact ⟨by first | rfl | simp, rfl⟩
theorem rlay_bad (A : Option Addr) (n c : Nat) (g s : Int) (w : World) (h : ¬ okGS g s) :
    Calls Try.prog 16 #[.slice A n c, .int .i64 g, .int .i64 s] w fun e w' => e = .returned (.tuple #[.slice none 0 0, .int .i64 1]) ∧ w = w' := by
  have H := Lib.hid h
  clear h
  go_enter Try.func16, Try.ntmps16
  go_wp2_with fail
  refine (rroom_bad g s w H.out).mono ?_
  rintro e w' ⟨rfl, rfl⟩
  go_wp2_with fail
  go_ret2
  exact ⟨rfl, rfl⟩
theorem rlay_short (A : Option Addr) (c a b P : Nat) (w : World) (hP : ((a : Int) * (b : Int)) = (P : Int)) (h1 : 1 ≤ a) (h2 : a ≤ 255) (h3 : 1 ≤ b) (h4 : b ≤ 65535) (h5 : 4 < P) (h6 : P ≤ 16711425) :
    Calls Try.prog 16 #[.slice A 0 c, .int .i64 (a : Int), .int .i64 (b : Int)] w fun e w' => e = .returned (.tuple #[.slice none 0 0, .int .i64 4]) ∧ w = w' := by
  have HP := Lib.hid hP
  clear hP
  go_enter Try.func16, Try.ntmps16
  go_wp2_with fail
  refine (rroom_calls a b P w HP.out h1 h2 h3 h4 h5 h6).mono ?_
  rintro e w' ⟨rfl, rfl⟩
  go_wp2_with fail
  go_ret2
  exact ⟨rfl, rfl⟩
theorem rlay_long (A : Option Addr) (n c a b P : Nat) (w : World) (hP : ((a : Int) * (b : Int)) = (P : Int)) (h1 : 1 ≤ a) (h2 : a ≤ 255) (h3 : 1 ≤ b) (h4 : b ≤ 65535) (h5 : 4 < P) (h6 : P ≤ 16711425) (hn : P - 4 < n) :
    Calls Try.prog 16 #[.slice A n c, .int .i64 (a : Int), .int .i64 (b : Int)] w fun e w' => e = .returned (.tuple #[.slice none 0 0, .int .i64 3]) ∧ w = w' := by
  have HP := Lib.hid hP
  have hn0 : ((n : Int) == 0) = false := by rw [beq_eq_false_iff_ne]; omega
  have hn1 : ((P - 4 : Nat) : Int) < (n : Int) := by omega
  clear hP
  go_enter Try.func16, Try.ntmps16
  go_wp2_with fail
  refine (rroom_calls a b P w HP.out h1 h2 h3 h4 h5 h6).mono ?_
  rintro e w' ⟨rfl, rfl⟩
  go_wp2_with fail
  go_ret2
  exact ⟨rfl, rfl⟩
/-- The four bytes ahead, laid from behind. -/
def ahead (n P k : Nat) : List UInt8 := List.replicate (4 - k) 0 ++ Wire.form n k ++ List.replicate (P - 4) 0
theorem ahead_length (n P k : Nat) (hk : k ≤ 4) (hP : 4 ≤ P) : (ahead n P k).length = P := by
  simp [ahead, Wire.form_length]; omega
theorem ahead_zero (n P : Nat) (hP : 4 ≤ P) : ahead n P 0 = List.replicate P 0 := by
  rw [ahead, Wire.form, List.append_nil, List.replicate_append_replicate]
  congr 1
  omega
theorem ahead_next (n P k : Nat) (hk : k < 4) : (ahead n P k).set (3 - k) (UInt8.ofNat (n / 256 ^ k)) = ahead n P (k + 1) := by
  have e : List.replicate (4 - k) (0 : UInt8) = List.replicate (3 - k) 0 ++ [0] := by
    rw [show 4 - k = (3 - k) + 1 by omega, List.replicate_succ']
  rw [ahead, ahead, e, form_cons, show 4 - (k + 1) = 3 - k by omega]
  simp
/-- The chunk behind them, laid from ahead. -/
def filled (xs : List UInt8) (P i : Nat) : List UInt8 := Wire.form xs.length 4 ++ xs.take i ++ List.replicate (P - 4 - i) 0
theorem filled_length (xs : List UInt8) (P i : Nat) (hi : i ≤ xs.length) (hP : 4 + xs.length ≤ P) : (filled xs P i).length = P := by
  simp [filled, Wire.form_length]; omega
theorem filled_zero (xs : List UInt8) (P : Nat) : filled xs P 0 = ahead xs.length P 4 := by simp [filled, ahead]
theorem filled_next (xs : List UInt8) (P i : Nat) (hi : i < xs.length) (hP : 4 + xs.length ≤ P) : (filled xs P i).set (4 + i) (xs[i]) = filled xs P (i + 1) := by
  have hf : (Wire.form xs.length 4).length = 4 := Wire.form_length _ _
  have e : List.replicate (P - 4 - i) (0 : UInt8) = 0 :: List.replicate (P - 4 - (i + 1)) 0 := by
    rw [show P - 4 - i = (P - 4 - (i + 1)) + 1 by omega, List.replicate_succ]
  have ht : (Wire.form xs.length 4 ++ xs.take i).length = 4 + i := by rw [List.length_append, hf, List.length_take]; omega
  rw [filled, filled, e, List.set_append_right _ _ (by omega), ht, Nat.sub_self, List.set_cons_zero]
  have e2 : xs.take (i + 1) = xs.take i ++ [xs[i]] := by rw [List.take_add_one]; simp [hi]
  rw [e2]
  simp only [List.append_assoc, List.cons_append, List.nil_append]
theorem filled_full (xs : List UInt8) (P : Nat) : filled xs P xs.length = Pad.full xs P := by
  rw [filled, Pad.full, List.take_length]
set_option maxHeartbeats 4000000 in
theorem rlay_calls (A : Option Addr) (n c a b P : Nat) (xs : List UInt8) (w : World) (ok : Nat → Prop) (hr : RdB w ok A n xs) (hab : a * b = P) (hP : ((a : Int) * (b : Int)) = (P : Int)) (h1 : 1 ≤ a) (h2 : a ≤ 255) (h3 : 1 ≤ b) (h4 : b ≤ 65535) (h5 : 4 < P) (h6 : P ≤ 16711425) (hn1 : 1 ≤ n) (hn : n ≤ P - 4) :
    Calls Try.prog 16 #[.slice A n c, .int .i64 (a : Int), .int .i64 (b : Int)] w fun e w' => ∃ v, e = .returned (.tuple #[v, .int .i64 0]) ∧ OwnBB w' w.heap.size v (Pad.lays xs a b) ∧ Below w.heap.size w w' := by
  have hroom := rroom_calls a b P w hP h1 h2 h3 h4 h5 h6
  obtain ⟨R, hR⟩ : ∃ R, P - 4 = R := ⟨_, rfl⟩
  rw [hR] at hroom hn
  have HR := Lib.hid hR
  have hR2 : R ≤ 16711421 := by omega
  have HAB := Lib.hid hab
  have HL := Lib.hid hr.len
  have hn0 : ((n : Int) == 0) = false := by rw [beq_eq_false_iff_ne]; omega
  have hn2 : ¬ (R : Int) < (n : Int) := by omega
  have hwP : IntKind.i64.wrap (P : Int) = (P : Int) := IntWalk.i64_in _ ⟨by omega, by omega⟩
  have hmake := makeB_run P (by omega)
  clear hR hab
  go_enter Try.func16, Try.ntmps16
  go_wp2_with fail
  refine hroom.mono ?_
  rintro e w' ⟨rfl, rfl⟩
  clear hroom
  go_wp2_with fail
  have hb1 : Below w.heap.size w (w.alloc (.cells (madeCells #[.int .u8 0] P) 5)) := (Below.refl _ _).alloc (Nat.le_refl _) _
  have ho1 := makeB_own w w.heap.size P (Nat.le_refl _) (by omega)
  rw [← ahead_zero n P (by omega)] at ho1
  obtain ⟨gA, hgA⟩ : ∃ gA, w.heap.size = gA := ⟨_, rfl⟩
  obtain ⟨w1, hw1⟩ : ∃ w1, w.alloc (.cells (madeCells #[.int .u8 0] P) 5) = w1 := ⟨_, rfl⟩
  rw [hw1] at hb1 ho1 ⊢
  have hz1 : w1.heap.size = w.heap.size + 1 := by rw [← hw1]; simp
  have hg0 : w.heap.size ≤ gA := by omega
  have HGA := Lib.hid hgA
  rw [show (Value.slice (some ⟨w.heap.size, 0, none⟩) P P) = .slice (some ⟨gA, 0, none⟩) P P by rw [hgA]] at ho1 ⊢
  rw [decide_eq_false (show ¬ R < n by omega)]
  clear hw1 hgA hmake
  go_loopw [11, 12] (fun y i wr => ∃ k : Nat, k ≤ 4 ∧ i = .int .i64 ((3 : Int) - (k : Int)) ∧ y = .int .i64 ((n / 256 ^ k : Nat) : Int) ∧ OwnB wr w.heap.size (.slice (some ⟨gA, 0, none⟩) P P) (ahead n P k) ∧ Below w.heap.size w wr ∧ gA < wr.heap.size) (fun _ i _ => (intOf i + 1).toNat)
  case atStart => exact ⟨0, by omega, by simp, by simp, ho1, hb1, by have := HGA.out; omega⟩
  case round =>
    obtain ⟨k, hk, rfl, rfl, ho, hb, hgl⟩ := hrel
    clear ho1
    by_cases hlt : k < 4
    · obtain ⟨j, hj⟩ : ∃ j, j = 3 - k := ⟨_, rfl⟩
      have hjk : (3 : Int) - (k : Int) = (j : Int) := by omega
      have hll := ahead_length n P k hk (by omega)
      have ho' : OwnB wr w.heap.size (.slice (some ⟨gA, 0, none⟩) (ahead n P k).length P) (ahead n P k) := by rw [hll]; exact ho
      obtain ⟨_, _, e1, _, _, _, hcell, hfz⟩ := ho'.form (by omega)
      cases e1
      rw [hll] at hcell
      have cj := hcell j (by omega)
      have fj := hfz j
      have hjP : (j : Int) < (P : Int) := by omega
      have HD := Lib.hid (show n / 256 ^ (k + 1) = n / 256 ^ k / 256 by rw [Nat.div_div_eq_div_mul, Nat.pow_succ])
      have HS := Lib.hid (ahead_next n P k hlt)
      have hst := (ho'.store j (UInt8.ofNat (n / 256 ^ k))).1
      rw [UInt8.toNat_ofNat', hll, hj, HS.out, ← hj] at hst
      have HJ := Lib.hid hj
      have hylt : n / 256 ^ k ≤ n := Nat.div_le_self _ _
      generalize n / 256 ^ k = y at *
      clear hj hll hcell hfz ho ho'
      have hwy : IntKind.i64.wrap ((y : Int) / 256) = (y : Int) / 256 := IntWalk.i64_in _ ⟨by omega, by omega⟩
      have hwy2 : IntKind.i64.wrap ((y : Int) % 256) = (y : Int) % 256 := IntWalk.i64_in _ ⟨by omega, by omega⟩
      have ht1 : (y : Int).tmod 256 = (y : Int) % 256 := Int.tmod_eq_emod_of_nonneg (by omega)
      have ht2 : (y : Int).tdiv 256 = (y : Int) / 256 := Int.tdiv_eq_ediv_of_nonneg (by omega)
      have hone : OwnB (wr.setCell ⟨gA, j, none⟩ (.int .u8 ((y : Int) % 256))) w.heap.size (.slice (some ⟨gA, 0, none⟩) P P) (ahead n P (k + 1)) := hst
      have hbs : Below w.heap.size w (wr.setCell ⟨gA, j, none⟩ (.int .u8 ((y : Int) % 256))) := hb.setCell hg0 _
      go_wp2_with fail
      go_roundw
      case rel => exact ⟨k + 1, by omega, by congr 1; omega, by rw [HD.out]; go_num, hone, hbs, by simpa [World.setCell] using hgl⟩
      case measure => simp [intOf]; omega
    · obtain rfl : k = 4 := by omega
      have hlx : xs.length = n := HL.out
      have ho2 : OwnB wr w.heap.size (.slice (some ⟨gA, 0, none⟩) P P) (filled xs P 0) := by rw [filled_zero, hlx]; exact ho
      have hrr := hr.below hb
      clear ho hlx
      go_wp2_with fail
      rw [show ((3 : Int) - ((4 : Nat) : Int)) = -1 from rfl]
      have hnn : n / 256 ^ 4 ≤ n := Nat.div_le_self _ _
      have hwr := hb.size
      generalize n / 256 ^ 4 = y0 at *
      rename_i wr0
      go_loopw [13] (fun i wr => ∃ k : Nat, k ≤ n ∧ i = .int .i64 k ∧ OwnB wr w.heap.size (.slice (some ⟨gA, 0, none⟩) P P) (filled xs P k) ∧ Below w.heap.size w wr ∧ gA < wr.heap.size) (fun i _ => n - (intOf i).toNat)
      case atStart => exact ⟨0, Nat.zero_le _, rfl, ho2, hb, hgl⟩
      case round =>
        obtain ⟨k, hk, rfl, ho, hbw, hgw⟩ := hrel
        have hrk := hr.below hbw
        clear ho2 hrr hb
        by_cases hlt : k < n
        · obtain ⟨b1, o1, e1, k1⟩ := hrk.at_ k hlt
          subst e1
          have hkx : k < xs.length := by rw [HL.out]; exact hlt
          have hll := filled_length xs P k (by omega) (by rw [HL.out]; have := HR.out; omega)
          have ho' : OwnB wr w.heap.size (.slice (some ⟨gA, 0, none⟩) (filled xs P k).length P) (filled xs P k) := by rw [hll]; exact ho
          obtain ⟨_, _, e1, _, _, _, hcell, hfz⟩ := ho'.form (by omega)
          cases e1
          rw [hll] at hcell
          have hPk : 4 + k < P := by have := HR.out; omega
          have cj := hcell (4 + k) hPk
          have fj := hfz (4 + k)
          have hjP : (4 : Int) + (k : Int) < (P : Int) := by omega
          have HS := Lib.hid (filled_next xs P k hkx (by rw [HL.out]; have := HR.out; omega))
          have hst := (ho'.store (4 + k) xs[k]).1
          have hbe := byt_eq xs k hkx
          rw [hll, HS.out, ← hbe] at hst
          have hbs : Below w.heap.size w (wr.setCell ⟨gA, 4 + k, none⟩ (.int .u8 (byt xs k : Int))) := hbw.setCell hg0 _
          clear hll hcell hfz ho ho' hbe
          go_wp2_with fail
          go_roundw
          case rel => exact ⟨k + 1, by omega, by go_num, hst, hbs, by simpa [World.setCell] using hgw⟩
          case measure => simp [intOf]; omega
        · obtain rfl : n = k := by omega
          have hfin : filled xs P n = Pad.full xs P := by rw [← filled_full, HL.out]
          rw [hfin] at ho
          clear hfin hrk
          go_wp2_with fail
          obtain ⟨A4, c4, e4, hc4, r4⟩ := ho.rdn P (Pad.full_length xs P (by rw [HL.out]; have := HR.out; omega))
          cases e4
          obtain ⟨ls, hls⟩ : ∃ ls, Pad.lays xs a b = ls := ⟨_, rfl⟩
          have hll : ls.length = a := by rw [← hls]; exact Pad.lays_length xs a b
          have hget : ∀ k q, k < a → q = k * b → lrow ls k = ((Pad.full xs P).take (q + b)).drop q := fun k q hk hq => by
            rw [← hls, Pad.lays, HAB.out, lrow, Pad.parts_get b a _ k hk, hq, Option.getD_some, List.drop_take]
            congr 1
            omega
          have HLS := Lib.hid hls
          clear hls ho hll
          have hll2 : ls.length = a := by rw [← HLS.out]; exact Pad.lays_length xs a b
          obtain ⟨zA, hzA'⟩ : ∃ zA, wr.heap.size = zA := ⟨_, rfl⟩
          have r4all : ∀ wq, Below zA wr wq → RdB wq (fun x => w.heap.size ≤ x ∧ (Value.slice (some ⟨gA, 0, none⟩) P P).ownBlock = some x) (some ⟨gA, 0, none⟩) P (Pad.full xs P) := fun wq h => r4.below (by rw [hzA']; exact h)
          have hbwz : ∀ wq, Below zA wr wq → Below w.heap.size w wq := fun wq h => belowThen hbw hbw.size (by rw [hzA']; exact h)
          have hzw : w.heap.size ≤ zA := by have := hbw.size; omega
          have hzr : ∀ wq, Below zA wr wq → zA ≤ wq.heap.size := fun wq h => by have := h.size; omega
          clear hzA' r4 hbw
          go_loopw [14, 15] (fun v i wq => ∃ k : Nat, k ≤ a ∧ i = .int .i64 (k : Int) ∧ OwnBB wq zA v (ls.take k) ∧ Below zA wr wq) (fun _ i _ => a - (intOf i).toNat)
          case atStart => exact ⟨0, Nat.zero_le _, rfl, OwnBB.nil _ _, Below.refl _ _⟩
          case round =>
            obtain ⟨k, hk, rfl, ho, hbe⟩ := hrel
            by_cases hlt : k < a
            · obtain ⟨q, hq⟩ : ∃ q, q = k * b := ⟨_, rfl⟩
              have hqb : q + b ≤ P := by
                rw [hq, ← HAB.out, ← Nat.succ_mul]
                exact Nat.mul_le_mul_right _ hlt
              have hq1 : ((k : Int) * (b : Int)) = (q : Int) := by rw [hq, Int.natCast_mul]
              have hq2 : (((k : Int) + 1) * (b : Int)) = (q : Int) + (b : Int) := by rw [Int.add_mul, hq1]; omega
              obtain ⟨A5, hcut, hcr⟩ := cut_run (some ⟨gA, 0, none⟩) P P q (q + b) (by omega) hqb (Nat.le_refl _)
              have e5 : q + b - q = b := by omega
              rw [e5] at hcut hcr
              have hq3 : ((q + b : Nat) : Int) = (q : Int) + (b : Int) := by omega
              rw [hq3] at hcut
              have hcut' := hcut .i64 .i64
              have r5 := hcr wr _ _ (r4all wr hbe)
              rw [← hget k q hlt hq] at r5
              have hwq : IntKind.i64.wrap (q : Int) = (q : Int) := IntWalk.i64_in _ ⟨by omega, by omega⟩
              have hwq2 : IntKind.i64.wrap ((q : Int) + (b : Int)) = (q : Int) + (b : Int) := IntWalk.i64_in _ ⟨by omega, by omega⟩
              have HL5 := Lib.hid r5.len
              have htk : ls.take (k + 1) = ls.take k ++ [lrow ls k] := by
                rw [List.take_add_one, lrow_eq ls k (by omega)]; simp [show k < ls.length by omega]
              have HTK := Lib.hid htk
              have hlen : (ls.take k).length ≤ 1099511627776 := by rw [List.length_take]; omega
              have holt := ho.lt
              clear hcr hcut htk hq hq3 e5 hget
              go_wp2_with fail
              refine (own_calls A5 b (P - q) (lrow ls k) wr _ r5 (by omega)).mono ?_
              rintro e5 w5 ⟨v5, rfl, ho5, hb5⟩
              obtain ⟨A6, c6, rfl, hc6, r6⟩ := ho5.rdn b HL5.out
              have hbw5 := belowThen hbe (hzr _ hbe) hb5
              have ho55 := ho.below hb5
              have hz5 := hzr _ hbw5
              have hz6 := hzr _ hbe
              have r6' : RdB w5 (fun x => zA ≤ x ∧ u14.ownBlock ≠ some x) A6 b (lrow ls k) := r6.mono fun x hx _ => ⟨Nat.le_trans hz6 hx.1, fun e => by have := (holt x e).2; have := hx.1; omega⟩
              clear r5 ho5 r6 hb5
              go_wp2_with (at_builtin; refine appBB zA zA rfl _ _ rfl u14 (ls.take k) (lrow ls k) A6 b c6 rfl rfl ho55 hc6 r6' hbw5 hz5 (Nat.le_refl _) hlen ?_; intro v7 w7 ho7 hb7 _ _)
              go_roundw
              case rel => exact ⟨k + 1, by omega, by go_num, by rw [HTK.out]; exact ho7, hb7⟩
              case measure => simp [intOf]; omega
            · obtain rfl : a = k := by omega
              have hbf : Below w.heap.size w wr := hbwz wr hbe
              clear hget
              go_wp2_with fail
              go_ret2
              refine ⟨_, rfl, ?_, hbf⟩
              rw [HLS.out]
              rw [List.take_of_length_le (by omega)] at ho
              exact ho.lower hzw
end Go.Proofs.Ytnadohbgnanpiaa
