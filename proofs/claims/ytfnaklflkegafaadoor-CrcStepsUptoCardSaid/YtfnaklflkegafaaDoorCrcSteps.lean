/-
  The walk of CrcSteps.
-/
import Derived.Test.YtfnaklflkegafaaDoorCrcParts
namespace Go.Proofs.YtfnaklflkegafaaDoor
open Go.RowKit

theorem sum_step (xs : List UInt8) (k : Nat) (h : k < xs.length) : Crc.join (Crc.sum (xs.take k)) (Crc.sum ((xs.take (k + 1)).drop k)) 1 = Crc.sum (xs.take (k + 1)) := by
  have h1 : (xs.take (k + 1)).drop k = [xs[k]] := by
    rw [List.take_succ_eq_append_getElem h, List.drop_append_of_le_length (by simp; omega), List.drop_eq_nil_of_le (by simp; omega), List.nil_append]
  rw [h1, List.take_succ_eq_append_getElem h, Crc.sum_join]
  rfl

set_option maxHeartbeats 1600000 in
theorem crcSteps_walk (w : World) (A : Option Addr) (n c : Nat) (xs : List UInt8) (x : Nat) (hr : RdB w (fun k => k < w.heap.size) A n xs) (hc : n ≤ c) (hn : n ≤ 1048576) (hx : x < 256) (ht : Tab w) :
    Calls Tryd.prog 9 #[.slice A n c, .int .u8 (x : Int)] w fun e w' => e = .returned (.bool true) ∧ Below w.heap.size w w' := by
  obtain ⟨m, hm⟩ : ∃ m, m = min n 200 := ⟨_, rfl⟩
  have hmin : ∀ W : World, (Builtin.min_ #[3, 3] 3 #[.int .i64 (n : Int), .int .i64 200]).run Tryd.prog W = .ok (.int .i64 (m : Int)) W := min2_run n 200 m hm
  have hmn : m ≤ n := by omega
  have hm2 : m ≤ 200 := by omega
  clear hm
  obtain ⟨A', kA, rA⟩ := cutTo_run A n c m hmn hc
  have sA := rA w _ xs hr
  have hmc : m ≤ c := by omega
  clear rA
  generalize xs.take m = ys at *
  obtain ⟨q, hq⟩ : ∃ q : Nat, (x : Int) % 41 = (q : Int) := ⟨x % 41, by omega⟩
  have hq41 : q ≤ 40 := by omega
  have hmk : ∀ W : World, (Instr.makeSlice 22 (.int .u8 ((x : Int) % 41)) (.int .u8 ((x : Int) % 41))).run Tryd.prog W = .ok (.slice (some ⟨W.heap.size, 0, none⟩) q q) (W.alloc (.cells (madeCells #[.int .u8 0] q) 5)) := by
    rw [hq]
    exact makeB_runK .u8 q (by omega)
  have ly := sA.len
  have b0 : Crc.sum [] = 0 := Crc.sum_nil
  have B0 := Lib.hid b0
  clear hq hr b0
  go_enter Tryd.func9, Tryd.ntmps9
  go_wp2_with fail
  refine (sum_calls none 0 0 [] w (fun _ => True) (RdB.nil _ _ _) ht).mono ?_
  rintro e w' ⟨rfl, rfl⟩
  go_wp2_with fail
  go_loop [5, 6, 7, 8] (fun s i p f => ∃ k : Nat, k ≤ m ∧ i = .int .i64 k ∧ s = .int .u32 ((Crc.sum (ys.take k) : Nat) : Int)) (fun _ i _ _ => m - (intOf i).toNat)
  case atStart => exact ⟨0, Nat.zero_le _, rfl, rfl⟩
  case round =>
    obtain ⟨k, hk, rfl, rfl⟩ := hrel
    clear hmin kA
    by_cases hlt : k < m
    · obtain ⟨A1, k1, r1⟩ := cut_run A' m c k (k + 1) (by omega) (by omega) hmc
      obtain ⟨A2, k2, r2⟩ := cutTo_run A' m c (k + 1) (by omega) hmc
      have s1 := r1 w _ ys sA
      have s2 := r2 w _ ys sA
      have e1 : k + 1 - k = 1 := by omega
      rw [e1] at s1 k1
      simp only [Int.natCast_add, Int.natCast_one] at k1 k2
      have HS := Lib.hid (sum_step ys k (by omega))
      have p1 := Crc.sum_lt (ys.take k)
      have p2 := Crc.sum_lt ((ys.take (k + 1)).drop k)
      clear r1 r2 e1 ly
      go_wp2_with fail
      refine (sum_calls A1 1 _ _ w _ s1 ht).mono ?_
      rintro e w' ⟨rfl, rfl⟩
      go_wp2_with fail
      refine (join_good _ _ 1 w p1 p2 (by omega) ht).mono ?_
      rintro e w' ⟨rfl, rfl⟩
      rw [HS.out]
      go_wp2_with fail
      refine (sum_calls A2 (k + 1) c _ w _ s2 ht).mono ?_
      rintro e w' ⟨rfl, rfl⟩
      go_wp2_with fail
      go_round
      case rel => exact ⟨k + 1, by omega, by go_num, rfl⟩
      case measure => simp [intOf]; omega
    · obtain rfl : k = m := by omega
      have hy : ys.take k = ys := List.take_of_length_le (by omega)
      rw [hy]
      have hown := makeB_own w w.heap.size q (Nat.le_refl _) (by omega)
      have hbel : Below w.heap.size w (w.alloc (.cells (madeCells #[.int .u8 0] q) 5)) := (Below.refl _ _).alloc (Nat.le_refl _) _
      have hz : (List.replicate q (0 : UInt8)).length = q := by simp
      have hj1 := Crc.sum_join (List.replicate q 0) ys
      have hj2 := Crc.sum_join ys (List.replicate q 0)
      rw [hz] at hj2
      rw [ly] at hj1
      generalize List.replicate q (0 : UInt8) = zs at *
      have p1 := Crc.sum_lt ys
      have p2 := Crc.sum_lt zs
      have t1 : (((Crc.join (Crc.sum zs) (Crc.sum ys) k : Nat) : Int) == ((Crc.sum ([] ++ zs ++ ys) : Nat) : Int)) = true := by rw [List.nil_append, hj1]; simp
      have t2 : (((Crc.join (Crc.sum ys) (Crc.sum zs) q : Nat) : Int) == ((Crc.sum ([] ++ ys ++ zs) : Nat) : Int)) = true := by rw [List.nil_append, hj2]; simp
      have l1 : ([] : List UInt8).length + q ≤ 140737488355328 := by simp; omega
      have l2 : ([] ++ zs).length + k ≤ 140737488355328 := by simp; omega
      have l3 : ([] : List UInt8).length + k ≤ 140737488355328 := by simp; omega
      have l4 : ([] ++ ys).length + q ≤ 140737488355328 := by simp; omega
      have hown' : OwnB (w.alloc (.cells (madeCells #[.int .u8 0] q) 5)) w.heap.size (.slice (some ⟨w.heap.size, 0, none⟩) zs.length q) zs := by rw [hz]; exact hown
      obtain ⟨Az, cz, ez, _, _, rz⟩ := hown'.rd
      cases ez
      rw [hz] at rz
      clear hj1 hj2 hy hz ly hown hown' hlt
      go_wp2_with fail
      have rz' : RdB (w.alloc (.cells (madeCells #[.int .u8 0] q) 5)) (fun j => j = w.heap.size) (some ⟨w.heap.size, 0, none⟩) q zs := rz.mono fun j hj _ => by have := hj.2; simpa [Value.ownBlock, eq_comm] using this
      have hzl : w.heap.size < (w.alloc (.cells (madeCells #[.int .u8 0] q) 5)).heap.size := by simp
      clear rz
      generalize w.alloc (.cells (madeCells #[.int .u8 0] q) 5) = w1 at *
      refine (sum_calls _ q q zs w1 _ rz' (ht.below hbel)).mono ?_
      rintro e w' ⟨rfl, rfl⟩
      go_wp2_with fail
      refine (join_good _ _ k w1 p2 p1 (by omega) (ht.below hbel)).mono ?_
      rintro e w' ⟨rfl, rfl⟩
      go_wp2_with fail
      refine (sum_calls _ q q zs w1 _ rz' (ht.below hbel)).mono ?_
      rintro e w' ⟨rfl, rfl⟩
      go_wp2_with fail
      refine (join_good _ _ q w1 p1 p2 (by omega) (ht.below hbel)).mono ?_
      rintro e w' ⟨rfl, rfl⟩
      have hz1 := hbel.size
      go_wp2_with (first | (at_builtin; refine appB w.heap.size w.heap.size rfl _ _ rfl (.slice none 0 0) [] zs (some ⟨w.heap.size, 0, none⟩) q q rfl rfl (OwnB.nil _ _) rz' hbel hz1 (Nat.le_refl _) l1 ?_; intro v2 w2 ho2 hb2 hg2 hv2) | (at_builtin; refine appB w.heap.size w.heap.size rfl _ _ rfl v2 ([] ++ zs) ys A' k c rfl rfl ho2 (sA.below hb2) hb2 hb2.size (Nat.le_refl _) l2 ?_; intro v3 w3 ho3 hb3 hg3 _) | fail)
      have rz2 : RdB w2 (fun j => j = w.heap.size) (some ⟨w.heap.size, 0, none⟩) q zs := rz'.grown hg2 (by simp [Value.ownBlock])
      have rz3 : RdB w3 (fun j => j = w.heap.size) (some ⟨w.heap.size, 0, none⟩) q zs := rz2.grown hg3 (by
        intro j hj
        subst hj
        rcases hv2 with h | h <;> rw [h] <;> simp [Value.ownBlock]
        omega)
      clear rz2 rz' ho2 hg2 hg3 hv2 hb2 l1 l2
      generalize [] ++ zs ++ ys = al at *
      obtain ⟨A4, c4, rfl, _, _, r4⟩ := ho3.rd
      have ml := r4.max
      generalize al.length = n4 at *
      refine (sum_calls A4 n4 c4 al w3 _ r4 (ht.below hb3)).mono ?_
      rintro e w' ⟨rfl, rfl⟩
      have hz3 := hb3.size
      go_wp2_with (first | (at_builtin; refine appB w.heap.size w.heap.size rfl _ _ rfl (.slice none 0 0) [] ys A' k c rfl rfl (OwnB.nil _ _) (sA.below hb3) hb3 hz3 (Nat.le_refl _) l3 ?_; intro v5 w5 ho5 hb5 hg5 hv5) | (at_builtin; refine appB w.heap.size w.heap.size rfl _ _ rfl v5 ([] ++ ys) zs (some ⟨w.heap.size, 0, none⟩) q q rfl rfl ho5 (rz3.grown hg5 (by simp [Value.ownBlock])) hb5 hb5.size (Nat.le_refl _) l4 ?_; intro v6 w6 ho6 hb6 _ _) | fail)
      clear ho5 hb5 hg5 hv5 rz3 l3 l4
      generalize [] ++ ys ++ zs = al2 at *
      obtain ⟨A7, c7, rfl, _, _, r7⟩ := ho6.rd
      have ml7 := r7.max
      generalize al2.length = n7 at *
      refine (sum_calls A7 n7 c7 al2 w6 _ r7 (ht.below hb6)).mono ?_
      rintro e w' ⟨rfl, rfl⟩
      go_wp2_with fail
      refine (wakes_calls w6 (ht.below hb6)).mono ?_
      rintro e w8 ⟨rfl, hb8⟩
      have hb9 := belowThen hb6 hb6.size hb8
      go_wp2
      go_ret
      exact ⟨rfl, hb9⟩
end Go.Proofs.YtfnaklflkegafaaDoor
