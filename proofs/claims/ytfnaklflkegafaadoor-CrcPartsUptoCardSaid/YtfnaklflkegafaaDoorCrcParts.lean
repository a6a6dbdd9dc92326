/-
  The walk of CrcParts.
-/
import Derived.Test.YtfnaklflkegafaaDoorCrc5
namespace Go.Proofs.YtfnaklflkegafaaDoor
open Go.RowKit

theorem join_good' (a b m : Nat) (n : Int) (w : World) (hnm : n = (m : Int)) (ha : a < 4294967296) (hb : b < 4294967296) (hn : m ≤ 1048576) (ht : Tab w) :
    Calls Tryd.prog 18 #[.int .u32 (a : Int), .int .u32 (b : Int), .int .i64 n] w fun e w' => e = .returned (.tuple #[.int .u32 (Crc.join a b m : Int), .int .i64 0]) ∧ w = w' := by
  subst hnm
  exact join_good a b m w ha hb hn ht
theorem join_lt (a b n : Nat) (ha : a < 4294967296) (hb : b < 4294967296) : Crc.join a b n < 4294967296 := Nat.xor_lt_two_pow (n := 32) (Crc.stpN_lt _ _ ha) hb

set_option maxHeartbeats 1600000 in
theorem crcParts_walk (w : World) (A : Option Addr) (n c : Nat) (xs : List UInt8) (B : Option Addr) (n1 c1 : Nat) (ys : List UInt8) (C : Option Addr) (n2 c2 : Nat) (zs : List UInt8)
    (hr : RdB w (fun k => k < w.heap.size) A n xs) (_hc : n ≤ c) (hn : n ≤ 1048576) (hr1 : RdB w (fun k => k < w.heap.size) B n1 ys) (_hc1 : n1 ≤ c1) (hn1 : n1 ≤ 1048576)
    (hr2 : RdB w (fun k => k < w.heap.size) C n2 zs) (_hc2 : n2 ≤ c2) (hn2 : n2 ≤ 1048576) (ht : Tab w) :
    Calls Tryd.prog 8 #[.slice A n c, .slice B n1 c1, .slice C n2 c2] w fun e w' => e = .returned (.bool true) ∧ Below w.heap.size w w' := by
  by_cases hs : n1 + n2 ≤ 1048576
  · have hs' : (n1 : Int) + (n2 : Int) ≤ 1048576 := by omega
    have lx := hr.len
    have ly := hr1.len
    have lz := hr2.len
    have l1 : ([] : List UInt8).length + n ≤ 140737488355328 := by simp; omega
    have l2 : ([] ++ xs).length + n1 ≤ 140737488355328 := by simp; omega
    have l3 : ([] ++ xs ++ ys).length + n2 ≤ 140737488355328 := by simp; omega
    have p1 := Crc.sum_lt xs
    have p2 := Crc.sum_lt ys
    have p3 := Crc.sum_lt zs
    have q1 := join_lt (Crc.sum xs) (Crc.sum ys) n1 p1 p2
    have q2 := join_lt (Crc.sum ys) (Crc.sum zs) n2 p2 p3
    have HJ := Crc.join_join (Crc.sum xs) (Crc.sum ys) (Crc.sum zs) n1 n2
    have HS : Crc.join (Crc.join (Crc.sum xs) (Crc.sum ys) n1) (Crc.sum zs) n2 = Crc.sum ([] ++ xs ++ ys ++ zs) := by
      rw [Crc.sum_join, Crc.sum_join, ly, lz]; rfl
    have t1 : (((Crc.join (Crc.join (Crc.sum xs) (Crc.sum ys) n1) (Crc.sum zs) n2 : Nat) : Int) == ((Crc.join (Crc.sum xs) (Crc.join (Crc.sum ys) (Crc.sum zs) n2) (n1 + n2) : Nat) : Int)) = true := by rw [HJ]; simp
    have t2 : (((Crc.join (Crc.join (Crc.sum xs) (Crc.sum ys) n1) (Crc.sum zs) n2 : Nat) : Int) == ((Crc.sum ([] ++ xs ++ ys ++ zs) : Nat) : Int)) = true := by rw [HS]; simp
    have t3 : (((Crc.join (Crc.sum xs) 0 0 : Nat) : Int) == ((Crc.sum xs : Nat) : Int)) = true := by rw [Crc.join_zero]; simp
    clear HJ HS hs lx ly lz
    go_enter Tryd.func8, Tryd.ntmps8
    go_wp2_with (first | (at_builtin; refine appB w.heap.size w.heap.size rfl _ _ rfl (.slice none 0 0) [] xs A n c rfl rfl (OwnB.nil _ _) hr (Below.refl _ _) (Nat.le_refl _) (Nat.le_refl _) l1 ?_; intro v1 w1 ho1 hb1 _ _) | (at_builtin; refine appB w.heap.size w.heap.size rfl _ _ rfl v1 ([] ++ xs) ys B n1 c1 rfl rfl ho1 (hr1.below hb1) hb1 hb1.size (Nat.le_refl _) l2 ?_; intro v2 w2 ho2 hb2 _ _) | (at_builtin; refine appB w.heap.size w.heap.size rfl _ _ rfl v2 ([] ++ xs ++ ys) zs C n2 c2 rfl rfl ho2 (hr2.below hb2) hb2 hb2.size (Nat.le_refl _) l3 ?_; intro v3 w3 ho3 hb3 _ _) | fail)
    clear ho1 ho2 l1 l2 l3
    generalize [] ++ xs ++ ys ++ zs = al at *
    obtain ⟨A4, c4, rfl, _, _, r4⟩ := ho3.rd
    have ml := r4.max
    generalize al.length = n4 at *
    have rA := hr.below hb3
    have rB := hr1.below hb3
    have rC := hr2.below hb3
    have htr := ht.below hb3
    clear ho3 hr hr1 hr2 hb1 hb2
    refine (sum_calls A n c xs w3 _ rA htr).mono ?_
    rintro e w' ⟨rfl, rfl⟩
    go_wp2_with fail
    refine (sum_calls B n1 c1 ys w3 _ rB htr).mono ?_
    rintro e w' ⟨rfl, rfl⟩
    go_wp2_with fail
    refine (join_good _ _ n1 w3 p1 p2 hn1 htr).mono ?_
    rintro e w' ⟨rfl, rfl⟩
    go_wp2_with fail
    refine (sum_calls B n1 c1 ys w3 _ rB htr).mono ?_
    rintro e w' ⟨rfl, rfl⟩
    go_wp2_with fail
    refine (sum_calls C n2 c2 zs w3 _ rC htr).mono ?_
    rintro e w' ⟨rfl, rfl⟩
    go_wp2_with fail
    refine (join_good _ _ n2 w3 p2 p3 hn2 htr).mono ?_
    rintro e w' ⟨rfl, rfl⟩
    go_wp2_with fail
    refine (sum_calls C n2 c2 zs w3 _ rC htr).mono ?_
    rintro e w' ⟨rfl, rfl⟩
    go_wp2_with fail
    refine (join_good _ _ n2 w3 q1 p3 hn2 htr).mono ?_
    rintro e w' ⟨rfl, rfl⟩
    go_wp2_with fail
    refine (sum_calls A n c xs w3 _ rA htr).mono ?_
    rintro e w' ⟨rfl, rfl⟩
    go_wp2_with fail
    refine (join_good' _ _ (n1 + n2) _ w3 (by omega) p1 q2 (by omega) htr).mono ?_
    rintro e w' ⟨rfl, rfl⟩
    go_wp2_with fail
    refine (sum_calls A n c xs w3 _ rA htr).mono ?_
    rintro e w' ⟨rfl, rfl⟩
    go_wp2_with fail
    refine (join_good _ 0 0 w3 p1 (by omega) (by omega) htr).mono ?_
    rintro e w' ⟨rfl, rfl⟩
    go_wp2_with fail
    refine (sum_calls A4 n4 c4 al w3 _ r4 htr).mono ?_
    rintro e w' ⟨rfl, rfl⟩
    go_wp2_with fail
    refine (sum_calls A n c xs w3 _ rA htr).mono ?_
    rintro e w' ⟨rfl, rfl⟩
    go_wp2_with fail
    refine (wakes_calls w3 htr).mono ?_
    rintro e w4 ⟨rfl, hb4⟩
    have hb5 := belowThen hb3 hb3.size hb4
    go_wp2
    go_ret
    exact ⟨rfl, hb5⟩
  · have hs' : 1048576 < (n1 : Int) + (n2 : Int) := by omega
    clear hs
    go_enter Tryd.func8, Tryd.ntmps8
    go_wp2_with fail
    refine (wakes_calls w ht).mono ?_
    rintro e w1 ⟨rfl, hb1⟩
    go_wp2
    go_ret
    exact ⟨rfl, hb1⟩
end Go.Proofs.YtfnaklflkegafaaDoor
