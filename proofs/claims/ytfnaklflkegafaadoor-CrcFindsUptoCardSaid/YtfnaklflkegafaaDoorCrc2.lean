/-
  The walks of crc's functions that make memory.
-/
import Derived.Test.YtfnaklflkegafaaDoorCrc1
namespace Go.Proofs.YtfnaklflkegafaaDoor
open Go.RowKit

theorem bvals_four (x : Nat) (hx : x < 4294967296) : bvals (Crc.four x) = [.int .u8 ((x : Int) % 256), .int .u8 ((x : Int) / 256 % 256), .int .u8 ((x : Int) / 65536 % 256), .int .u8 ((x : Int) / 16777216)] := by
  have h : x / 16777216 < 256 := by omega
  simp [bvals, Crc.four, UInt8.toNat_ofNat', Nat.mod_eq_of_lt h]

set_option maxHeartbeats 400000 in
theorem four_calls (x : Nat) (w : World) (hx : x < 4294967296) :
    Calls Tryd.prog 21 #[.int .u32 (x : Int)] w (RetB w (Crc.four x)) := by
  go_enter Tryd.func21, Tryd.ntmps21
  go_wp2
  go_ret
  have h := OwnB.lit w w.heap.size (Crc.four x) (Nat.le_refl _) (by simp [Crc.four])
  rw [bvals_four x hx] at h
  exact ⟨_, rfl, h, (Below.refl _ _).alloc (Nat.le_refl _) _⟩

set_option maxHeartbeats 400000 in
theorem clone_calls (A : Option Addr) (n c : Nat) (xs : List UInt8) (w : World) (ok : Nat → Prop) (hr : RdB w ok A n xs) (hn : n ≤ 140737488355328) :
    Calls Tryd.prog 20 #[.slice A n c] w (RetB w xs) := by
  have hq := fun W => Lib.run_eql_slice_nil (P := Tryd.prog) W 22 5 A n c 0 0 Tryd.underlying22
  rcases A with _ | ad
  · have h0 : n = 0 := by
      rcases Nat.eq_zero_or_pos n with h0 | h0
      · exact h0
      · obtain ⟨ad, h, _⟩ := hr.2.2 h0
        cases h
    subst h0
    obtain rfl : xs = [] := List.eq_nil_of_length_eq_zero hr.1
    go_enter Tryd.func20, Tryd.ntmps20
    go_wp2
    go_ret
    exact ⟨_, rfl, OwnB.nil _ _, Below.refl _ _⟩
  · have ho : OwnB (w.alloc (.cells #[] 5)) w.heap.size (.slice (some ⟨w.heap.size, 0, none⟩) 0 0) [] := OwnB.lit w w.heap.size [] (Nat.le_refl _) (by simp)
    have hb : Below w.heap.size w (w.alloc (.cells #[] 5)) := (Below.refl _ _).alloc (Nat.le_refl _) _
    have hn' : ([] : List UInt8).length + n ≤ 140737488355328 := by simpa using hn
    have hz : w.heap.size ≤ (w.alloc (.cells #[] 5)).heap.size := by simp
    go_enter Tryd.func20, Tryd.ntmps20
    go_wp2_with (at_builtin; refine appB w.heap.size w.heap.size rfl _ _ rfl (.slice (some ⟨w.heap.size, 0, none⟩) 0 0) [] xs (some ad) n c rfl rfl ho (hr.alloc _) hb hz (Nat.le_refl _) hn' ?_; intro v1 w1 ho1 hb1 _ _)
    go_ret
    exact ⟨_, rfl, by simpa using ho1, hb1⟩

set_option maxHeartbeats 400000 in
theorem seal_calls (A : Option Addr) (n c : Nat) (xs : List UInt8) (w : World) (ok : Nat → Prop) (hr : RdB w ok A n xs) (ht : Tab w) (hn : n ≤ 140737488351232) :
    Calls Tryd.prog 11 #[.slice A n c] w (RetB w (Crc.sealed xs)) := by
  have hl := Lib.hid hr.len
  go_enter Tryd.func11, Tryd.ntmps11
  go_wp2_with fail
  refine (clone_calls A n c xs w ok hr (by omega)).mono ?_
  rintro e w1 ⟨v1, rfl, ho1, hb1⟩
  go_wp2_with fail
  refine (sum_calls A n c xs w1 ok (hr.below hb1) (ht.below hb1)).mono ?_
  rintro e w2 ⟨rfl, rfl⟩
  go_wp2_with fail
  refine (four_calls _ w1 (Crc.sum_lt xs)).mono ?_
  rintro e w3 ⟨v3, rfl, ho3, hb3⟩
  obtain ⟨A3, c3, rfl, hc3, _, hr3⟩ := ho3.rd
  have hb13 := belowThen hb1 hb1.size hb3
  have hz : w.heap.size ≤ w3.heap.size := hb13.size
  have hlen : xs.length + (Crc.four (Crc.sum xs)).length ≤ 140737488355328 := by rw [hl.out]; simp [Crc.four]; omega
  have ho13 := ho1.below hb3
  go_wp2_with (at_builtin; refine appB w.heap.size w.heap.size rfl _ _ rfl v1 xs (Crc.four (Crc.sum xs)) A3 _ c3 rfl rfl ho13 hr3 hb13 hz (Nat.le_refl _) hlen ?_; intro v4 w4 ho4 hb4 _ _)
  go_ret
  exact ⟨_, rfl, ho4, hb4⟩

theorem take_drop_len (xs : List UInt8) (m : Nat) (h : xs.length = m + 4) : (xs.drop m).length = 4 ∧ (xs.take m).length = m := by simp [h]

/-- Open: too short. -/
theorem open_short (A : Option Addr) (n c : Nat) (w : World) (h4 : n < 4) :
    Calls Tryd.prog 15 #[.slice A n c] w fun e w' => e = .returned (.tuple #[.slice none 0 0, .int .i64 4]) ∧ w = w' := by
  go_enter Tryd.func15, Tryd.ntmps15
  go_wp2
  go_ret2
  exact ⟨rfl, rfl⟩
/-- Open: another sum. -/
theorem open_bad (A : Option Addr) (n m c : Nat) (xs : List UInt8) (w : World) (ok : Nat → Prop) (hr : RdB w ok A n xs) (hnm : n = m + 4) (hc : n ≤ c) (ht : Tab w) (hs : Crc.le (xs.drop m) ≠ Crc.sum (xs.take m)) :
    Calls Tryd.prog 15 #[.slice A n c] w fun e w' => e = .returned (.tuple #[.slice none 0 0, .int .i64 20]) ∧ ∃ k, w' = w.drewN k := by
  subst hnm
  obtain ⟨A1, k1, r1⟩ := cutFrom_run A (m + 4) c m (by omega) hc
  obtain ⟨A2, k2, r2⟩ := cutTo_run A (m + 4) c m (by omega) hc
  have h1 := r1 w ok xs hr
  have h2 := r2 w ok xs hr
  have e1 : m + 4 - m = 4 := by omega
  rw [e1] at h1 k1
  have hm := hr.max
  have hne : (((Crc.le (xs.drop m) : Nat) : Int) != ((Crc.sum (xs.take m) : Nat) : Int)) = true := by rw [bne_iff_ne]; omega
  clear r1 r2 hs hr e1
  go_enter Tryd.func15, Tryd.ntmps15
  go_wp2_with fail
  go_quiet ((first | (go_at_call 24; exact quietD (number_calls _ _ _ _ _ ok (h1.drewN _) rfl)) | (go_at_call 12; exact quietL (sum_calls _ _ _ _ _ ok (h2.drewN _) (ht.drewN _)))))
  go_wp2
  go_ret2
  exact ⟨rfl, _, rfl⟩
/-- Open: right. -/
def RetOpen (w : World) (xs : List UInt8) (e : Ending) (w' : World) : Prop := ∃ v, e = .returned (.tuple #[v, .int .i64 0]) ∧ OwnB w' w.heap.size v xs ∧ Below w.heap.size w w'
theorem open_good (A : Option Addr) (n m c : Nat) (xs : List UInt8) (w : World) (ok : Nat → Prop) (hr : RdB w ok A n xs) (hnm : n = m + 4) (hc : n ≤ c) (ht : Tab w) (hs : Crc.le (xs.drop m) = Crc.sum (xs.take m)) (hn : m ≤ 140737488355328) :
    Calls Tryd.prog 15 #[.slice A n c] w (RetOpen w (xs.take m)) := by
  subst hnm
  obtain ⟨A1, k1, r1⟩ := cutFrom_run A (m + 4) c m (by omega) hc
  obtain ⟨A2, k2, r2⟩ := cutTo_run A (m + 4) c m (by omega) hc
  have h1 := r1 w ok xs hr
  have h2 := r2 w ok xs hr
  have e1 : m + 4 - m = 4 := by omega
  rw [e1] at h1 k1
  have hm := hr.max
  have hne : (((Crc.le (xs.drop m) : Nat) : Int) != ((Crc.sum (xs.take m) : Nat) : Int)) = false := by rw [hs]; simp
  clear r1 r2 hs hr e1
  go_enter Tryd.func15, Tryd.ntmps15
  go_wp2_with fail
  go_quiet ((first | (go_at_call 24; exact quietD (number_calls _ _ _ _ _ ok (h1.drewN _) rfl)) | (go_at_call 12; exact quietL (sum_calls _ _ _ _ _ ok (h2.drewN _) (ht.drewN _)))))
  have ho : OwnB ((w.drewN nq).alloc (.cells #[] 5)) w.heap.size (.slice (some ⟨w.heap.size, 0, none⟩) 0 0) [] := OwnB.lit (w.drewN nq) w.heap.size [] (Nat.le_refl _) (by simp)
  have hb : Below w.heap.size w ((w.drewN nq).alloc (.cells #[] 5)) := (belowDrewN (Below.refl _ _) _).alloc (Nat.le_refl _) _
  have hn' : ([] : List UInt8).length + m ≤ 140737488355328 := by simpa using hn
  have hz : w.heap.size ≤ ((w.drewN nq).alloc (.cells #[] 5)).heap.size := by simp
  have hra := (h2.drewN nq).alloc (.cells #[] 5)
  go_wp2_with (at_builtin; refine appB w.heap.size w.heap.size rfl _ _ rfl (.slice (some ⟨w.heap.size, 0, none⟩) 0 0) [] (xs.take m) A2 m c rfl rfl ho hra hb hz (Nat.le_refl _) hn' ?_; intro v1 w1 ho1 hb1 _ _)
  go_ret2
  exact ⟨_, rfl, by simpa using ho1, hb1⟩
end Go.Proofs.YtfnaklflkegafaaDoor
