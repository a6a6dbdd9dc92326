/-
  The walk of CrcThree.
-/
import Derived.Test.YtfnaklflkegafaaDoorCrc5
namespace Go.Proofs.YtfnaklflkegafaaDoor
open Go.RowKit

theorem xor3_get : ∀ (a b c : List UInt8) (k : Nat), k < a.length → k < b.length → k < c.length → (Crc.xor3 a b c)[k]? = some ((a[k]?.getD 0) ^^^ (b[k]?.getD 0) ^^^ (c[k]?.getD 0))
  | [], _, _, _, h, _, _ => by simp at h
  | p :: ps, [], _, _, _, h, _ => by simp at h
  | p :: ps, q :: qs, [], _, _, _, h => by simp at h
  | p :: ps, q :: qs, r :: rs, 0, _, _, _ => by simp [Crc.xor3]
  | p :: ps, q :: qs, r :: rs, k + 1, h1, h2, h3 => by
    simp only [Crc.xor3, List.getElem?_cons_succ]
    exact xor3_get ps qs rs k (by simpa using h1) (by simpa using h2) (by simpa using h3)
theorem byt_take (xs : List UInt8) (k m : Nat) (h : k < m) : byt (xs.take m) k = byt xs k := by simp [byt, h]
theorem u8x (x y : Nat) (hx : x < 256) (hy : y < 256) : bits .xor .u8 (x : Int) (y : Int) = ((x ^^^ y : Nat) : Int) := u8_xor_nat x y hx hy
theorem xor_lt8 {x y : Nat} (hx : x < 256) (hy : y < 256) : x ^^^ y < 256 := Nat.xor_lt_two_pow (n := 8) hx hy
theorem take_set_succ (ys : List UInt8) (k : Nat) (u : UInt8) (h : k < ys.length) : (ys.set k u).take (k + 1) = ys.take k ++ [u] := by
  rw [List.take_succ_eq_append_getElem (by simpa using h), List.take_set_of_le (Nat.le_refl k)]
  simp

set_option maxHeartbeats 1600000 in
theorem crcThree_walk (w : World) (A : Option Addr) (n c : Nat) (xs : List UInt8) (B : Option Addr) (n1 c1 : Nat) (ys : List UInt8) (C : Option Addr) (n2 c2 : Nat) (zs : List UInt8)
    (hr : RdB w (fun k => k < w.heap.size) A n xs) (hc : n ≤ c) (hn : n ≤ 1048576) (hr1 : RdB w (fun k => k < w.heap.size) B n1 ys) (hc1 : n1 ≤ c1) (hn1 : n1 ≤ 1048576)
    (hr2 : RdB w (fun k => k < w.heap.size) C n2 zs) (hc2 : n2 ≤ c2) (hn2 : n2 ≤ 1048576) (ht : Tab w) :
    Calls Tryd.prog 6 #[.slice A n c, .slice B n1 c1, .slice C n2 c2] w fun e w' => e = .returned (.bool true) ∧ Below w.heap.size w w' := by
  obtain ⟨m, hm⟩ : ∃ m, m = min (min n n1) n2 := ⟨_, rfl⟩
  have hmin := min3_run n n1 n2 m hm
  have b0 : m ≤ n := by omega
  have b1 : m ≤ n1 := by omega
  have b2 : m ≤ n2 := by omega
  clear hm
  have hmk := makeB_run m (by omega)
  obtain ⟨A', kA, rA⟩ := cutTo_run A n c m b0 hc
  obtain ⟨B', kB, rB⟩ := cutTo_run B n1 c1 m b1 hc1
  obtain ⟨C', kC, rC⟩ := cutTo_run C n2 c2 m b2 hc2
  have sA := rA w _ xs hr
  have sB := rB w _ ys hr1
  have sC := rC w _ zs hr2
  clear rA rB rC
  have lx := hr.len
  have ly := hr1.len
  have lz := hr2.len
  have HX := Lib.hid (Crc.sum_xor3 (xs.take m) (ys.take m) (zs.take m) (by simp; omega) (by simp; omega))
  have HL := Lib.hid (Crc.xor3_length (xs.take m) (ys.take m) (zs.take m) (by simp; omega) (by simp; omega))
  have hown := makeB_own w w.heap.size m (Nat.le_refl _) (by omega)
  have hbel : Below w.heap.size w (w.alloc (.cells (madeCells #[.int .u8 0] m) 5)) := (Below.refl _ _).alloc (Nat.le_refl _) _
  go_enter Tryd.func6, Tryd.ntmps6
  go_wp2_with fail
  generalize w.alloc (.cells (madeCells #[.int .u8 0] m) 5) = w0 at *
  clear hmin hmk
  go_loopw [9] (fun i wr => ∃ (k : Nat) (ts : List UInt8), k ≤ m ∧ i = .int .i64 k ∧ ts.length = m ∧ OwnB wr w.heap.size (.slice (some ⟨w.heap.size, 0, none⟩) m m) ts ∧ Below w.heap.size w wr ∧ ts.take k = (Crc.xor3 (xs.take m) (ys.take m) (zs.take m)).take k) (fun i _ => m - (intOf i).toNat)
  case atStart => exact ⟨0, _, Nat.zero_le _, rfl, by simp, hown, hbel, rfl⟩
  case round =>
    obtain ⟨k, ts, hk, rfl, hts, ho, hb, hpre⟩ := hrel
    clear hown hbel
    by_cases hlt : k < m
    · obtain ⟨ba, oa, rfl, lca, ca⟩ := (hr.below hb).atk k (by omega)
      obtain ⟨bb, ob, rfl, lcb, cb⟩ := (hr1.below hb).atk k (by omega)
      obtain ⟨bc, oc, rfl, lcc, cc⟩ := (hr2.below hb).atk k (by omega)
      have ho' : OwnB wr w.heap.size (.slice (some ⟨w.heap.size, 0, none⟩) ts.length m) ts := by rw [hts]; exact ho
      obtain ⟨g, cap, e1, _, hgl, _, hcell, hfz⟩ := ho'.form (by omega)
      cases e1
      have cg := hcell k (by omega)
      have fg := hfz k
      have hk0 : (0 : Int) ≤ (k : Int) := by omega
      have i0 : (k : Int) < (n : Int) := by omega
      have i1 : (k : Int) < (n1 : Int) := by omega
      have i2 : (k : Int) < (n2 : Int) := by omega
      have i3 : (k : Int) < (m : Int) := by omega
      have x1 := u8x (byt xs k) (byt ys k) (byt_lt _ _) (byt_lt _ _)
      have x2 := u8x (byt xs k ^^^ byt ys k) (byt zs k) (xor_lt8 (byt_lt _ _) (byt_lt _ _)) (byt_lt _ _)
      have ho2 := ho'.store k ((xs[k]?.getD 0) ^^^ (ys[k]?.getD 0) ^^^ (zs[k]?.getD 0))
      rw [UInt8.toNat_xor, UInt8.toNat_xor] at ho2
      have HG := Lib.hid (xor3_get (xs.take m) (ys.take m) (zs.take m) k (by simp; omega) (by simp; omega) (by simp; omega))
      have hb2 := hb.grown ho2.2 hb.size (fun q hq => by cases hq; exact Nat.le_refl _)
      have ca' := cellSet (p := ⟨w.heap.size, k, none⟩) (u := .int .u8 ((byt xs k ^^^ byt ys k ^^^ byt zs k : Nat) : Int)) ca (show ba ≠ w.heap.size by omega)
      have cb' := cellSet (p := ⟨w.heap.size, k, none⟩) (u := .int .u8 ((byt xs k ^^^ byt ys k ^^^ byt zs k : Nat) : Int)) cb (show bb ≠ w.heap.size by omega)
      have cc' := cellSet (p := ⟨w.heap.size, k, none⟩) (u := .int .u8 ((byt xs k ^^^ byt ys k ^^^ byt zs k : Nat) : Int)) cc (show bc ≠ w.heap.size by omega)
      have hb3 : Below w.heap.size w (wr.setCell ⟨w.heap.size, k, none⟩ (.int .u8 ((byt xs k ^^^ byt ys k ^^^ byt zs k : Nat) : Int))).drew := hb2.drew
      have ho3 : OwnB (wr.setCell ⟨w.heap.size, k, none⟩ (.int .u8 ((byt xs k ^^^ byt ys k ^^^ byt zs k : Nat) : Int))).drew w.heap.size (.slice (some ⟨w.heap.size, 0, none⟩) m m) (ts.set k ((xs[k]?.getD 0) ^^^ (ys[k]?.getD 0) ^^^ (zs[k]?.getD 0))) := by
        have h := ho2.1
        unfold OwnB at h ⊢
        rw [List.length_set, hts] at h
        rw [List.length_set, hts]
        exact h
      clear hb2 ho2
      clear hr hr1 hr2 kA kB kC sA sB sC hcell hfz
      go_wp2_with fail
      go_region_held3 (fun w' => w'.cell? ⟨ba, oa + k, none⟩ = some (.int .u8 (byt xs k : Int)) ∧ w'.cell? ⟨bb, ob + k, none⟩ = some (.int .u8 (byt ys k : Int)) ∧ w'.cell? ⟨bc, oc + k, none⟩ = some (.int .u8 (byt zs k : Int))) (first | go_keep | exact ⟨ca', cb', cc'⟩) (fail)
      go_wp2
      go_roundw
      case rel =>
        refine ⟨k + 1, _, by omega, by go_num, ?_, ho3, hb3, ?_⟩
        · rw [List.length_set]; exact hts
        · rw [take_set_succ _ _ _ (by omega), hpre, List.take_add_one, HG.out]
          simp [show k < m by omega]
      case measure => simp [intOf]; omega
    · obtain rfl : k = m := by omega
      have hts' : ts = Crc.xor3 (xs.take k) (ys.take k) (zs.take k) := by
        rw [List.take_of_length_le (by omega), List.take_of_length_le (by rw [HL.out]; simp; omega)] at hpre
        exact hpre
      have ho' : OwnB wr w.heap.size (.slice (some ⟨w.heap.size, 0, none⟩) ts.length k) ts := by rw [hts]; exact ho
      obtain ⟨A4, c4, e4, _, _, r4⟩ := ho'.rd
      cases e4
      rw [hts] at r4
      have tA := sA.below hb
      have tB := sB.below hb
      have tC := sC.below hb
      have htr := ht.below hb
      have y1 := Crc.sum_lt (xs.take k)
      have y2 := Crc.sum_lt (ys.take k)
      have y3 := Crc.sum_lt (zs.take k)
      have z1 := u32_xor_nat _ _ y1 y2
      have z2 := u32_xor_nat _ _ (Nat.xor_lt_two_pow (n := 32) y1 y2) y3
      have heq : (((Crc.sum ts : Nat) : Int) == ((Crc.sum (xs.take k) ^^^ Crc.sum (ys.take k) ^^^ Crc.sum (zs.take k) : Nat) : Int)) = true := by rw [hts', HX.out]; simp
      clear hpre hts' ho ho' sA sB sC hr hr1 hr2
      clear lx ly lz hts
      go_wp2_with fail
      go_region_with ((first | (go_at_call 12; (with_reducible refine (sum_calls (some ⟨w.heap.size, 0, none⟩) k k ts _ _ r4.drew htr.drew).mono ?_); rintro e w' ⟨rfl, rfl⟩) | (go_at_call 12; (with_reducible refine (sum_calls A' k c _ _ _ tA.drew htr.drew).mono ?_); rintro e w' ⟨rfl, rfl⟩) | (go_at_call 12; (with_reducible refine (sum_calls B' k c1 _ _ _ tB.drew htr.drew).mono ?_); rintro e w' ⟨rfl, rfl⟩) | (go_at_call 12; (with_reducible refine (sum_calls C' k c2 _ _ _ tC.drew htr.drew).mono ?_); rintro e w' ⟨rfl, rfl⟩) | (go_at_call 17; refine (wakes_calls _ htr.drew).mono ?_; rintro e w3 ⟨rfl, hb3⟩)))
      all_goals
        have hb4 := belowThen hb.drew hb.size hb3
        go_wp2
        go_ret
        exact ⟨rfl, hb4⟩
end Go.Proofs.YtfnaklflkegafaaDoor
