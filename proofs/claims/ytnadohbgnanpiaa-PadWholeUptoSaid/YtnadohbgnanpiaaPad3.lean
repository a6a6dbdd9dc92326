/-
  The walk of pad.Lay.
-/
import Derived.Test.YtnadohbgnanpiaaPad2
import Derived.Test.YtnadohbgnanpiaaZeros
namespace Go.Proofs.Ytnadohbgnanpiaa
open Go.RowKit

theorem RdB.pre {w : World} {ok : Nat → Prop} {A : Option Addr} {n : Nat} {xs : List UInt8} (h : RdB w ok A n xs) (m : Nat) (hm : m ≤ n) : RdB w ok A m (xs.take m) := by
  refine ⟨by rw [List.length_take, h.1]; omega, by have := h.2.1; omega, fun hn => ?_⟩
  obtain ⟨ad, e, ho, hl, hs, hc⟩ := h.2.2 (by omega)
  refine ⟨ad, e, ho, hl, hs, fun j hj => ?_⟩
  rw [hc j (by omega)]
  have e : byt (xs.take m) j = byt xs j := by unfold byt; rw [List.getElem?_take, if_pos hj]
  rw [e]
theorem cut3_run (A : Option Addr) (n c lo hi : Nat) (h1 : lo ≤ hi) (h2 : hi ≤ n) (h3 : n ≤ c) :
    ∃ A' : Option Addr, (∀ W : World, (Instr.slice 28 (.slice A n c) (some (.int .i64 (lo : Int))) (some (.int .i64 (hi : Int))) (some (.int .i64 (hi : Int)))).run Try.prog W = .ok (.slice A' (hi - lo) (hi - lo)) W) ∧
      ∀ (w : World) (ok : Nat → Prop) (xs : List UInt8), RdB w ok A n xs → RdB w ok A' (hi - lo) ((xs.take hi).drop lo) := by
  refine ⟨if hi = lo then A else A.map fun a => a.add (lo * 1), fun W => ?_, fun w ok xs h => ?_⟩
  · rw [run_slice_lhm W _ A n c (by kernel_rfl) .i64 .i64 .i64 lo hi hi (by omega) (by omega) (by omega) (by omega)]
    have hsz : (sizeOf (Try.prog.elem 28)).run Try.prog W = .ok 1 W := by rfl
    rw [hsz]
    rfl
  · have := (h.pre hi h2).cut h1 (Nat.le_refl _) (Nat.le_refl _)
    rwa [List.take_take, Nat.min_self] at this
theorem lay_bad (A : Option Addr) (n c : Nat) (g s : Int) (w : World) (h : ¬ okGS g s) :
    Calls Try.prog 10 #[.slice A n c, .int .i64 g, .int .i64 s] w fun e w' => e = .returned (.tuple #[.slice none 0 0, .int .i64 1]) ∧ w = w' := by
  have H := Lib.hid h
  clear h
  go_enter Try.func10, Try.ntmps10
  go_wp2_with fail
  refine (room_bad g s w H.out).mono ?_
  rintro e w' ⟨rfl, rfl⟩
  go_wp2_with fail
  go_ret2
  exact ⟨rfl, rfl⟩
theorem lay_short (A : Option Addr) (c a b P : Nat) (w : World) (hP : ((a : Int) * (b : Int)) = (P : Int)) (h1 : 1 ≤ a) (h2 : a ≤ 255) (h3 : 1 ≤ b) (h4 : b ≤ 65535) (h5 : 4 < P) (h6 : P ≤ 16711425) :
    Calls Try.prog 10 #[.slice A 0 c, .int .i64 (a : Int), .int .i64 (b : Int)] w fun e w' => e = .returned (.tuple #[.slice none 0 0, .int .i64 4]) ∧ w = w' := by
  have HP := Lib.hid hP
  clear hP
  go_enter Try.func10, Try.ntmps10
  go_wp2_with fail
  refine (room_calls a b P w HP.out h1 h2 h3 h4 h5 h6).mono ?_
  rintro e w' ⟨rfl, rfl⟩
  go_wp2_with fail
  go_ret2
  exact ⟨rfl, rfl⟩
theorem lay_long (A : Option Addr) (n c a b P : Nat) (w : World) (hP : ((a : Int) * (b : Int)) = (P : Int)) (h1 : 1 ≤ a) (h2 : a ≤ 255) (h3 : 1 ≤ b) (h4 : b ≤ 65535) (h5 : 4 < P) (h6 : P ≤ 16711425) (hn : P - 4 < n) :
    Calls Try.prog 10 #[.slice A n c, .int .i64 (a : Int), .int .i64 (b : Int)] w fun e w' => e = .returned (.tuple #[.slice none 0 0, .int .i64 3]) ∧ w = w' := by
  have HP := Lib.hid hP
  have hn0 : ((n : Int) == 0) = false := by rw [beq_eq_false_iff_ne]; omega
  have hn1 : ((P - 4 : Nat) : Int) < (n : Int) := by omega
  clear hP
  go_enter Try.func10, Try.ntmps10
  go_wp2_with fail
  refine (room_calls a b P w HP.out h1 h2 h3 h4 h5 h6).mono ?_
  rintro e w' ⟨rfl, rfl⟩
  go_wp2_with fail
  go_ret2
  exact ⟨rfl, rfl⟩
set_option maxHeartbeats 2000000 in
theorem lay_calls (A : Option Addr) (n c a b P : Nat) (xs : List UInt8) (w : World) (ok : Nat → Prop) (hr : RdB w ok A n xs) (hab : a * b = P) (hP : ((a : Int) * (b : Int)) = (P : Int)) (h1 : 1 ≤ a) (h2 : a ≤ 255) (h3 : 1 ≤ b) (h4 : b ≤ 65535) (h5 : 4 < P) (h6 : P ≤ 16711425) (hn1 : 1 ≤ n) (hn : n ≤ P - 4) :
    Calls Try.prog 10 #[.slice A n c, .int .i64 (a : Int), .int .i64 (b : Int)] w fun e w' => ∃ v, e = .returned (.tuple #[v, .int .i64 0]) ∧ OwnBB w' w.heap.size v (Pad.lays xs a b) ∧ Below w.heap.size w w' := by
  have HP := Lib.hid hP
  have HAB := Lib.hid hab
  have hn0 : ((n : Int) == 0) = false := by rw [beq_eq_false_iff_ne]; omega
  have hn2 : ¬ ((P - 4 : Nat) : Int) < (n : Int) := by omega
  have hnum : Wire.numOf [] n 4 = (Wire.form n 4, 0) := by
    rw [Wire.numOf, if_neg (by omega), if_neg (by simp; omega)]
    rfl
  have hfl : (Wire.form n 4).length = 4 := Wire.form_length _ _
  have hxl := hr.len
  have HXL := Lib.hid hxl
  obtain ⟨m, hm⟩ : ∃ m, P - 4 - n = m := ⟨_, rfl⟩
  obtain ⟨R, hR⟩ : ∃ R, P - 4 = R := ⟨_, rfl⟩
  have hall : Wire.form n 4 ++ xs ++ List.replicate m 0 = Pad.full xs P := by rw [Pad.full, hxl, hm]
  have hfull : (Pad.full xs P).length = P := Pad.full_length xs P (by omega)
  have hsub : ((R : Nat) : Int) - (n : Int) = (m : Int) := by omega
  have hmP : (Wire.form n 4 ++ xs).length + m ≤ 1099511627776 := by rw [List.length_append, hfl, hxl]; omega
  have hln : (Wire.form n 4).length + n ≤ 140737488355328 := by rw [hfl]; omega
  rw [hR] at hn2
  have HALL := Lib.hid hall
  have HFULL := Lib.hid hfull
  have hroom := room_calls a b P w hP h1 h2 h3 h4 h5 h6
  rw [hR] at hroom
  have HR := Lib.hid hR
  have hn1i : 1 ≤ (n : Int) := by omega
  have hRi : R ≤ 16711421 := by omega
  have hnR : n ≤ R := by omega
  clear hm hR hall hfull hxl hfl hn
  have hwn : IntKind.u64.wrap (n : Int) = (n : Int) := IntWalk.u64_in _ ⟨by omega, by omega⟩
  clear hP hab
  go_enter Try.func10, Try.ntmps10
  go_wp2_with fail
  refine hroom.mono ?_
  rintro e w' ⟨rfl, rfl⟩
  clear hroom
  go_wp2_with fail
  refine (wnum_any none 0 0 n 4 [] w (fun _ => True) (RdB.nil _ _ _) (by omega) (by omega)).mono ?_
  unfold RetNum
  rw [hnum]
  rintro e w1 ⟨v1, rfl, ho1, hb1⟩
  have hr1 := hr.below hb1
  have hz1 := hb1.size
  clear hnum
  go_wp2_with (first
    | (at_builtin; refine appB w.heap.size w.heap.size rfl _ _ rfl v1 (Wire.form n 4) xs A n c rfl rfl ho1 hr1 hb1 hz1 (Nat.le_refl _) hln ?_; intro v2 w2 ho2 hb2 _ _; have hz2 := hb2.size; clear ho1 hr1 hb1 hz1)
    | (at_builtin; go_loud (refine appZ w.heap.size w.heap.size rfl _ _ rfl v2 (Wire.form n 4 ++ xs) m rfl rfl ho2 hb2 hz2 (Nat.le_refl _) hmP ?_); intro v3 w3 ho3 hb3 _; clear ho2 hb2 hz2))
  have ho4 : OwnB w3 w.heap.size v3 (Pad.full xs P) := by rw [← HALL.out]; exact ho3
  obtain ⟨A3, c3, e3, hc3, _, r3⟩ := ho4.rd
  have hl3 := ho4.lt
  subst e3
  rw [HFULL.out] at r3 hc3 hl3 ⊢
  have r4 : RdB w3 (fun k => w.heap.size ≤ k ∧ k < w3.heap.size) A3 P (Pad.full xs P) := r3.mono fun k hk hl => ⟨hk.1, hl⟩
  clear ho3 ho4 r3 hl3
  obtain ⟨ls, hls⟩ : ∃ ls, Pad.lays xs a b = ls := ⟨_, rfl⟩
  have hll : ls.length = a := by rw [← hls]; exact Pad.lays_length xs a b
  have hget : ∀ k q, k < a → q = k * b → lrow ls k = ((Pad.full xs P).take (q + b)).drop q := fun k q hk hq => by
    rw [← hls, Pad.lays, HAB.out, lrow, Pad.parts_get b a _ k hk, hq, Option.getD_some, List.drop_take]
    congr 1
    omega
  have hP2 : ((a : Int) * (b : Int)) = (P : Int) := HP.out
  have HLS := Lib.hid hls
  clear hls
  go_loopw [12, 13] (fun v i wr => ∃ k q : Nat, k ≤ a ∧ q = k * b ∧ i = .int .i64 (q : Int) ∧ OwnBB wr w.heap.size v (ls.take k) ∧ (∀ x, v.ownBlock = some x → w3.heap.size ≤ x) ∧ Below w3.heap.size w3 wr) (fun _ i _ => P - (intOf i).toNat)
  case atStart => exact ⟨0, 0, Nat.zero_le _, by simp, rfl, OwnBB.nil _ _, (fun x hx => by cases hx), Below.refl _ _⟩
  case round =>
    obtain ⟨k, q, hk, hq, rfl, ho, hown, hbe⟩ := hrel
    by_cases hlt : k < a
    · have hqb : q + b ≤ P := by
        rw [hq, ← HAB.out, ← Nat.succ_mul]
        exact Nat.mul_le_mul_right _ hlt
      have hqP : (q : Int) < (P : Int) := by omega
      have hnq : q + b = (k + 1) * b := by rw [Nat.succ_mul, hq]
      obtain ⟨A5, hcut, hcr⟩ := cut3_run A3 P c3 q (q + b) (by omega) hqb hc3
      have e5 : q + b - q = b := by omega
      rw [e5] at hcut hcr
      have hq2 : ((q + b : Nat) : Int) = (q : Int) + (b : Int) := by omega
      rw [hq2] at hcut
      have r5 := hcr wr _ _ (r4.below hbe)
      rw [← hget k q hlt hq] at r5
      have r6 : RdB wr (fun x => w.heap.size ≤ x ∧ u12.ownBlock ≠ some x) A5 b (lrow ls k) := r5.mono fun x hx _ => ⟨hx.1, fun e => by have := hown x e; omega⟩
      have hz5 : w.heap.size ≤ wr.heap.size := Nat.le_trans hb3.size hbe.size
      have hbw : Below w.heap.size w wr := belowThen hb3 hb3.size hbe
      have htk : ls.take (k + 1) = ls.take k ++ [lrow ls k] := by
        rw [List.take_add_one, lrow_eq ls k (by omega)]; simp [show k < ls.length by omega]
      have hlen : (ls.take k).length ≤ 1099511627776 := by rw [List.length_take]; omega
      have HTK := Lib.hid htk
      have HNQ := Lib.hid hnq
      have HQ := Lib.hid hq
      clear hcr r5 hget htk hnq hq hq2 e5
      go_wp2_with (at_builtin; go_loud (refine appBB (w0 := w) w.heap.size w.heap.size rfl _ _ rfl u12 (ls.take k) (lrow ls k) A5 b b rfl rfl ho (Nat.le_refl _) r6 hbw hz5 (Nat.le_refl _) hlen ?_); intro v5 w5 ho5 hb5 hg5 hv5; clear r6)
      go_roundw
      case rel =>
        refine ⟨k + 1, q + b, by omega, HNQ.out, by go_num, by rw [HTK.out]; exact ho5, fun x hx => ?_, hbe.grown hg5 hbe.size fun x hx => hown x hx⟩
        rcases hv5 with e | e
        · exact hown x (by rw [← e]; exact hx)
        · rw [e] at hx
          cases hx
          have := hbe.size
          omega
      case measure => simp [intOf]; omega
    · obtain rfl : a = k := by omega
      obtain rfl : q = P := by rw [hq, HAB.out]
      have HQ := Lib.hid hq
      have hbw : Below w.heap.size w wr := belowThen hb3 hb3.size hbe
      clear hget hq
      go_wp2_with fail
      go_ret2
      refine ⟨_, rfl, ?_, hbw⟩
      rw [HLS.out]
      rwa [List.take_of_length_le (by omega)] at ho
end Go.Proofs.Ytnadohbgnanpiaa
