/-
  The walk of WireOrder.
-/
import Derived.Test.YtljbghgpojdikaaWire4
import Derived.Lib.Bytealg
import Derived.Laws.Externs
namespace Go.Proofs.Ytljbghgpojdikaa
open Go.RowKit

theorem run_loadBytes (w : World) : ∀ (xs : List UInt8) (b o : Nat) (acc : ByteArray), (∀ j, j < xs.length → w.cell? ⟨b, o + j, none⟩ = some (.int .u8 (byt xs j : Int))) →
    (Extern.Bytes.loadBytes ⟨b, o, none⟩ xs.length acc).run Try.prog w = .ok ⟨acc.data ++ xs.toArray⟩ w := by
  intro xs
  induction xs with
  | nil => intro b o acc _; simp [Extern.Bytes.loadBytes]
  | cons x xs ih =>
    intro b o acc h
    have h0 := h 0 (by simp)
    have hx : byt (x :: xs) 0 = x.toNat := rfl
    rw [hx, Nat.add_zero] at h0
    have h1 := ih b (o + 1) (acc.push x) (fun j hj => by
      have := h (j + 1) (by simpa using hj)
      have e : byt (x :: xs) (j + 1) = byt xs j := by simp [byt]
      rw [e, show o + (j + 1) = o + 1 + j by omega] at this
      exact this)
    have ha : (⟨b, o, none⟩ : Addr).add 1 = ⟨b, o + 1, none⟩ := addPlain _ _ _
    simp only [List.length_cons, Extern.Bytes.loadBytes, Sem.run_bind]
    have hl : (load ⟨b, o, none⟩).run Try.prog w = .ok (.int .u8 (x.toNat : Int)) w := by rw [run_load, h0]
    rw [hl]
    simp only [Result.andThen_ok, ha]
    have hxx : ((x.toNat : Nat) : Int).toNat.toUInt8 = x := by simp
    rw [hxx, h1]
    congr 2
    simp [ByteArray.push]
theorem run_bytesOf {w : World} {ok : Nat → Prop} {A : Option Addr} {n : Nat} {xs : List UInt8} (h : RdB w ok A n xs) (c : Nat) : (Extern.Bytes.bytesOf (.slice A n c)).run Try.prog w = .ok (strOf xs) w := by
  rcases A with _ | ad
  · have h0 : n = 0 := by
      rcases Nat.eq_zero_or_pos n with h0 | h0
      · exact h0
      · obtain ⟨ad, h, _⟩ := h.2.2 h0
        cases h
    subst h0
    obtain rfl : xs = [] := List.eq_nil_of_length_eq_zero h.1
    rfl
  · obtain ⟨hl, _, hc⟩ := h
    rcases Nat.eq_zero_or_pos n with h0 | h0
    · subst h0
      obtain rfl : xs = [] := List.eq_nil_of_length_eq_zero hl
      rfl
    · obtain ⟨⟨b, o, s⟩, e, _, _, hs, hcc⟩ := hc h0
      simp only at hs
      subst hs
      cases e
      subst hl
      have := run_loadBytes w xs b o .empty (fun j hj => by rw [← addPlain]; exact hcc j hj)
      simpa [Extern.Bytes.bytesOf, strOf] using this

theorem run_compare {w : World} {ok ok' : Nat → Prop} {A A' : Option Addr} {n n' : Nat} {xs ys : List UInt8} (h : RdB w ok A n xs) (h' : RdB w ok' A' n' ys) (c c' : Nat) :
    (Extern.BytealgCompare.compare #[.slice A n c, .slice A' n' c']).run Try.prog w = .ok (.int .i64 (Lib.compareBytes xs ys)) w := by
  change Sem.run Try.prog (do pure (goInt (Extern.BytealgCompare.cmp (← Extern.Bytes.bytesOf (.slice A n c)) (← Extern.Bytes.bytesOf (.slice A' n' c'))))) w = _
  simp only [Sem.run_bind, run_bytesOf h c, run_bytesOf h' c', Sem.run_pure, Result.andThen]
  rw [Lib.cmp_eq]
  rfl

/-! ### Order -/
theorem beFrom_at (xs : List UInt8) : ∀ n, Wire.beFrom n xs = n * 256 ^ xs.length + Wire.be xs := by
  induction xs with
  | nil => intro n; simp [Wire.beFrom, Wire.be]
  | cons b bs ih =>
    intro n
    simp only [Wire.beFrom, Wire.be, List.length_cons]
    rw [ih, ih (256 * 0 + b.toNat), Nat.pow_succ]
    have h1 : (256 * n + b.toNat) * 256 ^ bs.length = n * (256 ^ bs.length * 256) + b.toNat * 256 ^ bs.length := by
      rw [Nat.add_mul, Nat.mul_comm 256 n, Nat.mul_assoc, Nat.mul_comm 256 (256 ^ bs.length)]
    rw [h1]
    simp only [Nat.mul_zero, Nat.zero_add]
    omega
theorem be_cons (b : UInt8) (bs : List UInt8) : Wire.be (b :: bs) = b.toNat * 256 ^ bs.length + Wire.be bs := by
  show Wire.beFrom (256 * 0 + b.toNat) bs = _
  rw [beFrom_at]
  simp
def ordOf (a b : Nat) : Int := if a < b then -1 else if b < a then 1 else 0
theorem compare_be : ∀ (xs ys : List UInt8), xs.length = ys.length → Lib.compareBytes xs ys = ordOf (Wire.be xs) (Wire.be ys)
  | [], [], _ => by simp [Lib.compareBytes, ordOf]
  | [], _ :: _, h => by simp at h
  | _ :: _, [], h => by simp at h
  | a :: al, b :: bs, h => by
    have hl : al.length = bs.length := by simpa using h
    have ih := compare_be al bs hl
    have ha := Wire.be_lt al
    have hb := Wire.be_lt bs
    rw [be_cons, be_cons, hl]
    rw [hl] at ha
    unfold Lib.compareBytes
    generalize 256 ^ bs.length = P at *
    rcases Nat.lt_trichotomy a.toNat b.toNat with h1 | h1 | h1
    · have h2 : a < b := h1
      have h3 : (a.toNat + 1) * P ≤ b.toNat * P := Nat.mul_le_mul_right _ h1
      rw [Nat.add_mul, Nat.one_mul] at h3
      rw [if_pos h2, ordOf, if_pos (by omega)]
    · have h2 : a = b := UInt8.toNat_inj.1 h1
      subst h2
      have h3 : ¬ a < a := by simp
      rw [if_neg h3, if_neg h3, ih]
      unfold ordOf
      congr 1
      · simp
      · congr 1
        simp
    · have h2 : b < a := h1
      have h4 : ¬ a < b := by
        intro h
        have : a.toNat < b.toNat := h
        omega
      have h3 : (b.toNat + 1) * P ≤ a.toNat * P := Nat.mul_le_mul_right _ h1
      rw [Nat.add_mul, Nat.one_mul] at h3
      rw [if_neg h4, if_pos h2, ordOf, if_neg (by omega), if_pos (by omega)]

set_option maxHeartbeats 1000000 in
theorem compare_calls (A A' : Option Addr) (n c n' c' : Nat) (xs ys : List UInt8) (w : World) (ok ok' : Nat → Prop) (hr : RdB w ok A n xs) (hr' : RdB w ok' A' n' ys) (he : xs.length = ys.length) :
    Calls Try.prog 16 #[.slice A n c, .slice A' n' c'] w fun e w' => e = .returned (.int .i64 (ordOf (Wire.be xs) (Wire.be ys))) ∧ w = w' := by
  have hrun := run_compare hr hr' c c'
  rw [compare_be xs ys he] at hrun
  have hex : ∀ (args : Array Value) (W : World), (callFunc 27 args).run Try.prog W = ((Extern.BytealgCompare.compare args).run Try.prog W).andThen fun v w' => .ok (.value v) w' := fun args W =>
    run_callFunc_extern (P := Try.prog) (f := 27) (by rfl) (by kernel_rfl) (by kernel_rfl) (by kernel_rfl) (by kernel_rfl) args W
  clear hr hr' he
  go_enter Try.func16, Try.ntmps16
  go_wp2
  go_ret
  exact ⟨rfl, rfl⟩

theorem num_long (y k : Nat) (h : 256 ^ k ≤ y) (h1 : 1 ≤ k) (h8 : k ≤ 8) : Wire.numOf [] y (k : Int) = ([], 3) := by
  rw [Wire.numOf, if_neg (by omega), if_pos (by simpa using h)]
theorem num_fits (y k : Nat) (h : y < 256 ^ k) (h1 : 1 ≤ k) (h8 : k ≤ 8) : Wire.numOf [] y (k : Int) = (Wire.form y k, 0) := by
  rw [Wire.numOf, if_neg (by omega), if_neg (by simpa using h)]; rfl
theorem ord_form (a b k : Nat) (ha : a < 256 ^ k) (hb : b < 256 ^ k) : ordOf (Wire.be (Wire.form a k)) (Wire.be (Wire.form b k)) = ordOf a b := by
  rw [Wire.be_form, Wire.be_form, Nat.mod_eq_of_lt ha, Nat.mod_eq_of_lt hb]

set_option maxHeartbeats 3200000 in
theorem wireOrder_walk (w : World) (a b m : Nat) (ha : a < 18446744073709551616) (hb : b < 18446744073709551616) (hm : m < 256) :
    Calls Try.prog 5 #[.int .u64 (a : Int), .int .u64 (b : Int), .int .u8 (m : Int)] w fun e w' => e = .returned (.bool true) ∧ Below w.heap.size w w' := by
  obtain ⟨k, hk⟩ : ∃ k, k = 1 + m % 8 := ⟨_, rfl⟩
  have hkm : 1 + (m : Int) % 8 = (k : Int) := by omega
  have hkm' : (m : Int) % 8 + 1 = (k : Int) := by omega
  have HK := Lib.hid hk
  have k1 : 1 ≤ k := by omega
  have k8 : k ≤ 8 := by omega
  clear hk
  go_enter Try.func5, Try.ntmps5
  go_wp2_with fail
  refine (wnum_any none 0 0 a (k : Int) [] w (fun _ => True) (RdB.nil _ _ _) (by omega) ha).mono ?_
  unfold RetNum
  by_cases hal : 256 ^ k ≤ a
  · rw [num_long a k hal k1 k8]
    rintro e w1 ⟨v1, rfl, ho1, hb1⟩
    obtain ⟨A1, c1, rfl, _, _, _⟩ := ho1.rd
    clear hal ho1
    go_wp2_with fail
    refine (wnum_any none 0 0 b (k : Int) [] w1 (fun _ => True) (RdB.nil _ _ _) (by omega) hb).mono ?_
    unfold RetNum
    by_cases hbl : 256 ^ k ≤ b
    · rw [num_long b k hbl k1 k8]
      rintro e w2 ⟨v2, rfl, ho2, hb2⟩
      obtain ⟨A2, c2, rfl, _, _, _⟩ := ho2.rd
      have hb12 := belowThen hb1 hb1.size hb2
      clear hbl ho2
      go_wp2_with fail
      refine (awake_calls w2).mono ?_
      rintro e w3 ⟨rfl, hb3⟩
      go_wp2
      go_ret
      exact ⟨rfl, belowThen hb12 hb12.size hb3⟩
    · rw [num_fits b k (by omega) k1 k8]
      rintro e w2 ⟨v2, rfl, ho2, hb2⟩
      have hb12 := belowThen hb1 hb1.size hb2
      clear hbl ho2
      go_wp2_with fail
      refine (awake_calls w2).mono ?_
      rintro e w3 ⟨rfl, hb3⟩
      go_wp2
      go_ret
      exact ⟨rfl, belowThen hb12 hb12.size hb3⟩
  · rw [num_fits a k (by omega) k1 k8]
    rintro e w1 ⟨v1, rfl, ho1, hb1⟩
    obtain ⟨A1, c1, rfl, _, _, r1⟩ := ho1.rd
    rw [Wire.form_length] at r1 ⊢
    clear ho1
    go_wp2_with fail
    refine (wnum_any none 0 0 b (k : Int) [] w1 (fun _ => True) (RdB.nil _ _ _) (by omega) hb).mono ?_
    unfold RetNum
    by_cases hbl : 256 ^ k ≤ b
    · rw [num_long b k hbl k1 k8]
      rintro e w2 ⟨v2, rfl, ho2, hb2⟩
      obtain ⟨A2, c2, rfl, _, _, _⟩ := ho2.rd
      have hb12 := belowThen hb1 hb1.size hb2
      clear hbl ho2 hal r1
      go_wp2_with fail
      refine (awake_calls w2).mono ?_
      rintro e w3 ⟨rfl, hb3⟩
      go_wp2
      go_ret
      exact ⟨rfl, belowThen hb12 hb12.size hb3⟩
    · rw [num_fits b k (by omega) k1 k8]
      rintro e w2 ⟨v2, rfl, ho2, hb2⟩
      obtain ⟨A2, c2, rfl, _, _, r2⟩ := ho2.rd
      rw [Wire.form_length] at r2 ⊢
      have hb12 := belowThen hb1 hb1.size hb2
      have r1' := r1.below hb2
      have hof := ord_form a b k (by omega) (by omega)
      clear ho2 hal hbl r1
      go_wp2_with fail
      refine (compare_calls A1 A2 k c1 k c2 _ _ w2 _ _ r1' r2 (by rw [Wire.form_length, Wire.form_length])).mono ?_
      rintro e w3 ⟨rfl, rfl⟩
      rw [hof]
      clear r1' r2 hof
      rcases Nat.lt_trichotomy a b with h | h | h
      · have ho : ordOf a b = -1 := by rw [ordOf, if_pos h]
        rw [ho]
        have hne : ((a : Int) == (b : Int)) = false := by rw [beq_eq_false_iff_ne]; omega
        have hli : (a : Int) < (b : Int) := by omega
        clear ho h
        go_wp2_with fail
        refine (awake_calls w2).mono ?_
        rintro e w3 ⟨rfl, hb3⟩
        go_wp2
        go_ret
        exact ⟨rfl, belowThen hb12 hb12.size hb3⟩
      · subst h
        have ho : ordOf a a = 0 := by rw [ordOf, if_neg (by omega), if_neg (by omega)]
        rw [ho]
        clear ho
        go_wp2_with fail
        refine (awake_calls w2).mono ?_
        rintro e w3 ⟨rfl, hb3⟩
        go_wp2
        go_ret
        exact ⟨rfl, belowThen hb12 hb12.size hb3⟩
      · have ho : ordOf a b = 1 := by rw [ordOf, if_neg (by omega), if_pos h]
        rw [ho]
        have hne : ((a : Int) == (b : Int)) = false := by rw [beq_eq_false_iff_ne]; omega
        have hln : ¬ a < b := by omega
        have hld : decide (a < b) = false := decide_eq_false hln
        clear ho h
        go_wp2_with fail
        refine (awake_calls w2).mono ?_
        rintro e w3 ⟨rfl, hb3⟩
        go_wp2
        go_ret
        exact ⟨rfl, belowThen hb12 hb12.size hb3⟩
end Go.Proofs.Ytljbghgpojdikaa
