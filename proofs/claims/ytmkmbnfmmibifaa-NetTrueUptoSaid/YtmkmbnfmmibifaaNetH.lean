/-
  The law's same; the chapter's rows.
-/
import Derived.Test.YtmkmbnfmmibifaaNetG
namespace Go.Proofs.Ytmkmbnfmmibifaa
open Go.RowKit

theorem not8 (x : Nat) (h : x < 256) : bits .xor .u8 (x : Int) 255 = ((x ^^^ 255 : Nat) : Int) := u8_xor_nat x 255 h (by omega)
/-- A byte of a row of a call's own is turned. -/
theorem OwnB.flip {w : World} {base : Nat} {A : Option Addr} {n c : Nat} {ts : List UInt8} (h : OwnB w base (.slice A n c) ts) (hl : ts.length = n) (k : Nat) (hk : k < n) :
    ∃ g, A = some ⟨g, 0, none⟩ ∧ base ≤ g ∧ w.cell? ⟨g, k, none⟩ = some (.int .u8 (byt ts k : Int)) ∧ w.frozen? ⟨g, k, none⟩ = false ∧ bits .xor .u8 (byt ts k : Int) 255 = ((byt ts k ^^^ 255 : Nat) : Int) ∧
      OwnB (w.setCell ⟨g, k, none⟩ (.int .u8 ((byt ts k ^^^ 255 : Nat) : Int))) base (.slice A n c) (ts.set k ((ts[k]?.getD 0) ^^^ 255)) ∧ (ts.set k ((ts[k]?.getD 0) ^^^ 255)).length = n := by
  subst hl
  obtain ⟨g, cap, e1, hg, _, _, hcell, hfz⟩ := h.form (by omega)
  injection e1 with e1 _ e2
  subst e1
  subst e2
  have hst := h.store k ((ts[k]?.getD 0) ^^^ 255)
  rw [UInt8.toNat_xor] at hst
  refine ⟨g, rfl, hg, hcell k hk, hfz k, not8 (byt ts k) (byt_lt _ _), ?_, by rw [List.length_set]⟩
  have h1 := hst.1
  unfold OwnB at h1 ⊢
  rw [List.length_set] at h1 ⊢
  exact h1
set_option maxHeartbeats 1600000 in
theorem same_calls (w : World) (f t : Int) (A : Option Addr) (n c : Nat) (b : Bool) (B : Option Addr) (c' base : Nat) (xs : List UInt8) (ok' : Nat → Prop) (hn : xs.length = n) (hn2 : n ≤ 1099511627776) (ho : OwnB w base (.slice A n c) xs) (hr' : RdB w ok' B n xs) :
    Calls Try.prog 18 #[.agg #[.int .i64 f, .int .i64 t, .slice A n c, .bool b], .agg #[.int .i64 f, .int .i64 t, .slice B n c', .bool b]] w fun e w' => e = .returned (.bool true) ∧ Chg (fun k => (Value.slice A n c).ownBlock = some k) w w' := by
  obtain ⟨w1, h1⟩ : ∃ w1, w.alloc (.cells #[.int .i64 f, .int .i64 t, .slice A n c, .bool b] TP) = w1 := ⟨_, rfl⟩
  obtain ⟨b1, x1, z1⟩ := boxT _ _ _ _ _ _ _ h1
  obtain ⟨w2, h2⟩ : ∃ w2, w1.alloc (.cells #[.int .i64 f, .int .i64 t, .slice B n c', .bool b] TR) = w2 := ⟨_, rfl⟩
  obtain ⟨b2, x2, z2⟩ := boxT _ _ _ _ _ _ _ h2
  rw [z1] at x2
  have x1' := x1.below b2
  obtain ⟨p0, p1, p2, p3, _⟩ := x1'.cells
  obtain ⟨q0, q1, q2, q3, _⟩ := x2.cells
  have hbw := stepBelow b1 b2
  have hrA : RdB w (fun k => base ≤ k ∧ (Value.slice A n c).ownBlock = some k) A n xs := by
    obtain ⟨A', c'', e, _, _, hr⟩ := ho.rd
    rw [hn] at e hr
    injection e with e _ _
    subst e
    exact hr
  have hcall := rSame_calls w2 f t A n c b B c' xs _ ok' (hrA.below hbw) (hr'.below hbw)
  have h12 : (w.alloc (.cells #[.int .i64 f, .int .i64 t, .slice A n c, .bool b] TP)).alloc (.cells #[.int .i64 f, .int .i64 t, .slice B n c', .bool b] TR) = w2 := by rw [h1, h2]
  have HW := Lib.hid h12
  have HN := Lib.hid hn
  have hlo := ho.lt
  clear h1 h2 h12 hr' x1 x2 b1 b2 hrA hn z2
  go_enter Try.func18, Try.ntmps18
  go_upto_region 1 with (fail)
  rw [HW.out]
  go_wp2_with fail
  refine hcall.mono ?_
  rintro e w3 ⟨rfl, hb3⟩
  have hbw3 := stepBelow hbw hb3
  have hx3 := x1'.below hb3
  have ho3 := ho.below hbw3
  clear p0 p1 p2 p3 q0 q1 q2 q3 x1' hcall ho
  go_wp2_with fail
  go_loopw [6] (fun i wr => ∃ (k : Nat) (ts : List UInt8), k ≤ n ∧ i = .int .i64 (k : Int) ∧ ts.length = n ∧ OwnB wr base (.slice A n c) ts ∧ Chg (fun k => (Value.slice A n c).ownBlock = some k) w wr ∧ BoxT TP wr w.heap.size f t (.slice A n c) b) (fun i _ => n - (intOf i).toNat)
  case atStart => exact ⟨0, xs, Nat.zero_le _, rfl, HN.out, ho3, Chg.ofBelow hbw3, hx3⟩
  case round =>
    obtain ⟨k, ts, hk, rfl, hts, hoo, hch, hbx⟩ := hrel
    obtain ⟨_, _, p2, _, _⟩ := hbx.cells
    by_cases hlt : k < n
    · obtain ⟨g, e1, hg, cg, fg, hx, hst, hsl⟩ := hoo.flip hts k hlt
      subst e1
      have hgl := (hlo g rfl).2
      have hst2 := hch.trans (Chg.set wr ⟨g, k, none⟩ (.int .u8 ((byt ts k ^^^ 255 : Nat) : Int))) fun q _ hq => by rw [hq]; rfl
      have hb2 := hbx.chg (Chg.set wr ⟨g, k, none⟩ (.int .u8 ((byt ts k ^^^ 255 : Nat) : Int))) (fun e => by have e' : w.heap.size = g := e; omega)
      have HST := Lib.hid hst
      have HSL := Lib.hid hsl
      clear hts hoo hst hsl
      go_wp2
      go_roundw
      case rel => exact ⟨k + 1, _, by omega, by go_num, HSL.out, HST.out, hst2, hb2⟩
      case measure => simp [intOf]; omega
    · obtain rfl : n = k := by omega
      clear hoo hts
      go_wp2_with fail
      go_ret
      exact ⟨rfl, hch⟩
end Go.Proofs.Ytmkmbnfmmibifaa
