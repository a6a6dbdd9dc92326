/-
  The document's net: Corrupt; Same; the law's same.
-/
import Derived.Test.YtmkmbnfmmibifaaNetF
namespace Go.Proofs.Ytmkmbnfmmibifaa
open Go.RowKit

theorem rCorrupt_none (w : World) (S : Nat → Prop) (P : Nat) (N : Int) (v : Value) (L : List Par) (h : QNet w S P N v L) (i : Int) (hi : i < 0 ∨ (L.length : Int) ≤ i) (A : Option Addr) (n c : Nat) :
    Calls Try.prog 21 #[.pointer (some ⟨P, 0, none⟩), .int .i64 i, .slice A n c] w fun e w' => e = .returned (.int .i64 6) ∧ RetRef w S P N L w' := by
  have hcall := ris_calls w S P N v L h i false (decide_eq_false (by omega))
  have hres := RetRef.same h (Below.refl _ _)
  have HR := Lib.hid hres
  clear hres
  go_enter Try.func21, Try.ntmps21
  go_wp2_with fail
  refine hcall.mono ?_
  rintro e w' ⟨rfl, rfl⟩
  go_wp2_with fail
  go_ret
  exact ⟨rfl, HR.out⟩
set_option maxRecDepth 100000 in
theorem rCorrupt_long (w : World) (S : Nat → Prop) (P : Nat) (N : Int) (v : Value) (L : List Par) (h : QNet w S P N v L) (i : Nat) (hi : i < L.length) (A : Option Addr) (n c : Nat) (hn : 70000 < n) :
    Calls Try.prog 21 #[.pointer (some ⟨P, 0, none⟩), .int .i64 (i : Int), .slice A n c] w fun e w' => e = .returned (.int .i64 3) ∧ RetRef w S P N L w' := by
  have hcall := ris_calls w S P N v L h (i : Int) true (decide_eq_true ⟨by omega, by omega⟩)
  have hres := RetRef.same h (Below.refl _ _)
  have d : decide ((70000 : Int) < (n : Int)) = true := decide_eq_true (by omega)
  have HR := Lib.hid hres
  clear hres hn
  go_enter Try.func21, Try.ntmps21
  go_wp2_with fail
  refine hcall.mono ?_
  rintro e w' ⟨rfl, rfl⟩
  go_wp2_with fail
  go_ret
  exact ⟨rfl, HR.out⟩
set_option maxRecDepth 100000 in
set_option maxHeartbeats 3200000 in
theorem rCorrupt_calls (w : World) (S : Nat → Prop) (P : Nat) (N : Int) (v : Value) (L : List Par) (h : QNet w S P N v L) (hm : L.length ≤ 4096) (i : Nat) (p : Par) (hp : L[i]? = some p) (A : Option Addr) (n c : Nat) (ys : List UInt8) (ok : Nat → Prop) (hr : RdB w ok A n ys) (hn : n ≤ 70000) :
    Calls Try.prog 21 #[.pointer (some ⟨P, 0, none⟩), .int .i64 (i : Int), .slice A n c] w fun e w' => e = .returned (.int .i64 0) ∧ RetRef w S P N (L.set i (p.1, p.2.1, ys, false)) w' := by
  have hi : i < L.length := (List.getElem?_eq_some_iff.1 hp).1
  have hcall := ris_calls w S P N v L h (i : Int) true (decide_eq_true ⟨by omega, by omega⟩)
  have d : decide ((70000 : Int) < (n : Int)) = false := decide_eq_false (by omega)
  obtain ⟨Av, cv, rfl, hcv⟩ := h.form
  obtain ⟨AL, cL, eL, hcL, hLr⟩ := h.own.rd (by omega)
  injection eL with eL _ eL2
  subst eL
  subst eL2
  have hlt := h.lt
  have c1 := h.c1
  obtain ⟨i0, hi0, hzz⟩ := Option.map_eq_some_iff.1 info_rpar
  simp only [Prod.mk.injEq] at hzz
  obtain ⟨hz0, hz1, hz2⟩ := hzz
  have hm0 : ([] : List Par).length + L.length ≤ maxLen := by unfold maxLen; simp; omega
  have hb0 : (([] : List Par).length + L.length) * 48 ≤ 140737488355328 := by simp; omega
  have hN1 := Own.nil elPar TR w (fun k => S k ∧ k ≠ P)
  have hlB : ([] : List UInt8).length + n ≤ 140737488355328 := by simp; omega
  have hyl := hr.len
  have HYL := Lib.hid hyl
  have hiL : (i : Int) < (L.length : Int) := by omega
  clear hyl
  go_enter Try.func21, Try.ntmps21
  go_wp2_with (first
    | (go_at_call 36; refine hcall.mono ?_; rintro e w' ⟨rfl, rfl⟩)
    | (at_builtin; refine Own.lists (E := elPar) rfl _ _ 56 rfl i0 _ 48 Try.underlying56 hi0 hz0 hz1 hz2 rfl (by decide) (.slice none 0 0) rfl hN1 Av L.length cv rfl hLr (fun q _ hq => ⟨hq, by simp [Value.ownBlock]⟩) hm0 hb0 ?_; intro v3 w3 ho3 hg3 h53;
        have ho3' : Own elPar TR w3 (fun k => (S k ∧ k ≠ P) ∨ k = w.heap.size) v3 L := ho3;
        obtain ⟨g, cap, vs, rfl, _, hgl, hcap, _, _, _⟩ := ho3'.at_ i p hp;
        have hbw3 : Below w.heap.size w w3 := (Below.refl _ _).grown hg3 (Nat.le_refl _) (fun k hk => by simp [Value.ownBlock] at hk);
        have hgw : w.heap.size ≤ g := (by
          rcases h53 with h53 | h53
          · simp [Value.ownBlock] at h53
          · simp [Value.ownBlock] at h53; omega);
        have hr3 := hr.below hbw3;
        have hnB := OwnB.nil w3 w3.heap.size)
    | (at_builtin; refine appB (w0 := w3) w3.heap.size w3.heap.size rfl _ _ rfl (.slice none 0 0) [] ys A n c rfl rfl hnB hr3 (Below.refl _ _) (Nat.le_refl _) (Nat.le_refl _) hlB ?_; intro v4 w4 ho4 hb4 _ _;
        have ho4' : OwnB w4 w3.heap.size v4 ys := ho4;
        obtain ⟨A4, c4, rfl, hfb4⟩ := ho4'.asFB n HYL.out;
        have hbw4 := stepBelow hbw3 hb4;
        have own1 := (ho3'.below hb4).mono (S' := fun k => (S k ∧ k ≠ P) ∨ New w w4 k) (fun k hl hk => hk.imp_right fun e => ⟨by omega, hl⟩);
        obtain ⟨hrd4, hcc4⟩ := hfb4.rd;
        obtain ⟨gx, capx, vsx, ex, _, _, _, hVx, hcx, hfx⟩ := own1.at_ i p hp;
        injection ex with ex1 _ ex2; subst ex2; injection ex1 with ex1; injection ex1 with ex1 _; subst ex1;
        obtain ⟨A0, n0, c0, rfl, _⟩ := par_open hVx;
        have k2 : w4.cell? ⟨g, i * 4 + 2, none⟩ = some (.slice A0 n0 c0) := hcx 2 _ rfl;
        have k3 : w4.cell? ⟨g, i * 4 + 3, none⟩ = some (.bool p.2.2.2) := hcx 3 _ rfl;
        have c14 := (h.below hbw4).c1;
        have f14 := (h.below hbw4).fr;
        have hPg : P ≠ g := (fun e => by have h1 := hlt P h.sp; omega)))
  have hne : ∀ k, New w3 w4 k → k ≠ g := fun k hk e => by have := hk.1; omega
  have own2 := own1.store i 2 (.slice A4 n c4) p (p.1, p.2.1, ys, p.2.2.2) hp (by decide) (fun vs hV => by
    obtain ⟨A0, n0, c0, rfl, q1, q2, q3, q4⟩ := par_open hV
    exact par_mk q2 q3 hcc4 (hrd4.mono fun k hk hl => ⟨.inr ⟨by have h1 := hk.1; have h2 := hbw3.size; omega, hl⟩, hne k hk⟩))
  have hl1 : (L.set i (p.1, p.2.1, ys, p.2.2.2)).length = L.length := by simp
  have own2' : Own elPar TR (w4.setCell ⟨g, i * 4 + 2, none⟩ (.slice A4 n c4)) (fun k => (S k ∧ k ≠ P) ∨ New w w4 k) (.slice (some ⟨g, 0, none⟩) (L.set i (p.1, p.2.1, ys, p.2.2.2)).length cap) (L.set i (p.1, p.2.1, ys, p.2.2.2)) := by rw [hl1]; exact own2
  have own3 := own2'.store i 3 (.bool false) (p.1, p.2.1, ys, p.2.2.2) (p.1, p.2.1, ys, false) (by rw [List.getElem?_set_self hi]) (by decide) (fun vs hV => by
    obtain ⟨A0, n0, c0, rfl, q1, q2, q3, q4⟩ := par_open hV
    exact par_mk q2 q3 q1 q4)
  rw [hl1, List.set_set] at own3
  have hbw5 : Below w.heap.size w ((w4.setCell ⟨g, i * 4 + 2, none⟩ (.slice A4 n c4)).setCell ⟨g, i * 4 + 3, none⟩ (.bool false)) := (hbw4.setCell (p := ⟨g, i * 4 + 2, none⟩) hgw _).setCell (p := ⟨g, i * 4 + 3, none⟩) hgw _
  have hres := refPut h hbw5 (own3.mono fun k hl hk => hk.imp_right fun hh => ⟨hh.1, hl⟩)
  have HR := Lib.hid hres
  clear hres own3 own2' own2 own1 ho3' ho3
  go_ret
  exact ⟨rfl, HR.out⟩
/-! ### Same -/
theorem boxT (w : World) (f t : Int) (v : Value) (b : Bool) (T : TypeId) (wS : World) (h : w.alloc (.cells #[.int .i64 f, .int .i64 t, v, .bool b] T) = wS) : Below w.heap.size w wS ∧ BoxT T wS w.heap.size f t v b ∧ wS.heap.size = w.heap.size + 1 := by
  subst h
  exact ⟨allocBelow' _ _, BoxT.made w _ _ _ _, by simp⟩
set_option maxHeartbeats 1600000 in
theorem rSame_calls (w : World) (f t : Int) (A : Option Addr) (n c : Nat) (b : Bool) (B : Option Addr) (c' : Nat) (xs : List UInt8) (ok ok' : Nat → Prop) (hr : RdB w ok A n xs) (hr' : RdB w ok' B n xs) :
    Calls Try.prog 37 #[.agg #[.int .i64 f, .int .i64 t, .slice A n c, .bool b], .agg #[.int .i64 f, .int .i64 t, .slice B n c', .bool b]] w fun e w' => e = .returned (.bool true) ∧ Below w.heap.size w w' := by
  obtain ⟨w1, h1⟩ : ∃ w1, w.alloc (.cells #[.int .i64 f, .int .i64 t, .slice A n c, .bool b] TR) = w1 := ⟨_, rfl⟩
  obtain ⟨b1, x1, z1⟩ := boxT _ _ _ _ _ _ _ h1
  obtain ⟨w2, h2⟩ : ∃ w2, w1.alloc (.cells #[.int .i64 f, .int .i64 t, .slice B n c', .bool b] TR) = w2 := ⟨_, rfl⟩
  obtain ⟨b2, x2, z2⟩ := boxT _ _ _ _ _ _ _ h2
  rw [z1] at x2
  obtain ⟨p0, p1, p2, p3, _⟩ := (x1.below b2).cells
  obtain ⟨q0, q1, q2, q3, _⟩ := x2.cells
  have hbw := stepBelow b1 b2
  have k1 := conv_string (hr.below hbw) c
  have k2 := conv_string (hr'.below hbw) c'
  have h12 : (w.alloc (.cells #[.int .i64 f, .int .i64 t, .slice A n c, .bool b] TR)).alloc (.cells #[.int .i64 f, .int .i64 t, .slice B n c', .bool b] TR) = w2 := by rw [h1, h2]
  have HW := Lib.hid h12
  clear h1 h2 h12 hr hr' x1 x2 z1 z2 b1 b2
  go_enter Try.func37, Try.ntmps37
  go_upto_region 1 with (fail)
  rw [HW.out]
  go_wp2_with fail
  go_ret
  exact ⟨rfl, hbw⟩
end Go.Proofs.Ytmkmbnfmmibifaa
