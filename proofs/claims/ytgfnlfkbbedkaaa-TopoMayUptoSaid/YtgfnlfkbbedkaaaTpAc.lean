/-
  Four copies of a topology of one flow, stored into four new boxes: what stands behind the region.
-/
import Derived.Test.YtgfnlfkbbedkaaaTpAb
namespace Go.Proofs.Ytgfnlfkbbedkaaa
open Go.RowKit
set_option linter.unusedVariables false
set_option linter.unusedSimpArgs false

theorem store_step {ops : Array Oper} {Q : Exit → Act → World → Prop} {S : World → Prop} {f : Nat} {lst : Array Bool} {i x y : Nat} {o : Oper} {a : Act} {w w' : World} {P : Nat} {v : Value} (hr : Region.ready .any ops lst = [i]) (ho : ops[i]? = some o) (hg : o.guard = none) (hd : o.dst = none)
    (hop : o.op = .store 27 (.tmp x) (.tmp y)) (hx : a.tmps[x]? = some (.pointer (some ⟨P, 0, none⟩))) (hy : a.tmps[y]? = some v)
    (hrun : (Instr.storeAt 27 (.pointer (some ⟨P, 0, none⟩)) v).run Try.prog w = .ok () w') (hS : S w') (h : wpAnyH Try.prog .any ops Q S f (lst.setIfInBounds i true) a w') : wpAnyH Try.prog .any ops Q S (f + 1) lst a w := by
  refine ⟨fun h0 => (by rw [hr] at h0; cases h0), fun j hj => ?_⟩
  rw [hr] at hj
  simp at hj
  subst hj
  refine wpOp_step ho fun K' hK => ?_
  rw [if_pos (by simp [Region.wanted, hg])]
  unfold Oper.wp
  have e1 : a.tmps.getD x undef = .pointer (some ⟨P, 0, none⟩) := by rw [Array.getD_eq_getD_getElem?, hx]; rfl
  have e2 : a.tmps.getD y undef = v := by rw [Array.getD_eq_getD_getElem?, hy]; rfl
  have hrn : (execOp a.eval o).run Try.prog w = .ok .skip w' := by
    unfold execOp
    simp [hop, Act.eval, e1, e2, hrun]
  rw [hrn, Oper.upon_skip, hd]
  exact hK _ _ ⟨hS, h⟩
/-- One copy: its blocks, its box, its parts. -/
structure Dat where
  L : Nat
  U : Nat
  P : Nat
  AU : Option Addr
  nU : Nat
  cU : Nat
  H : Nat
  d : Nat
  C : Option Addr
  p : Nat
  q : Nat
def Dat.v (x : Dat) : Value := .agg #[.int .u64 1, .slice x.AU x.nU x.cU, .slice (some ⟨x.H, 0, none⟩) 1 x.d]
/-- Two copies lie apart. -/
def apart2 (x y : Dat) : Prop := (x.U ≤ y.L ∨ y.U ≤ x.L) ∧ x.P ≠ y.P ∧ ¬ (x.L ≤ y.P ∧ y.P < x.U) ∧ ¬ (y.L ≤ x.P ∧ x.P < y.U)
structure Bx (base : Nat) (w : World) (x : Dat) (up : List Bool) (es : List Ed) : Prop where
  lo : base ≤ x.L ∧ base ≤ x.P ∧ x.U ≤ w.heap.size ∧ x.P < w.heap.size
  out : ¬ (x.L ≤ x.P ∧ x.P < x.U)
  pt : Pt x.L x.U w x.AU x.nU x.cU x.H x.d x.C x.p x.q up es
  box : w.heap[x.P]? = some (.cells #[.int .u64 1, .slice x.AU x.nU x.cU, .slice (some ⟨x.H, 0, none⟩) 1 x.d] 27 (0, 0))
theorem Bx.chg {base : Nat} {w w' : World} {x : Dat} {up : List Bool} {es : List Ed} {S : Nat → Prop} (h : Bx base w x up es) (hc : Chg S w w') (hs : ∀ k, S k → k ≠ x.P ∧ ¬ (x.L ≤ k ∧ k < x.U)) : Bx base w' x up es :=
  ⟨⟨h.lo.1, h.lo.2.1, Nat.le_trans h.lo.2.2.1 hc.size, Nat.lt_of_lt_of_le h.lo.2.2.2 hc.size⟩, h.out, h.pt.chg hc fun k hk => (hs k hk).2, (hc.block _ h.lo.2.2.2 fun e => (hs _ e).1 rfl).trans h.box⟩
theorem Bx.below {base : Nat} {w w' : World} {x : Dat} {up : List Bool} {es : List Ed} (h : Bx base w x up es) (hb : Below w.heap.size w w') : Bx base w' x up es := h.chg (S := NoB) (Chg.ofBelow hb) fun _ e => e.elim
theorem Ac4.eq {a0 a : Act} {r : Rng} {vs : Nat → Value} (h : Ac4 a0 a r vs) (xs : Nat → Value) (hx : ∀ i, i < 8 → valOf r vs i = some (xs i)) (hsz : a0.tmps.size = 257) :
    a = (((((((a0.put (some 136) (xs 0)).put (some 138) (xs 1)).put (some 140) (xs 2)).put (some 142) (xs 3)).put (some 16) (xs 4)).put (some 17) (xs 5)).put (some 18) (xs 6)).put (some 19) (xs 7) := by
  have h0 := h.at_ 0 _ (by omega) (hx 0 (by omega))
  have h1 := h.at_ 1 _ (by omega) (hx 1 (by omega))
  have h2 := h.at_ 2 _ (by omega) (hx 2 (by omega))
  have h3 := h.at_ 3 _ (by omega) (hx 3 (by omega))
  have h4 := h.at_ 4 _ (by omega) (hx 4 (by omega))
  have h5 := h.at_ 5 _ (by omega) (hx 5 (by omega))
  have h6 := h.at_ 6 _ (by omega) (hx 6 (by omega))
  have h7 := h.at_ 7 _ (by omega) (hx 7 (by omega))
  have hd := h.defers
  have ho := h.old
  have hz := h.size
  obtain ⟨tm, df⟩ := a
  obtain ⟨tm0, df0⟩ := a0
  simp only [Act.put, Act.mk.injEq]
  simp only at hd hsz hz
  refine ⟨?_, hd⟩
  apply Array.ext_getElem?
  intro t
  simp only [Array.getElem?_setIfInBounds, Array.size_setIfInBounds, hsz]
  simp only [slotOf] at h0 h1 h2 h3 h4 h5 h6 h7
  by_cases c0 : t = 136
  · subst c0; simpa using h0
  by_cases c1 : t = 138
  · subst c1; simpa using h1
  by_cases c2 : t = 140
  · subst c2; simpa using h2
  by_cases c3 : t = 142
  · subst c3; simpa using h3
  by_cases c4 : t = 16
  · subst c4; simpa using h4
  by_cases c5 : t = 17
  · subst c5; simpa using h5
  by_cases c6 : t = 18
  · subst c6; simpa using h6
  by_cases c7 : t = 19
  · subst c7; simpa using h7
  rw [if_neg (Ne.symm c7), if_neg (Ne.symm c6), if_neg (Ne.symm c5), if_neg (Ne.symm c4), if_neg (Ne.symm c3), if_neg (Ne.symm c2), if_neg (Ne.symm c1), if_neg (Ne.symm c0)]
  refine ho t fun i hi e => ?_
  unfold slotOf at e
  by_cases h : i < 4
  · rw [if_pos h] at e; omega
  · rw [if_neg h] at e; omega
theorem todo_all {d : Nat → Bool} (h : todoB d = 0) : ∀ k, k < 8 → d k = true := by
  unfold todoB at h
  intro k hk
  match k, hk with
  | 0, _ => cases h' : d 0 <;> simp [h'] at h ⊢
  | 1, _ => cases h' : d 1 <;> simp [h'] at h ⊢
  | 2, _ => cases h' : d 2 <;> simp [h'] at h ⊢
  | 3, _ => cases h' : d 3 <;> simp [h'] at h ⊢
  | 4, _ => cases h' : d 4 <;> simp [h'] at h ⊢
  | 5, _ => cases h' : d 5 <;> simp [h'] at h ⊢
  | 6, _ => cases h' : d 6 <;> simp [h'] at h ⊢
  | 7, _ => cases h' : d 7 <;> simp [h'] at h ⊢
theorem lst_all {d : Nat → Bool} (h : todoB d = 0) : lstB d = #[true, true, true, true, true, true, true, true, true, true, true, true, false, false, false, false] := by
  have ha := todo_all h
  unfold lstB
  rw [ha 0 (by omega), ha 1 (by omega), ha 2 (by omega), ha 3 (by omega), ha 4 (by omega), ha 5 (by omega), ha 6 (by omega), ha 7 (by omega)]
set_option maxHeartbeats 2000000 in
theorem four_boxes {ops : Array Oper} {Q : Exit → Act → World → Prop} {S : World → Prop} (w0 : World) (v : Value) (up : List Bool) (es : List Ed) (hT : TopoV w0 (fun k => k < w0.heap.size) v 1 up [es]) (hf : Few [es])
    (hn1 : up.length ≤ 1048576) (hn2 : es.length ≤ 1048576) (a0 : Act) (hsz : a0.tmps.size = 257)
    (hoC : ∀ k, k < 4 → ∃ o, ops[2 * k + 1]? = some o ∧ o.guard = none ∧ o.dst = some (136 + 2 * k) ∧ o.op = .call { callee := .value (.func 17), args := #[.tmp (135 + 2 * k)], argTypes := #[27] })
    (hoA : ∀ k, 4 ≤ k → k < 8 → ∃ o, ops[4 + k]? = some o ∧ o.guard = none ∧ o.dst = some (12 + k) ∧ o.op = .alloc 27)
    (hoS : ∀ k, k < 4 → ∃ o, ops[12 + k]? = some o ∧ o.guard = none ∧ o.dst = none ∧ o.op = .store 27 (.tmp (16 + k)) (.tmp (136 + 2 * k)))
    (hld : ∀ k, k < 4 → a0.tmps[135 + 2 * k]? = some v)
    (hrd : ∀ d, monoB d → Region.ready .any ops (lstB d) = rdL d)
    (hr0 : Region.ready .any ops #[true, true, true, true, true, true, true, true, true, true, true, true, false, false, false, false] = [12])
    (hr1 : Region.ready .any ops #[true, true, true, true, true, true, true, true, true, true, true, true, true, false, false, false] = [13])
    (hr2 : Region.ready .any ops #[true, true, true, true, true, true, true, true, true, true, true, true, true, true, false, false] = [14])
    (hr3 : Region.ready .any ops #[true, true, true, true, true, true, true, true, true, true, true, true, true, true, true, false] = [15])
    (hr4 : Region.ready .any ops #[true, true, true, true, true, true, true, true, true, true, true, true, true, true, true, true] = [])
    (hS : ∀ w, Below w0.heap.size w0 w → S w)
    (hQ : ∀ (w : World) (x0 x1 x2 x3 : Dat), Below w0.heap.size w0 w → Bx w0.heap.size w x0 up es → Bx w0.heap.size w x1 up es → Bx w0.heap.size w x2 up es → Bx w0.heap.size w x3 up es →
      apart2 x0 x1 → apart2 x0 x2 → apart2 x0 x3 → apart2 x1 x2 → apart2 x1 x3 → apart2 x2 x3 →
      Q .normal ((((((((a0.put (some 136) x0.v).put (some 138) x1.v).put (some 140) x2.v).put (some 142) x3.v).put (some 16) (.pointer (some ⟨x0.P, 0, none⟩))).put (some 17) (.pointer (some ⟨x1.P, 0, none⟩))).put (some 18) (.pointer (some ⟨x2.P, 0, none⟩))).put (some 19) (.pointer (some ⟨x3.P, 0, none⟩))) w) :
    wpAnyH Try.prog .any ops Q S 12 #[true, false, true, false, true, false, true, false, false, false, false, false, false, false, false, false] a0 w0 := by
  refine four_copies w0 v 1 up [es] hT hf hn1 (by simp) a0 hsz hoC hoA hld hrd hS ?_ 8 (fun _ => none) (fun _ => undef) a0 w0 rfl ⟨(fun h => nomatch h), (fun h => nomatch h), (fun h => nomatch h)⟩ (St4.start _ _ _ _ _) (Ac4.start _ _)
  intro r vs a w ht hst hac
  have hall := todo_all ht
  rw [lst_all ht]
  have hget : ∀ k, k < 8 → ∃ p, r k = some p := fun k hk => by
    have := hall k hk
    unfold dn at this
    exact Option.isSome_iff_exists.1 this
  obtain ⟨⟨l0, u0⟩, g0⟩ := hget 0 (by omega)
  obtain ⟨⟨l1, u1⟩, g1⟩ := hget 1 (by omega)
  obtain ⟨⟨l2, u2⟩, g2⟩ := hget 2 (by omega)
  obtain ⟨⟨l3, u3⟩, g3⟩ := hget 3 (by omega)
  obtain ⟨⟨l4, u4⟩, g4⟩ := hget 4 (by omega)
  obtain ⟨⟨l5, u5⟩, g5⟩ := hget 5 (by omega)
  obtain ⟨⟨l6, u6⟩, g6⟩ := hget 6 (by omega)
  obtain ⟨⟨l7, u7⟩, g7⟩ := hget 7 (by omega)
  obtain ⟨AU0, nU0, cU0, H0, d0, C0, p0, q0, e0, t0⟩ := (hst.cop 0 _ (by omega) g0).parts (by omega) (by omega)
  simp only at t0
  obtain ⟨AU1, nU1, cU1, H1, d1, C1, p1, q1, e1, t1⟩ := (hst.cop 1 _ (by omega) g1).parts (by omega) (by omega)
  simp only at t1
  obtain ⟨AU2, nU2, cU2, H2, d2, C2, p2, q2, e2, t2⟩ := (hst.cop 2 _ (by omega) g2).parts (by omega) (by omega)
  simp only at t2
  obtain ⟨AU3, nU3, cU3, H3, d3, C3, p3, q3, e3, t3⟩ := (hst.cop 3 _ (by omega) g3).parts (by omega) (by omega)
  simp only at t3
  obtain ⟨z4, f4⟩ := hst.box 4 _ (by omega) g4
  simp only at z4 f4
  obtain ⟨z5, f5⟩ := hst.box 5 _ (by omega) g5
  simp only at z5 f5
  obtain ⟨z6, f6⟩ := hst.box 6 _ (by omega) g6
  simp only at z6 f6
  obtain ⟨z7, f7⟩ := hst.box 7 _ (by omega) g7
  simp only at z7 f7
  have b0 := hst.rng 0 _ g0
  simp only at b0
  have b1 := hst.rng 1 _ g1
  simp only at b1
  have b2 := hst.rng 2 _ g2
  simp only at b2
  have b3 := hst.rng 3 _ g3
  simp only at b3
  have b4 := hst.rng 4 _ g4
  simp only at b4
  have b5 := hst.rng 5 _ g5
  simp only at b5
  have b6 := hst.rng 6 _ g6
  simp only at b6
  have b7 := hst.rng 7 _ g7
  simp only at b7
  obtain ⟨w1, r0, h0, m0⟩ := store_box z4 1 AU0 nU0 cU0 (some ⟨H0, 0, none⟩) 1 d0
  have k1 : Chg (fun k => k = l4) w w1 := m0
  have y5 : ZBox w1 l5 := (k1.block l5 z5.lt (by have s45 := hst.dis 4 5 _ _ (by decide) g4 g5; simp only at s45; omega)).trans z5
  obtain ⟨w2, r1, h1, m1⟩ := store_box y5 1 AU1 nU1 cU1 (some ⟨H1, 0, none⟩) 1 d1
  have k2 : Chg (fun k => k = l4 ∨ k = l5) w w2 := (k1.mono fun k _ h => (by omega)).trans (m1.mono fun k _ h => (by omega)) fun k _ h => h
  have y6 : ZBox w2 l6 := (k2.block l6 z6.lt (by have s46 := hst.dis 4 6 _ _ (by decide) g4 g6; simp only at s46; have s56 := hst.dis 5 6 _ _ (by decide) g5 g6; simp only at s56; omega)).trans z6
  obtain ⟨w3, r2, h2, m2⟩ := store_box y6 1 AU2 nU2 cU2 (some ⟨H2, 0, none⟩) 1 d2
  have k3 : Chg (fun k => k = l4 ∨ k = l5 ∨ k = l6) w w3 := (k2.mono fun k _ h => (by omega)).trans (m2.mono fun k _ h => (by omega)) fun k _ h => h
  have y7 : ZBox w3 l7 := (k3.block l7 z7.lt (by have s47 := hst.dis 4 7 _ _ (by decide) g4 g7; simp only at s47; have s57 := hst.dis 5 7 _ _ (by decide) g5 g7; simp only at s57; have s67 := hst.dis 6 7 _ _ (by decide) g6 g7; simp only at s67; omega)).trans z7
  obtain ⟨w4, r3, h3, m3⟩ := store_box y7 1 AU3 nU3 cU3 (some ⟨H3, 0, none⟩) 1 d3
  have k4 : Chg (fun k => k = l4 ∨ k = l5 ∨ k = l6 ∨ k = l7) w w4 := (k3.mono fun k _ h => (by omega)).trans (m3.mono fun k _ h => (by omega)) fun k _ h => h
  have hz1 := k1.size
  have hz2 := k2.size
  have hz3 := k3.size
  have hz4 := k4.size
  have n1 : Below w0.heap.size w0 w1 := k1.below hst.bel hst.bel.size fun k h => (by omega)
  have n2 : Below w0.heap.size w0 w2 := k2.below hst.bel hst.bel.size fun k h => (by omega)
  have n3 : Below w0.heap.size w0 w3 := k3.below hst.bel hst.bel.size fun k h => (by omega)
  have n4 : Below w0.heap.size w0 w4 := k4.below hst.bel hst.bel.size fun k h => (by omega)
  let xs : Nat → Value := fun i => match i with | 0 => vs 0 | 1 => vs 1 | 2 => vs 2 | 3 => vs 3 | 4 => .pointer (some ⟨l4, 0, none⟩) | 5 => .pointer (some ⟨l5, 0, none⟩) | 6 => .pointer (some ⟨l6, 0, none⟩) | _ => .pointer (some ⟨l7, 0, none⟩)
  have hx : ∀ i, i < 8 → valOf r vs i = some (xs i) := fun i hi => by
    match i, hi with
    | 0, _ => simp [valOf, g0, xs]
    | 1, _ => simp [valOf, g1, xs]
    | 2, _ => simp [valOf, g2, xs]
    | 3, _ => simp [valOf, g3, xs]
    | 4, _ => simp [valOf, g4, xs]
    | 5, _ => simp [valOf, g5, xs]
    | 6, _ => simp [valOf, g6, xs]
    | 7, _ => simp [valOf, g7, xs]
  have hat : ∀ i, i < 8 → a.tmps[slotOf i]? = some (xs i) := fun i hi => hac.at_ i _ hi (hx i hi)
  have hae := hac.eq xs hx hsz
  have j0 : w4.heap[l4]? = some (.cells #[.int .u64 1, .slice AU0 nU0 cU0, .slice (some ⟨H0, 0, none⟩) 1 d0] 27 (0, 0)) := (m3.block l4 (Nat.lt_of_lt_of_le (Nat.lt_of_lt_of_le (Array.getElem?_eq_some_iff.1 h0).1 m1.size) m2.size) (by have s47 := hst.dis 4 7 _ _ (by decide) g4 g7; simp only at s47; omega)).trans ((m2.block l4 (Nat.lt_of_lt_of_le (Array.getElem?_eq_some_iff.1 h0).1 m1.size) (by have s46 := hst.dis 4 6 _ _ (by decide) g4 g6; simp only at s46; omega)).trans ((m1.block l4 (Array.getElem?_eq_some_iff.1 h0).1 (by have s45 := hst.dis 4 5 _ _ (by decide) g4 g5; simp only at s45; omega)).trans h0))
  have q40 : ∀ k, (k = l4 ∨ k = l5 ∨ k = l6 ∨ k = l7) → ¬ (l0 ≤ k ∧ k < u0) := fun k hk => by
    rcases hk with rfl | rfl | rfl | rfl
    · have s04 := hst.dis 0 4 _ _ (by decide) g0 g4; simp only at s04; omega
    · have s05 := hst.dis 0 5 _ _ (by decide) g0 g5; simp only at s05; omega
    · have s06 := hst.dis 0 6 _ _ (by decide) g0 g6; simp only at s06; omega
    · have s07 := hst.dis 0 7 _ _ (by decide) g0 g7; simp only at s07; omega
  have X0 : Bx w0.heap.size w4 ⟨l0, u0, l4, AU0, nU0, cU0, H0, d0, C0, p0, q0⟩ up es := ⟨⟨b0.1, b4.1, Nat.le_trans b0.2.2 hz4, (Array.getElem?_eq_some_iff.1 j0).1⟩, q40 l4 (by simp), t0.chg k4 fun k hk => q40 k (by omega), j0⟩
  have j1 : w4.heap[l5]? = some (.cells #[.int .u64 1, .slice AU1 nU1 cU1, .slice (some ⟨H1, 0, none⟩) 1 d1] 27 (0, 0)) := (m3.block l5 (Nat.lt_of_lt_of_le (Array.getElem?_eq_some_iff.1 h1).1 m2.size) (by have s57 := hst.dis 5 7 _ _ (by decide) g5 g7; simp only at s57; omega)).trans ((m2.block l5 (Array.getElem?_eq_some_iff.1 h1).1 (by have s56 := hst.dis 5 6 _ _ (by decide) g5 g6; simp only at s56; omega)).trans h1)
  have q41 : ∀ k, (k = l4 ∨ k = l5 ∨ k = l6 ∨ k = l7) → ¬ (l1 ≤ k ∧ k < u1) := fun k hk => by
    rcases hk with rfl | rfl | rfl | rfl
    · have s14 := hst.dis 1 4 _ _ (by decide) g1 g4; simp only at s14; omega
    · have s15 := hst.dis 1 5 _ _ (by decide) g1 g5; simp only at s15; omega
    · have s16 := hst.dis 1 6 _ _ (by decide) g1 g6; simp only at s16; omega
    · have s17 := hst.dis 1 7 _ _ (by decide) g1 g7; simp only at s17; omega
  have X1 : Bx w0.heap.size w4 ⟨l1, u1, l5, AU1, nU1, cU1, H1, d1, C1, p1, q1⟩ up es := ⟨⟨b1.1, b5.1, Nat.le_trans b1.2.2 hz4, (Array.getElem?_eq_some_iff.1 j1).1⟩, q41 l5 (by simp), t1.chg k4 fun k hk => q41 k (by omega), j1⟩
  have j2 : w4.heap[l6]? = some (.cells #[.int .u64 1, .slice AU2 nU2 cU2, .slice (some ⟨H2, 0, none⟩) 1 d2] 27 (0, 0)) := (m3.block l6 (Array.getElem?_eq_some_iff.1 h2).1 (by have s67 := hst.dis 6 7 _ _ (by decide) g6 g7; simp only at s67; omega)).trans h2
  have q42 : ∀ k, (k = l4 ∨ k = l5 ∨ k = l6 ∨ k = l7) → ¬ (l2 ≤ k ∧ k < u2) := fun k hk => by
    rcases hk with rfl | rfl | rfl | rfl
    · have s24 := hst.dis 2 4 _ _ (by decide) g2 g4; simp only at s24; omega
    · have s25 := hst.dis 2 5 _ _ (by decide) g2 g5; simp only at s25; omega
    · have s26 := hst.dis 2 6 _ _ (by decide) g2 g6; simp only at s26; omega
    · have s27 := hst.dis 2 7 _ _ (by decide) g2 g7; simp only at s27; omega
  have X2 : Bx w0.heap.size w4 ⟨l2, u2, l6, AU2, nU2, cU2, H2, d2, C2, p2, q2⟩ up es := ⟨⟨b2.1, b6.1, Nat.le_trans b2.2.2 hz4, (Array.getElem?_eq_some_iff.1 j2).1⟩, q42 l6 (by simp), t2.chg k4 fun k hk => q42 k (by omega), j2⟩
  have j3 : w4.heap[l7]? = some (.cells #[.int .u64 1, .slice AU3 nU3 cU3, .slice (some ⟨H3, 0, none⟩) 1 d3] 27 (0, 0)) := h3
  have q43 : ∀ k, (k = l4 ∨ k = l5 ∨ k = l6 ∨ k = l7) → ¬ (l3 ≤ k ∧ k < u3) := fun k hk => by
    rcases hk with rfl | rfl | rfl | rfl
    · have s34 := hst.dis 3 4 _ _ (by decide) g3 g4; simp only at s34; omega
    · have s35 := hst.dis 3 5 _ _ (by decide) g3 g5; simp only at s35; omega
    · have s36 := hst.dis 3 6 _ _ (by decide) g3 g6; simp only at s36; omega
    · have s37 := hst.dis 3 7 _ _ (by decide) g3 g7; simp only at s37; omega
  have X3 : Bx w0.heap.size w4 ⟨l3, u3, l7, AU3, nU3, cU3, H3, d3, C3, p3, q3⟩ up es := ⟨⟨b3.1, b7.1, Nat.le_trans b3.2.2 hz4, (Array.getElem?_eq_some_iff.1 j3).1⟩, q43 l7 (by simp), t3.chg k4 fun k hk => q43 k (by omega), j3⟩
  have hfin := hQ w4 ⟨l0, u0, l4, AU0, nU0, cU0, H0, d0, C0, p0, q0⟩ ⟨l1, u1, l5, AU1, nU1, cU1, H1, d1, C1, p1, q1⟩ ⟨l2, u2, l6, AU2, nU2, cU2, H2, d2, C2, p2, q2⟩ ⟨l3, u3, l7, AU3, nU3, cU3, H3, d3, C3, p3, q3⟩ n4 X0 X1 X2 X3 ⟨hst.dis 0 1 _ _ (by decide) g0 g1, (show l4 ≠ l5 from (by have s45 := hst.dis 4 5 _ _ (by decide) g4 g5; simp only at s45; omega)), q40 l5 (by simp), q41 l4 (by simp)⟩ ⟨hst.dis 0 2 _ _ (by decide) g0 g2, (show l4 ≠ l6 from (by have s46 := hst.dis 4 6 _ _ (by decide) g4 g6; simp only at s46; omega)), q40 l6 (by simp), q42 l4 (by simp)⟩ ⟨hst.dis 0 3 _ _ (by decide) g0 g3, (show l4 ≠ l7 from (by have s47 := hst.dis 4 7 _ _ (by decide) g4 g7; simp only at s47; omega)), q40 l7 (by simp), q43 l4 (by simp)⟩ ⟨hst.dis 1 2 _ _ (by decide) g1 g2, (show l5 ≠ l6 from (by have s56 := hst.dis 5 6 _ _ (by decide) g5 g6; simp only at s56; omega)), q41 l6 (by simp), q42 l5 (by simp)⟩ ⟨hst.dis 1 3 _ _ (by decide) g1 g3, (show l5 ≠ l7 from (by have s57 := hst.dis 5 7 _ _ (by decide) g5 g7; simp only at s57; omega)), q41 l7 (by simp), q43 l5 (by simp)⟩ ⟨hst.dis 2 3 _ _ (by decide) g2 g3, (show l6 ≠ l7 from (by have s67 := hst.dis 6 7 _ _ (by decide) g6 g7; simp only at s67; omega)), q42 l7 (by simp), q43 l6 (by simp)⟩
  obtain ⟨o0, ho0, hg0, hd0, hp0⟩ := hoS 0 (by omega)
  obtain ⟨o1, ho1, hg1, hd1, hp1⟩ := hoS 1 (by omega)
  obtain ⟨o2, ho2, hg2, hd2, hp2⟩ := hoS 2 (by omega)
  obtain ⟨o3, ho3, hg3, hd3, hp3⟩ := hoS 3 (by omega)
  have ev0 : xs 0 = Dat.v ⟨l0, u0, l4, AU0, nU0, cU0, H0, d0, C0, p0, q0⟩ := e0
  have ev1 : xs 1 = Dat.v ⟨l1, u1, l5, AU1, nU1, cU1, H1, d1, C1, p1, q1⟩ := e1
  have ev2 : xs 2 = Dat.v ⟨l2, u2, l6, AU2, nU2, cU2, H2, d2, C2, p2, q2⟩ := e2
  have ev3 : xs 3 = Dat.v ⟨l3, u3, l7, AU3, nU3, cU3, H3, d3, C3, p3, q3⟩ := e3
  rw [ev0, ev1, ev2, ev3] at hae
  refine store_step hr0 ho0 hg0 hd0 hp0 (hat 4 (by omega)) (hat 0 (by omega)) (P := l4) (v := vs 0) (by rw [e0]; exact r0) (hS _ n1) ?_
  refine store_step hr1 ho1 hg1 hd1 hp1 (hat 5 (by omega)) (hat 1 (by omega)) (P := l5) (v := vs 1) (by rw [e1]; exact r1) (hS _ n2) ?_
  refine store_step hr2 ho2 hg2 hd2 hp2 (hat 6 (by omega)) (hat 2 (by omega)) (P := l6) (v := vs 2) (by rw [e2]; exact r2) (hS _ n3) ?_
  refine store_step hr3 ho3 hg3 hd3 hp3 (hat 7 (by omega)) (hat 3 (by omega)) (P := l7) (v := vs 3) (by rw [e3]; exact r3) (hS _ n4) ?_
  refine ⟨hr4, ?_⟩
  rw [hae]
  exact hfin
end Go.Proofs.Ytgfnlfkbbedkaaa
