/-
  topo.Order's walk.
-/
import Derived.Test.YthgnjojkncodeaaGreatTp7
import Derived.WalkMore
namespace Go.Proofs.YthgnjojkncodeaaGreat
open Go.RowKit

theorem putRow_chg {w : World} {g q : Nat} {d : Array Int} {S : Nat → Prop} (hS : S g) : Chg S w (Sort.putRow (Value.int .i64) (Sort.ahead w q) g 0 d) :=
  ⟨rfl, rfl, rfl, by simp [Sort.putRow, Sort.mapBlock, Sort.ahead], fun k hk hne => by
    have hkg : g ≠ k := fun e => hne (by rw [← e]; exact hS)
    simp [Sort.putRow, Sort.mapBlock, Sort.ahead, Array.getElem?_modify, hkg]⟩
theorem grow_chg {w w1 : World} {S : Nat → Prop} (h : Chg S w w1) (os : Array Obj) : Chg S w (Sort.grow w1 os) :=
  ⟨h.os, h.tape, h.output, by have := h.size; simp [Sort.grow]; omega, fun k hk hne => by
    rw [← h.block k hk hne]
    exact Sort.heap_grow_old _ _ (by have := h.size; omega)⟩
theorem sort_chg {w : World} {base : Nat} {v : Value} {zs : List Int} (h : OwnI w base v zs) (hl : zs.length ≤ 1099511627776) :
    Calls Tryz.prog 69 #[v] w fun e w' => e = .returned (.tuple #[]) ∧ OwnI w' base v (sortI zs) ∧ Chg (fun k => v.ownBlock = some k) w w' := by
  rcases Nat.eq_zero_or_pos zs.length with h0 | h0
  · obtain rfl : zs = [] := List.eq_nil_of_length_eq_zero h0
    obtain ⟨A, c, rfl, _⟩ := h.rd
    refine (Tryz.slices_Sort_int_none A c w).mono ?_
    rintro e w' ⟨rfl, rfl⟩
    have hs : sortI [] = [] := by simp [sortI]
    rw [hs]
    exact ⟨rfl, h, Chg.refl _ _⟩
  · obtain ⟨g, cap, rfl, h1, h2, h3, h4, h5⟩ := h.holds h0
    refine (Tryz.slices_Sort_int g 0 cap zs w h5 h2 (by omega)).mono ?_
    rintro e w' ⟨rfl, n, os, rfl⟩
    have := Lib.ownsRow_putRow (q := n) (k := zs.length) (ys := sortI zs) (enc := Value.int .i64) h (sortI_length zs) (Nat.le_refl _)
    rw [List.take_of_length_le (by rw [sortI_length]; exact Nat.le_refl _)] at this
    refine ⟨rfl, ?_, grow_chg (putRow_chg (S := fun k => (Value.slice (some ⟨g, 0, none⟩) zs.length cap).ownBlock = some k) rfl) os⟩
    unfold OwnI
    rw [sortI_length]
    exact ownsRow_grow this os
theorem compact_chg {w : World} {base : Nat} {v : Value} {zs : List Int} (h : OwnI w base v zs) :
    Calls Tryz.prog 70 #[v] w fun e w' => ∃ v1, e = .returned v1 ∧ OwnI w' base v1 (Lib.compact zs) ∧ v1.ownBlock = v.ownBlock ∧ Chg (fun k => v.ownBlock = some k) w w' := by
  rcases Nat.eq_zero_or_pos zs.length with h0 | h0
  · obtain rfl : zs = [] := List.eq_nil_of_length_eq_zero h0
    obtain ⟨A, c, rfl, _⟩ := h.rd
    refine (Tryz.slices_Compact_int_empty A c w).mono ?_
    rintro e w' ⟨rfl, rfl⟩
    have hs : Lib.compact ([] : List Int) = [] := rfl
    rw [hs]
    exact ⟨_, rfl, h, rfl, Chg.refl _ _⟩
  · obtain ⟨g, cap, rfl, h1, h2, h3, h4, h5⟩ := h.holds h0
    refine (Tryz.slices_Compact_int g 0 cap zs w h5 (by omega) h3).mono ?_
    rintro e w' ⟨rfl, q, rfl⟩
    have hle := Lib.compact_length_le zs
    have := Lib.ownsRow_putRow (q := q) (k := (Lib.compact zs).length) (ys := Lib.compact zs ++ List.replicate (zs.length - (Lib.compact zs).length) 0) (enc := Value.int .i64) h (by simp; omega) hle
    rw [List.take_left] at this
    exact ⟨_, rfl, this, rfl, putRow_chg rfl⟩
theorem endsOf_len (f : Ed → Int × Bool) (es : List Ed) : (endsOf f es).length ≤ es.length := by
  have h1 := Lib.compact_length_le (sortI (picks f es))
  have h2 := sortI_length (picks f es)
  have h3 := picks_len f es
  unfold endsOf
  omega
/-- What topo.Order hands back. -/
def RetO (w : World) : Option (List Int) → Ending → World → Prop
  | some o, e, w' => ∃ v, e = .returned (.tuple #[v, .int .i64 0]) ∧ OwnI w' w.heap.size v o ∧ Below w.heap.size w w'
  | none, e, w' => e = .returned (.tuple #[.slice none 0 0, .int .i64 1]) ∧ Below w.heap.size w w'
set_option maxHeartbeats 800000 in
theorem order_out (w : World) (v : Value) (ep : Int) (up : List Bool) (hops : List (List Ed)) (h : TopoV w (fun k => k < w.heap.size) v ep up hops) (flow : Int) (h1 : inI flow) (hout : ¬ (0 ≤ flow ∧ flow < hops.length)) :
    Calls Tryz.prog 62 #[v, .int .i64 flow] w (RetO w none) := by
  obtain ⟨A, n, c, B, m, d, rfl, h1', h2, h3, h4⟩ := h
  have hm := h4.max
  have hl := h4.len
  have hwi := fun W : World => within_no flow 0 ((m : Int) - 1) W (by omega)
  clear h3 h4 hout hl
  go_enter Tryz.func62, Tryz.ntmps62
  go_wp2
  go_step3
  go_wp2_with (go_at_call 52; refine (hwi _).mono ?_; rintro e w1 ⟨rfl, rfl⟩)
  try rw [Exit.noGoto_ret]
  go_ret2
  exact ⟨rfl, (Below.refl _ _).alloc (Nat.le_refl _) _⟩
/-- A box of one cell. -/
def BoxI (w : World) (P : Nat) (v : Value) : Prop := w.heap[P]? = some (.cells #[v] 54 (0, 0))
section
variable {w w' : World} {P : Nat} {v u : Value} {S : Nat → Prop}
theorem BoxI.cell (h : BoxI w P v) : w.cell? ⟨P, 0, none⟩ = some v := by unfold BoxI at h; simp [World.cell?, h]
theorem BoxI.free (h : BoxI w P v) : w.frozen? ⟨P, 0, none⟩ = false := by unfold BoxI at h; simp [World.frozen?, h]
theorem BoxI.lt (h : BoxI w P v) : P < w.heap.size := by unfold BoxI at h; exact (Array.getElem?_eq_some_iff.1 h).1
theorem BoxI.chg (h : BoxI w P v) (hc : Chg S w w') (hs : ¬ S P) : BoxI w' P v := (hc.block P h.lt hs).trans h
theorem BoxI.below (h : BoxI w P v) (hb : Below w.heap.size w w') : BoxI w' P v := h.chg (Chg.ofBelow (S := NoB) hb) id
theorem BoxI.made (w : World) (v : Value) : BoxI (w.alloc (.cells #[v] 54)) w.heap.size v := heap_alloc_new w _
theorem BoxI.set (h : BoxI w P v) (u : Value) : BoxI (w.setCell ⟨P, 0, none⟩ u) P u := by
  unfold BoxI at h ⊢
  simp [World.setCell, Array.getElem?_modify, h]
end
/-- The state of Order's loop: the box, the row of what is left, the row of what is laid. -/
structure OSt (w5 : World) (PB sL : Nat) (wr : World) (bv lv : Value) (left : List Int) (ov : Value) (out : List Int) : Prop where
  bel : Below w5.heap.size w5 wr
  pb : w5.heap.size ≤ PB ∧ PB < sL
  siz : sL ≤ wr.heap.size
  box : BoxI wr PB bv
  lrow : OwnI wr w5.heap.size lv left
  lblk : ∀ k, lv.ownBlock = some k → k < sL ∧ k ≠ PB
  orow : OwnI wr sL ov out
section
variable {w5 : World} {PB sL : Nat} {wr w' : World} {bv lv ov v1 : Value} {left left' out out' : List Int}
theorem OSt.below (h : OSt w5 PB sL wr bv lv left ov out) (hb : Below wr.heap.size wr w') : OSt w5 PB sL w' bv lv left ov out :=
  ⟨belowThen h.bel h.bel.size hb, h.pb, Nat.le_trans h.siz hb.size, h.box.below hb, h.lrow.below hb, h.lblk, h.orow.below hb⟩
theorem OSt.drew (h : OSt w5 PB sL wr bv lv left ov out) : OSt w5 PB sL wr.drew bv lv left ov out := h.below (Below.refl _ _).drew
theorem OSt.app (h : OSt w5 PB sL wr bv lv left ov out) (ho : OwnI w' sL v1 out') (hc : Chg (fun k => ov.ownBlock = some k) wr w') : OSt w5 PB sL w' bv lv left v1 out' := by
  have hlt := h.orow.lt
  have hpb := h.pb
  refine ⟨hc.below h.bel h.bel.size fun k hk => by have := (hlt k hk).1; omega, h.pb, Nat.le_trans h.siz hc.size, h.box.chg hc fun e => by have := (hlt _ e).1; omega, h.lrow.chg hc fun k hk e => ?_, h.lblk, ho⟩
  have := (hlt _ e).1
  have := (h.lblk k hk).1
  omega
theorem OSt.del (h : OSt w5 PB sL wr bv lv left ov out) (ho : OwnI w' w5.heap.size v1 left') (hv : v1.ownBlock = lv.ownBlock) (hc : Chg (fun k => lv.ownBlock = some k) wr w') : OSt w5 PB sL w' bv v1 left' ov out := by
  have hlt := h.orow.lt
  have hll := h.lrow.lt
  refine ⟨hc.below h.bel h.bel.size fun k hk => (hll k hk).1, h.pb, Nat.le_trans h.siz hc.size, h.box.chg hc fun e => (h.lblk _ e).2 rfl, ho, fun k hk => h.lblk k (by rw [← hv]; exact hk), h.orow.chg hc fun k hk e => ?_⟩
  have := (hlt k hk).1
  have := (h.lblk k e).1
  omega
theorem OSt.put (h : OSt w5 PB sL wr bv lv left ov out) : OSt w5 PB sL (wr.setCell ⟨PB, 0, none⟩ lv) lv lv left ov out := by
  have hc := Chg.set wr ⟨PB, 0, none⟩ lv
  have hpb := h.pb
  have hlt := h.orow.lt
  refine ⟨hc.below h.bel h.bel.size fun k hk => by rw [hk]; exact hpb.1, h.pb, Nat.le_trans h.siz hc.size, h.box.set lv, h.lrow.chg hc fun k hk e => (h.lblk k hk).2 e, h.lblk, h.orow.chg hc fun k hk e => ?_⟩
  have := (hlt k hk).1
  have e : k = PB := e
  omega
end
theorem delete1_chg {w : World} {base : Nat} {v : Value} {zs : List Int} (h : OwnI w base v zs) (i : Nat) (hi : i < zs.length) :
    Calls Tryz.prog 84 #[v, .int .i64 (i : Int), .int .i64 ((i : Int) + 1)] w fun e w' => ∃ v1, e = .returned v1 ∧ OwnI w' base v1 (zs.eraseIdx i) ∧ v1.ownBlock = v.ownBlock ∧ Chg (fun k => v.ownBlock = some k) w w' := by
  have := delete_chg h i (i + 1) (by omega) (by omega) (by omega)
  rw [← List.eraseIdx_eq_take_drop_succ] at this
  exact this
section
variable {ops : Array Oper} {o : Oper} {a : Act} {Q : Exit → Act → World → Prop}
/-- The step of a region that draws: append(own ints, n), at a world that was made. -/
theorem stepAppI {W : World} {K : Act → World → Prop} {E : Prop} (base : Nat) (hgd : o.guard = none) (s x : Operand)
    (ho : o.op = .call { callee := .builtin .append, args := #[s, x], argTypes := #[54, 54] })
    (v : Value) (zs : List Int) (z : Int) (hs : a.eval s = v) (hx : a.eval x = .slice (some ⟨W.heap.size, 0, none⟩) 1 1)
    (HO : OwnI W base v zs) (hbase : base ≤ W.heap.size) (hl : zs.length ≤ 1099511627776)
    (h : ∀ v1 w1, OwnI w1 base v1 (zs ++ [z]) → Chg (fun k => v.ownBlock = some k) W w1 → K (a.put o.dst v1) w1) :
    if Region.wanted o (yielded ops a.tmps) = true then Oper.wp Tryz.prog o a (W.alloc (.cells #[.int .i64 z] 3)) K Q else E := by
  have hw : Region.wanted o (yielded ops a.tmps) = true := by simp [Region.wanted, hgd]
  rw [if_pos hw]
  obtain ⟨v1, w1, hr, h2, h3⟩ := app_chg base o.type v zs z HO hbase hl
  unfold Oper.wp execOp
  simp only [ho, resolve, invoke, builtin, Sem.run_bind, Sem.run_pure, Result.andThen_ok, List.map_toArray, List.map_cons, List.map_nil, hs, hx, hr]
  exact h v1 w1 h2 h3
theorem stepAppG {W : World} {K : Act → World → Prop} {E : Prop} (base : Nat) (hgd : o.guard = none) (s x : Operand)
    (ho : o.op = .call { callee := .builtin .append, args := #[s, x], argTypes := #[54, 54] })
    (v : Value) (zs : List Int) (z : Int) (b : Nat) (hs : a.eval s = v) (hx : a.eval x = .slice (some ⟨b, 0, none⟩) 1 1) (hz : W.cell? ⟨b, 0, none⟩ = some (.int .i64 z))
    (HO : OwnI W base v zs) (hbase : base ≤ W.heap.size) (hl : zs.length ≤ 1099511627776)
    (h : ∀ v1 w1, OwnI w1 base v1 (zs ++ [z]) → Chg (fun k => v.ownBlock = some k) W w1 → K (a.put o.dst v1) w1) :
    if Region.wanted o (yielded ops a.tmps) = true then Oper.wp Tryz.prog o a W K Q else E := by
  have hw : Region.wanted o (yielded ops a.tmps) = true := by simp [Region.wanted, hgd]
  rw [if_pos hw]
  obtain ⟨i0, hi, hzz⟩ := Option.map_eq_some_iff.1 info_int
  simp only [Prod.mk.injEq] at hzz
  obtain ⟨hz0, hz1, hz2⟩ := hzz
  obtain ⟨v1, w1, hr, h2, h3, _, _⟩ := run_append_own_at (P := Tryz.prog) W base 54 o.type 3 i0 (.int .i64 0) 1 8 Tryz.underlying54 hi hz0 hz1 hz2 rfl (by omega) v zs.length (ivals zs) HO ⟨b, 0, none⟩ 1 1 [.int .i64 z] rfl
    (fun j u hu => by
      cases j with
      | zero => simp at hu; subst hu; rw [addZero]; exact hz
      | succ j => simp at hu) (by simp [Value.oneCell']) (by simp only [maxLen]; omega) (by omega) hbase
  unfold Oper.wp execOp
  simp only [ho, resolve, invoke, builtin, Sem.run_bind, Sem.run_pure, Result.andThen_ok, List.map_toArray, List.map_cons, List.map_nil, hs, hx, hr]
  exact h v1 w1 (by unfold OwnI; rw [List.length_append, ivals_append]; exact h2) ((Chg.ofGrown h3).mono fun k _ e => e.symm)
end
theorem two_rows {w : World} {ok : Nat → Prop} {A B : Option Addr} {c d : Nat} {xs ys : List Int} (hx : RdI w ok A xs.length xs) (hy : RdI w ok B ys.length ys) (hc : xs.length ≤ c) (hd : ys.length ≤ d) (t : TypeId) :
    Rd elIs (w.alloc (.cells #[.slice A xs.length c, .slice B ys.length d] t)) (fun k => ok k ∨ k = w.heap.size) (some ⟨w.heap.size, 0, none⟩) 2 [xs, ys] := by
  have hb : Below w.heap.size w (w.alloc (.cells #[.slice A xs.length c, .slice B ys.length d] t)) := (Below.refl _ _).alloc (Nat.le_refl _) _
  refine ⟨rfl, by decide, fun _ => ⟨w.heap.size, 0, rfl, .inr rfl, by simp, fun j x hj => ?_⟩⟩
  match j, hj with
  | 0, hj =>
    simp at hj; subst hj
    exact ⟨_, ⟨A, xs.length, c, rfl, hc, ((hx.below hb).mono fun k hk _ => .inl hk).toRd⟩, fun r u hu => by
      cases r with
      | zero => simp at hu; subst hu; simp
      | succ r => simp at hu⟩
  | 1, hj =>
    simp at hj; subst hj
    exact ⟨_, ⟨B, ys.length, d, rfl, hd, ((hy.below hb).mono fun k hk _ => .inl hk).toRd⟩, fun r u hu => by
      cases r with
      | zero => simp at hu; subst hu; simp [El.slice]
      | succ r => simp at hu⟩
  | j + 2, hj => simp at hj
set_option maxRecDepth 20000 in
set_option maxHeartbeats 4000000 in
theorem order_in (w : World) (v : Value) (ep : Int) (up : List Bool) (hops : List (List Ed)) (h : TopoV w (fun k => k < w.heap.size) v ep up hops) (hf : Few hops) (k : Nat) (es : List Ed) (hes : hops[k]? = some es) :
    Calls Tryz.prog 62 #[v, .int .i64 (k : Int)] w (RetO w (orderOf es)) := by
  obtain ⟨A, n, c, B, m, d, rfl, h1', h2, h3, h4⟩ := h
  have hm := h4.max
  have hl := h4.len
  have hk : k < m := by have := (List.getElem?_eq_some_iff.1 hes).1; omega
  have hwi := fun W : World => within_yes (k : Int) 0 ((m : Int) - 1) W (by omega) (by omega)
  have hkm : (k : Int) < (m : Int) := by omega
  have hel : es.length ≤ 1048576 := hf es (List.mem_of_getElem? hes)
  obtain ⟨b, o, vs, rfl, hb1, hb2, hV, hcl⟩ := h4.at_ k es hes
  obtain ⟨C, p, q, rfl, hpq, hrd⟩ := hV
  have k0 : w.cell? ⟨b, o + k, none⟩ = some (.slice C p q) := by have := hcl 0 _ rfl; simpa [El.slice] using this
  have hpl := hrd.len
  obtain ⟨w2, hw2⟩ : ∃ w2, (w.alloc (.cells #[.int .u64 ep, .slice A n c, .slice (some ⟨b, o, none⟩) m d] 38)).alloc (.cells #[.slice C p q] 74) = w2 := ⟨_, rfl⟩
  have b2 : Below w.heap.size w w2 := by rw [← hw2]; exact ((Below.refl _ _).alloc (Nat.le_refl _) _).alloc (by simp) _
  have hs2 : w2.heap.size = w.heap.size + 2 := by rw [← hw2]; simp
  have kL : w2.cell? ⟨w.heap.size + 1, 0, none⟩ = some (.slice C p q) := by rw [← hw2, World.cell?_alloc_at _ _ _ _ (by simp)]; rfl
  have hrE := (hrd.below b2).mono (ok' := fun q => q < w2.heap.size) fun q hq _ => by omega
  have e49 : ∀ args w, (callFunc 81 args).run Tryz.prog w = .ok (.enter 81 args) w := enters_of Tryz.func81 (by kernel_rfl) rfl
  have e50 : ∀ args w, (callFunc 82 args).run Tryz.prog w = .ok (.enter 82 args) w := enters_of Tryz.func82 (by kernel_rfl) rfl
  have e45 : ∀ args w, (callFunc 78 args).run Tryz.prog w = .ok (.enter 78 args) w := enters_of Tryz.func78 (by kernel_rfl) rfl
  have hc1 := both_calls 81 (fun e => e.1) e49 (fun W x => o2_gives x.1 x.2 W) (w.heap.size + 1) w2 C p q es (by omega) kL hrE (by omega)
  have hE1l := endsOf_len (fun e => (e.1, true)) es
  have hE2l := endsOf_len (fun e => (e.2, true)) es
  obtain ⟨E1, hE1⟩ : ∃ E1, endsOf (fun e : Ed => (e.1, true)) es = E1 := ⟨_, rfl⟩
  obtain ⟨E2, hE2⟩ : ∃ E2, endsOf (fun e : Ed => (e.2, true)) es = E2 := ⟨_, rfl⟩
  rw [hE1] at hE1l hc1
  rw [hE2] at hE2l
  have HE1 := Lib.hid hE1
  have HE2 := Lib.hid hE2
  clear hE1 hE2
  have HW2 := Lib.hid hw2
  have HS2 := Lib.hid hs2
  have HRD := Lib.hid hrd
  have HEL := Lib.hid hel
  have HPL := Lib.hid hpl
  have E50 := Lib.hid e50
  have E49 := Lib.hid e49
  have B2 := Lib.hid b2
  have HRE := Lib.hid hrE
  have KL := Lib.hid kL
  clear h3 h4 hf hl hcl hrd hel hes hw2 hs2 hpl e49 e50 b2 hrE kL
  go_enter Tryz.func62, Tryz.ntmps62
  go_wp2
  go_step3
  go_wp2_with (go_at_call 52; refine (hwi _).mono ?_; rintro e w1 ⟨rfl, rfl⟩)
  rw [HW2.out]
  refine hc1.mono ?_
  rintro e w3 ⟨v3, rfl, hO3, b3⟩
  have kL3 := (b3.cell (p := ⟨w.heap.size + 1, 0, none⟩) (by have := HS2.out; show w.heap.size + 1 < w2.heap.size; omega)).trans KL.out
  have hc2 := both_calls 82 (fun e => e.2) E50.out (fun W x => o3_gives x.1 x.2 W) (w.heap.size + 1) w3 C p q es (by have := b3.size; have := HS2.out; omega) kL3 ((HRE.out.below b3).mono fun q hq _ => by have := b3.size; omega) (by have := HEL.out; have := HPL.out; omega)
  rw [HE2.out] at hc2
  have KL3 := Lib.hid kL3
  have HO3 := Lib.hid hO3
  have B3 := Lib.hid b3
  clear kL3 hO3 b3 hc1
  go_wp2_with fail
  refine hc2.mono ?_
  rintro e w4 ⟨v4, rfl, hO4, b4⟩
  have HO4 := Lib.hid hO4
  have B4 := Lib.hid b4
  clear hO4 b4 hc2
  obtain ⟨A3, c3, e3, hc3, _, hA3, hR3⟩ := HO3.out.rd
  obtain ⟨A4, c4, e4, hc4, _, hA4, hR4⟩ := HO4.out.rd
  have hR5 := two_rows ((hR3.below B4.out).mono (ok' := fun q => q < w4.heap.size) fun q _ hq => hq) (hR4.mono (ok' := fun q => q < w4.heap.size) fun q _ hq => hq) hc3 hc4 54
  obtain ⟨w5, hw5⟩ : ∃ w5, w4.alloc (.cells #[.slice A3 E1.length c3, .slice A4 E2.length c4] 54) = w5 := ⟨_, rfl⟩
  rw [hw5] at hR5
  have hs5 : w5.heap.size = w4.heap.size + 1 := by rw [← hw5]; simp
  have hB5 : Below w4.heap.size w4 w5 := by rw [← hw5]; exact (Below.refl _ _).alloc (Nat.le_refl _) _
  have hc3' := concat_calls w5 _ 2 2 _ (hR5.mono fun q hq _ => by rcases hq with hq | hq <;> omega) (by have := HEL.out; simp; omega)
  obtain ⟨CS, hCS⟩ : ∃ CS, [E1, E2].flatten = CS := ⟨_, rfl⟩
  have hCSl : CS.length ≤ 2097152 := by have := HEL.out; rw [← hCS]; simp; omega
  rw [hCS] at hc3'
  have HCS := Lib.hid hCS
  have HW5 := Lib.hid hw5
  have B5 := Lib.hid hB5
  have HS5 := Lib.hid hs5
  have HN3 := Lib.hid HO3.out.lt
  subst e3 e4
  clear hA3 hA4 hR3 hR4 hc3 hc4 hCS hw5 hs5 hB5 hR5
  go_wp2_with fail
  rw [HW5.out]
  refine hc3'.mono ?_
  rintro e w6 ⟨v6, rfl, hO6, b6⟩
  obtain ⟨A6, c6, e6, hnc6, _⟩ := hO6.rd
  subst e6
  obtain ⟨w7, hw7⟩ : ∃ w7, w6.alloc (.cells #[(.slice A6 CS.length c6)] 54) = w7 := ⟨_, rfl⟩
  have hs7 : w7.heap.size = w6.heap.size + 1 := by rw [← hw7]; simp
  have b7 : Below w6.heap.size w6 w7 := by rw [← hw7]; exact (Below.refl _ _).alloc (Nat.le_refl _) _
  have hbox7 : BoxI w7 w6.heap.size (.slice A6 CS.length c6) := by rw [← hw7]; exact BoxI.made _ _
  have hO7 := hO6.below b7
  have hlt6 := hO6.lt
  have HSC := sort_chg hO7 (by omega)
  have HW7 := Lib.hid hw7
  have HS7 := Lib.hid hs7
  have B57 := Lib.hid (belowThen b6 b6.size b7)
  have HB7 := Lib.hid hbox7
  have HL6 := Lib.hid hlt6
  have HZ6 := Lib.hid b6.size
  clear hc3' hO6 b6 hw7 hs7 b7 hbox7 hO7 hlt6
  go_wp2_with fail
  rw [HW7.out]
  refine HSC.mono ?_
  rintro e w8 ⟨rfl, hO8, hc8⟩
  have hbox8 := HB7.out.chg hc8 (fun e => by have := (HL6.out _ e).2; omega)
  have hcell8 := hbox8.cell
  have HCC := compact_chg hO8
  have HB8 := Lib.hid hbox8
  have C8 := Lib.hid hc8
  clear HSC hO8 hc8 hbox8
  go_wp2_with fail
  refine HCC.mono ?_
  rintro e w9 ⟨v9, rfl, hO9, hv9, hc9⟩
  obtain ⟨NS, hNS⟩ : ∃ NS, Lib.compact (sortI CS) = NS := ⟨_, rfl⟩
  rw [hNS] at hO9
  have HNS := Lib.hid hNS
  obtain ⟨A9, c9, e9, hnc9, _⟩ := hO9.rd
  subst e9
  clear hNS
  have hbox9 := HB8.out.chg hc9 (fun e => by have := (HL6.out _ e).2; omega)
  have hcell9 := hbox9.cell
  have hfree9 := hbox9.free
  obtain ⟨wL, hwL⟩ : ∃ wL, w9.setCell ⟨w6.heap.size, 0, none⟩ (.slice A9 NS.length c9) = wL := ⟨_, rfl⟩
  have hnd : NS = nodesOf es := by rw [← HNS.out, ← HCS.out]; unfold nodesOf; rw [HE1.out, HE2.out]; simp
  have hOSt : OSt w5 w6.heap.size wL.heap.size wL (.slice A9 NS.length c9) (.slice A9 NS.length c9) NS (.slice none 0 0) [] := by
    have hzL : wL.heap.size = w9.heap.size := by rw [← hwL]; simp
    have h79 : w7.heap.size ≤ w9.heap.size := Nat.le_trans C8.out.size hc9.size
    have hs7 := HS7.out
    have hz6 := HZ6.out
    have hch : Chg (fun k => w5.heap.size ≤ k) w7 wL := by
      rw [← hwL]
      refine ((C8.out.trans hc9 fun k _ hk => hk).mono fun k _ hk => (HL6.out k hk).1).trans (Chg.set w9 ⟨w6.heap.size, 0, none⟩ (.slice A9 NS.length c9)) fun k _ hk => ?_
      rw [hk]; exact hz6
    refine ⟨hch.below B57.out B57.out.size fun k hk => hk, ⟨hz6, by omega⟩, Nat.le_refl _, by rw [← hwL]; exact hbox9.set (.slice A9 NS.length c9), ?_, fun k hk => ?_, OwnI.nil _ _⟩
    · rw [← hwL]
      exact hO9.chg (Chg.set w9 ⟨w6.heap.size, 0, none⟩ (.slice A9 NS.length c9)) fun k hk e => by rw [hv9] at hk; have := (HL6.out k hk).2; have e : k = w6.heap.size := e; omega
    · rw [hv9] at hk; have := (HL6.out k hk).2; omega
  have HOS := Lib.hid hOSt
  have HWL := Lib.hid hwL
  have HND := Lib.hid hnd
  clear HCC hO9 hc9 hbox9 hcell8 hwL hnd hOSt hv9
  go_wp2_with fail
  rw [HWL.out]
  have hnl : NS.length ≤ 2097152 := by have := Lib.compact_length_le (sortI CS); rw [HNS.out, sortI_length] at this; omega
  have hnn : NS.length ≤ c9 := hnc9
  have HOL : Hid (orderLoop es NS.length NS [] = orderOf es) := Lib.hid (by rw [HND.out]; rfl)
  obtain ⟨PB, hPB⟩ : ∃ PB, w6.heap.size = PB := ⟨_, rfl⟩
  obtain ⟨sL, hsL⟩ : ∃ sL, wL.heap.size = sL := ⟨_, rfl⟩
  have HPBL : Hid (PB < sL) := Lib.hid (by rw [← hPB, ← hsL]; exact HOS.out.pb.2)
  rw [hPB, hsL] at HOS
  have kL5 : w5.cell? ⟨w.heap.size + 1, 0, none⟩ = some (.slice C p q) := by
    have h1 := (B4.out.cell (p := ⟨w.heap.size + 1, 0, none⟩) (by have := HS2.out; have := B3.out.size; show w.heap.size + 1 < w3.heap.size; omega)).trans KL3.out
    exact (B5.out.cell (p := ⟨w.heap.size + 1, 0, none⟩) (by have := HS2.out; have := B3.out.size; have := B4.out.size; show w.heap.size + 1 < w4.heap.size; omega)).trans h1
  have KL5 := Lib.hid kL5
  have h5 : w.heap.size + 1 < w5.heap.size := by have := HS2.out; have := B3.out.size; have := B4.out.size; have := HS5.out; omega
  have H5 := Lib.hid h5
  have RE5 := Lib.hid (((HRE.out.below B3.out).below B4.out).below B5.out)
  have BW5 := Lib.hid (belowThen (belowThen (belowThen B2.out B2.out.size B3.out) (by have := B2.out.size; have := B3.out.size; omega) B4.out) (by have := B2.out.size; have := B3.out.size; have := B4.out.size; omega) B5.out)
  have HZ25 := Lib.hid (show w2.heap.size ≤ w5.heap.size by have := B3.out.size; have := B4.out.size; have := HS5.out; omega)
  have e54 : ∀ args w, (callFunc 83 args).run Tryz.prog w = .ok (.enter 83 args) w := enters_of Tryz.func83 (by kernel_rfl) rfl
  have E54 := Lib.hid e54
  clear hnc9 kL5 h5 e54
  rw [hPB]
  clear hPB hsL
  have HNN := Lib.hid hnn
  have HNL := Lib.hid hnl
  clear hnn hnl
  clear hkm hwi hm hk hpq h1' h2 e45 k0 hb1 hb2
  go_step3
  go_wp2_with fail
  go_loopg [9] NS.length (fun gg s9 wr => ∃ (left out : List Int) (A1 : Option Addr) (N cc : Nat), N ≤ gg ∧ N ≤ cc ∧ out.length + N ≤ 2097152 ∧ Hid (left.length = N) ∧ Hid (OSt w5 PB sL wr (.slice A1 N cc) (.slice A1 N cc) left s9 out) ∧ Hid (orderLoop es left.length left out = orderOf es))
  case atStart => exact ⟨NS, [], A9, NS.length, c9, Nat.le_refl _, HNN.out, by have := HNL.out; simpa using this, Lib.hid rfl, HOS, HOL⟩
  case round =>
    obtain ⟨left, out, A1, N, cc, hNg, hNc, hbd, HN, HST, HOR⟩ := hrel
    have hbox := HST.out.box.cell
    by_cases h0 : 0 < N
    · have h0' : (N : Int) > 0 := by omega
      go_wp2_with fail
      obtain ⟨wo, hwo⟩ : ∃ wo, wo = wr := ⟨_, rfl⟩
      subst hwo
      obtain ⟨ov, hov⟩ : ∃ ov, ov = u9 := ⟨_, rfl⟩
      subst hov
      clear hbox
      go_loopg [9, 40] N (fun g2 s9 s40 wi => ∃ j : Nat, j ≤ N ∧ N - j ≤ g2 ∧ s9 = ov ∧ s40 = .int .i64 (j : Int) ∧ Hid (OSt w5 PB sL wi (.slice A1 N cc) (.slice A1 N cc) left ov out) ∧ Hid (∀ i, i < j → free es left (left[i]?.getD 0) = false))
      case atStart => exact ⟨0, Nat.zero_le _, by omega, rfl, rfl, HST, Lib.hid (fun i hi => absurd hi (Nat.not_lt_zero _))⟩
      case round =>
        clear HST
        obtain ⟨j, hj, hg2, hs9, rfl, HST, HNF⟩ := hrel
        subst hs9
        by_cases hjl : j < N
        · have hjl' : (j : Int) < (N : Int) := by omega
          obtain ⟨A1', cc', e1, hcc1, hcm, hAn, hRl⟩ := HST.out.lrow.rd
          rw [HN.out] at e1 hcc1 hAn hRl
          injection e1 with e1a e1b e1c
          subst e1a e1c
          obtain ⟨bl, ol, rfl, hbl, hcj⟩ := hRl.at_ j hjl
          obtain ⟨nv, hnv⟩ : ∃ nv, left[j]?.getD 0 = nv := ⟨_, rfl⟩
          rw [hnv] at hcj
          have hlj : left[j]? = some nv := by
            have : j < left.length := by rw [HN.out]; exact hjl
            rw [List.getElem?_eq_getElem this] at hnv ⊢
            simpa using hnv
          obtain ⟨wn, hwn⟩ : ∃ wn, wr.alloc (.cells #[.int .i64 nv] 3) = wn := ⟨_, rfl⟩
          have hbn : Below wr.heap.size wr wn := by rw [← hwn]; exact (Below.refl _ _).alloc (Nat.le_refl _) _
          have hsn : wn.heap.size = wr.heap.size + 1 := by rw [← hwn]; simp
          have hcn : wn.cell? ⟨wr.heap.size, 0, none⟩ = some (.int .i64 nv) := by rw [← hwn]; simp
          have hSn := HST.out.below hbn
          have hb5n := hSn.bel
          have hkn : wn.cell? ⟨w.heap.size + 1, 0, none⟩ = some (.slice C p q) := (hb5n.cell (p := ⟨w.heap.size + 1, 0, none⟩) (by have := H5.out; show w.heap.size + 1 < w5.heap.size; omega)).trans KL5.out
          have hkr : wr.cell? ⟨w.heap.size + 1, 0, none⟩ = some (.slice C p q) := (HST.out.bel.cell (p := ⟨w.heap.size + 1, 0, none⟩) (by have := H5.out; show w.heap.size + 1 < w5.heap.size; omega)).trans KL5.out
          have hkl : w.heap.size + 1 < wr.heap.size := by have := H5.out; have := HST.out.bel.size; omega
          have hpn : wn.cell? ⟨PB, 0, none⟩ = some (.slice (some ⟨bl, ol, none⟩) N cc) := hSn.box.cell
          have hrn : RdI wn (fun q => q < wn.heap.size) (some ⟨bl, ol, none⟩) N left := (hRl.below hbn).mono fun q hq _ => by assumption
          have hgv := o4_gives nv left (some ⟨bl, ol, none⟩) N cc wr.heap.size PB wn (by omega) (hSn.box.lt) hcn hpn hrn
          have hcf := cfunc_calls wn C p q es ((RE5.out.below hb5n).mono fun q hq _ => by have := hb5n.size; have := HZ25.out; omega) 83 _ _ E54.out hgv
          have HWN := Lib.hid hwn
          have HSN := Lib.hid hSn
          have HCN := Lib.hid hcn
          have HSZ := Lib.hid hsn
          have HLJ := Lib.hid hlj
          have HNV := Lib.hid hnv
          clear hwn hSn hb5n hcn hsn hrn hgv hbn hRl hAn hlj hnv hpn
          cases hq : (es.any fun e => (e.2 == nv) && left.contains e.1) with
          | true =>
            rw [hq] at hcf
            have hfr : free es left nv = false := by unfold free; rw [hq]; rfl
            have HFR := Lib.hid hfr
            clear hq hfr
            go_wp2_with (go_at_call 61; rw [HWN.out]; refine hcf.mono ?_; rintro e wc ⟨rfl, hbc⟩)
            go_roundg (N - (j + 1))
            case measure => omega
            case rel =>
              refine ⟨j + 1, by omega, by omega, rfl, by go_num, Lib.hid (HSN.out.below hbc), Lib.hid fun i hi => ?_⟩
              rcases Nat.lt_or_ge i j with h | h
              · exact HNF.out i h
              · obtain rfl : i = j := by omega
                rw [HNV.out]; exact HFR.out
          | false =>
            rw [hq] at hcf
            have hfr : free es left nv = true := by unfold free; rw [hq]; rfl
            have HFR := Lib.hid hfr
            clear hq hfr
            go_wp2_with (go_at_call 61; rw [HWN.out]; refine hcf.mono ?_; rintro e wc ⟨rfl, hbc⟩)
            have hSc := HSN.out.below hbc
            have hcc : wc.cell? ⟨wr.heap.size, 0, none⟩ = some (.int .i64 nv) := (hbc.cell (p := ⟨wr.heap.size, 0, none⟩) (by have := HSZ.out; show wr.heap.size < wn.heap.size; omega)).trans HCN.out
            have hbx := hSc.box.cell
            have hfx := hSc.box.free
            have hw1 : IntKind.i64.wrap ((j : Int) + 1) = (j : Int) + 1 := IntWalk.i64_in _ ⟨by omega, by omega⟩
            have hjlen : j < left.length := by rw [HN.out]; exact hjl
            have hwrc : wr.heap.size < wc.heap.size := by have := HSZ.out; have := hbc.size; omega
            have hwn5 : sL ≤ wr.heap.size := HST.out.siz
            obtain ⟨Ld, hLd0⟩ : ∃ Ld, left.eraseIdx j = Ld := ⟨_, rfl⟩
            have hLdl : Ld.length = N - 1 := by rw [← hLd0, List.length_eraseIdx_of_lt hjlen, HN.out]
            have HLDL := Lib.hid hLdl
            have HLD0 := Lib.hid hLd0
            have hol : out.length ≤ 1099511627776 := by omega
            have hsc : sL ≤ wc.heap.size := hSc.siz
            have hpbc := hSc.box.lt
            have hSb := (hSc.below ((Below.refl wc.heap.size wc).alloc (Nat.le_refl _) (.cells #[.int .i64 nv] 3))).drew
            have hsb := hSb.siz
            have hcb : ((wc.alloc (.cells #[.int .i64 nv] 3)).drew).cell? ⟨wc.heap.size, 0, none⟩ = some (.int .i64 nv) := by simp
            clear hLdl hLd0 hkn hkr
            go_region_law (first
              | (go_simp; go_at_call 84; (with_reducible refine (delete1_chg hSa.lrow j hjlen).mono ?_); rintro e wd ⟨vd, rfl, hLd, hvd, hcd⟩; rw [HLD0.out] at hLd; obtain ⟨Ad, cd, ed, hdc, _⟩ := hLd.rd; subst ed; have hSf := hSa.del hLd hvd hcd; have hbx2 := hSf.box.cell; have hfx2 := hSf.box.free; have HSF := Lib.hid hSf; clear hSf hLd hvd hcd)
              | (go_simp; go_at_call 84; (with_reducible refine (delete1_chg hSb.lrow j hjlen).mono ?_); rintro e wd ⟨vd, rfl, hLd, hvd, hcd⟩; rw [HLD0.out] at hLd; obtain ⟨Ad, cd, ed, hdc, _⟩ := hLd.rd; subst ed; have hSe := hSb.del hLd hvd hcd; have hbx2 := hSe.box.cell; have hfx2 := hSe.box.free; have hse := hSe.siz; have hce := hcd.cell (a := ⟨wc.heap.size, 0, none⟩) (v := .int .i64 nv) hcb (fun e => by have := (hSc.lblk _ e).1; have e2 : wc.heap.size < sL := this; omega); clear hLd hvd hcd)
              | (go_simp; go_at_call 84; (with_reducible refine (delete1_chg hSc.drew.lrow j hjlen).mono ?_); rintro e wd ⟨vd, rfl, hLd, hvd, hcd⟩; rw [HLD0.out] at hLd; obtain ⟨Ad, cd, ed, hdc, _⟩ := hLd.rd; subst ed; have hSd := hSc.drew.del hLd hvd hcd; have hbx2 := hSd.box.cell; have hfx2 := hSd.box.free; have hpbd := hSd.box.lt; have hcc2 := hcd.cell (a := ⟨wr.heap.size, 0, none⟩) (v := .int .i64 nv) hcc (fun e => by have := (hSc.lblk _ e).1; have e2 : wr.heap.size < sL := this; omega); have hSg := hSd.below ((Below.refl wd.heap.size wd).alloc (Nat.le_refl _) (.cells #[.int .i64 nv] 3)); have hsg := hSg.siz; clear hLd hvd hcd)
              | (refine stepAppG sL (by rfl) _ _ (by rfl) u9 out nv wc.heap.size (by go_simp) (by go_simp) hce hSe.orow hse hol ?_; intro v1 w1 ho1 hc1; have hSf := hSe.app ho1 hc1; have hbx3 := hSf.box.cell; have hfx3 := hSf.box.free; have HSF := Lib.hid hSf; clear hSf ho1 hc1)
              | (refine stepAppG sL (by rfl) _ _ (by rfl) u9 out nv wd.heap.size (by go_simp) (by go_simp) (by simp) hSg.orow hsg hol ?_; intro v1 w1 ho1 hc1; have hSf := hSg.app ho1 hc1; have hbx3 := hSf.box.cell; have hfx3 := hSf.box.free; have HSF := Lib.hid hSf; clear hSf ho1 hc1)
              | (refine stepAppG sL (by rfl) _ _ (by rfl) u9 out nv wc.heap.size (by go_simp) (by go_simp) hcb hSb.orow hsb hol ?_; intro v1 w1 ho1 hc1; have hSa := hSb.app ho1 hc1; have hbx3 := hSa.box.cell; have hfx3 := hSa.box.free; clear ho1 hc1))
            all_goals
              have HFP := Lib.hid HSF.out.put
              have HOS2 := Lib.hid (order_step es left out j nv HLJ.out (fun i hi => HNF.out i hi) HFR.out)
              have hl2 : Ld.length ≤ N - 1 := by have := HLDL.out; omega
              have hl3 : (out ++ [nv]).length + Ld.length ≤ 2097152 := by rw [List.length_append, List.length_singleton]; omega
              have HL3 := Lib.hid hl3
              clear hl3
              go_wp2_with fail
              go_roundg (N - 1)
              case measure => omega
              case rel => exact ⟨Ld, out ++ [nv], Ad, Ld.length, cd, hl2, hdc, HL3.out, Lib.hid rfl, HFP, Lib.hid (by rw [← HOR.out, HOS2.out, HLD0.out])⟩
        · have hjl' : ¬ ((j : Int) < (N : Int)) := by omega
          obtain rfl : j = N := by omega
          have hoo : orderOf es = none := by rw [← HOR.out]; exact order_stuck es left out (by rw [HN.out]; exact h0) (fun i hi => HNF.out i (by rw [HN.out] at hi; exact hi))
          have HOO := Lib.hid hoo
          have hb5i := HST.out.bel
          clear hoo
          go_wp2
          try rw [Exit.noGoto_ret]
          go_ret2
          rw [HOO.out]
          exact ⟨rfl, belowThen BW5.out (by have := H5.out; omega) hb5i⟩
    · have h0' : ¬ ((N : Int) > 0) := by omega
      obtain rfl : left = [] := List.eq_nil_of_length_eq_zero (by have := HN.out; omega)
      have hoo : orderOf es = some out := by rw [← HOR.out]; exact order_nil es _ out
      have HOO := Lib.hid hoo
      have hfin := HST.out.orow
      have hbf := HST.out.bel
      clear hoo HOR HN
      go_wp2
      try rw [Exit.noGoto_ret]
      go_ret2
      rw [HOO.out]
      exact ⟨_, rfl, hfin.lower (by have := H5.out; have := HPBL.out; have := HST.out.pb; omega), belowThen BW5.out (by have := H5.out; omega) hbf⟩
end Go.Proofs.YthgnjojkncodeaaGreat
