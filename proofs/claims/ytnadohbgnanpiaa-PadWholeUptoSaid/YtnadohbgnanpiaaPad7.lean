/-
  The walks of Chunks' two closures.
-/
import Derived.Test.YtnadohbgnanpiaaPad6
namespace Go.Proofs.Ytnadohbgnanpiaa
open Go.RowKit

section
variable {ops : Array Oper} {rest : List Oper} {o : Oper} {a : Act} {Q : Exit → Act → World → Prop}
/-- The append of one more row, at a step of a region that draws. -/
theorem stepAppBB {w0 W : World} {K : Act → World → Prop} {E : Prop} (B base : Nat) (hgd : o.guard = none) (s x : Operand)
    (ho : o.op = .call { callee := .builtin .append, args := #[s, x], argTypes := #[25, 25] })
    (v : Value) (ls : List (List UInt8)) (m : List UInt8) (Am : Option Addr) (nm cm : Nat) (hs : a.eval s = v) (hx : a.eval x = .slice (some ⟨W.heap.size, 0, none⟩) 1 1)
    (HO : OwnBB W base v ls) (hcm : nm ≤ cm) (HR : RdB W (fun k => base ≤ k ∧ v.ownBlock ≠ some k) Am nm m) (HB : Below B w0 W) (hbase : base ≤ W.heap.size) (hBb : B ≤ base) (hl : ls.length ≤ 1099511627776)
    (h : ∀ v1 w1, OwnBB w1 base v1 (ls ++ [m]) → Below B w0 w1 → W.grownBy w1 v.ownBlock → K (a.put o.dst v1) w1) :
    if Region.wanted o (yielded ops a.tmps) = true then Oper.wp Try.prog o a (W.alloc (.cells #[.slice Am nm cm] 28)) K Q else E := by
  have hw : Region.wanted o (yielded ops a.tmps) = true := by simp [Region.wanted, hgd]
  rw [if_pos hw]
  obtain ⟨v1, w1, hr, h2, h3, _⟩ := run_appBB base o.type v ls m Am nm cm HO hcm HR hbase hl
  obtain ⟨vs, _, hvs, _⟩ := HO
  unfold Oper.wp execOp
  simp only [ho, resolve, invoke, builtin, Sem.run_bind, Sem.run_pure, Result.andThen_ok, List.map_toArray, List.map_cons, List.map_nil, hs, hx, hr]
  refine h v1 w1 h2 ((HB.alloc (by omega) _).grown h3 (by simp; omega) (fun k hk => by have := World.ownsRow.lt hvs k hk; omega)) ?_
  exact (World.grownBy_alloc W _ _).trans h3
end
/-- What the closures leave: below Bx the blocks O and T alone may have turned. -/
structure ChK (Bx O T : Nat) (w w' : World) : Prop where
  os : w'.os = w.os
  tape : w'.tape = w.tape
  output : w'.output = w.output
  size : w.heap.size ≤ w'.heap.size
  block : ∀ k, k < Bx → k ≠ O → k ≠ T → w'.heap[k]? = w.heap[k]?
  fO : w'.frozen? ⟨O, 0, none⟩ = w.frozen? ⟨O, 0, none⟩
  fT : w'.frozen? ⟨T, 0, none⟩ = w.frozen? ⟨T, 0, none⟩
theorem ChK.refl (Bx O T : Nat) (w : World) : ChK Bx O T w w := ⟨rfl, rfl, rfl, Nat.le_refl _, fun _ _ _ _ => rfl, rfl, rfl⟩
theorem ChK.trans {Bx O T : Nat} {w w1 w2 : World} (h : ChK Bx O T w w1) (k : ChK Bx O T w1 w2) : ChK Bx O T w w2 :=
  ⟨k.os.trans h.os, k.tape.trans h.tape, k.output.trans h.output, Nat.le_trans h.size k.size, fun i h1 h2 h3 => (k.block i h1 h2 h3).trans (h.block i h1 h2 h3), k.fO.trans h.fO, k.fT.trans h.fT⟩
/-- What stands while Chunks goes on: the boxes' places, the stream, the room. -/
structure ChF (B Bx O S T R H n c room : Nat) (A : Option Addr) (xs : List UInt8) (w : World) : Prop where
  bO : B ≤ O ∧ O < Bx
  bS : B ≤ S ∧ S < Bx
  bT : B ≤ T ∧ T < Bx
  bR : B ≤ R ∧ R < Bx
  bH : B ≤ H ∧ H < Bx
  ne : O ≠ S ∧ O ≠ T ∧ O ≠ R ∧ O ≠ H ∧ T ≠ S ∧ T ≠ R ∧ T ≠ H
  sz : Bx ≤ w.heap.size
  cS : w.cell? ⟨S, 0, none⟩ = some (.slice A n c)
  cR : w.cell? ⟨R, 0, none⟩ = some (.int .i64 (room : Int))
  cH : w.cell? ⟨H, 0, none⟩ = some (.func (.func 31) #[] #[.pointer (some ⟨O, 0, none⟩), .pointer (some ⟨S, 0, none⟩), .pointer (some ⟨T, 0, none⟩)])
  fO : w.frozen? ⟨O, 0, none⟩ = false
  fT : w.frozen? ⟨T, 0, none⟩ = false
  nc : n ≤ c
  nm : n ≤ 1099511627776
  rd : RdB w (fun k => k < B) A n xs
theorem ChF.keep {B Bx O S T R H n c room : Nat} {A : Option Addr} {xs : List UInt8} {w w' : World} (h : ChF B Bx O S T R H n c room A xs w) (k : ChK Bx O T w w') : ChF B Bx O S T R H n c room A xs w' := {
  bO := h.bO
  bS := h.bS
  bT := h.bT
  bR := h.bR
  bH := h.bH
  ne := h.ne
  sz := Nat.le_trans h.sz k.size
  cS := (World.cell?_of_block (w := w) (a := ⟨S, 0, none⟩) (k.block S h.bS.2 (fun e => h.ne.1 e.symm) (fun e => h.ne.2.2.2.2.1 e.symm))).trans h.cS
  cR := (World.cell?_of_block (w := w) (a := ⟨R, 0, none⟩) (k.block R h.bR.2 (fun e => h.ne.2.2.1 e.symm) (fun e => h.ne.2.2.2.2.2.1 e.symm))).trans h.cR
  cH := (World.cell?_of_block (w := w) (a := ⟨H, 0, none⟩) (k.block H h.bH.2 (fun e => h.ne.2.2.2.1 e.symm) (fun e => h.ne.2.2.2.2.2.2 e.symm))).trans h.cH
  fO := k.fO.trans h.fO
  fT := k.fT.trans h.fT
  nc := h.nc
  nm := h.nm
  rd := h.rd.keep k.size fun i hi _ => k.block i (by have := h.bO; omega) (by have := h.bO; omega) (by have := h.bT; omega) }
/-- What turns: what has been handed, from where the rest is open. -/
structure ChV (Bx O T : Nat) (v : Value) (st : Pad.St) (w : World) : Prop where
  cO : w.cell? ⟨O, 0, none⟩ = some v
  cT : w.cell? ⟨T, 0, none⟩ = some (.int .i64 (st.2 : Int))
  own : OwnBB w Bx v st.1
theorem OwnBB.lt {w : World} {base : Nat} {v : Value} {ls : List (List UInt8)} (h : OwnBB w base v ls) : ∀ k, v.ownBlock = some k → base ≤ k ∧ k < w.heap.size := by
  obtain ⟨vs, _, h2, _⟩ := h
  exact World.ownsRow.lt h2
def RetHand (Bx O T : Nat) (st : Pad.St) (w : World) (e : Ending) (w' : World) : Prop := (∃ u, e = .returned u) ∧ (∃ v', ChV Bx O T v' st w') ∧ ChK Bx O T w w'
theorem hand_fin {Bx O T z : Nat} {w w2 : World} {V : Value} {L : List (List UInt8)} {u0 u1 : Value} (hb2 : Below Bx w w2) (_hsz : Bx ≤ w.heap.size) (hO : O < Bx) (hT : T < Bx) (hne : O ≠ T)
    (cO2 : w2.cell? ⟨O, 0, none⟩ = some u0) (cT2 : w2.cell? ⟨T, 0, none⟩ = some u1) (ho2 : OwnBB w2 Bx V L) :
    (∃ v', ChV Bx O T v' (L, z) ((w2.setCell ⟨O, 0, none⟩ V).setCell ⟨T, 0, none⟩ (.int .i64 (z : Int)))) ∧ ChK Bx O T w ((w2.setCell ⟨O, 0, none⟩ V).setCell ⟨T, 0, none⟩ (.int .i64 (z : Int))) := by
  have cT3 := (World.cell?_setCell_far w2 ⟨O, 0, none⟩ ⟨T, 0, none⟩ V hne).trans cT2
  have cO3 := World.cell?_setCell_same' w2 ⟨O, 0, none⟩ V (by rw [cO2]; rfl)
  refine ⟨⟨V, ⟨?_, ?_, ?_⟩⟩, ⟨hb2.os, hb2.tape, hb2.output, by simpa [World.setCell] using hb2.size, fun k h1 h2 h3 => ?_, ?_, ?_⟩⟩
  · exact (World.cell?_setCell_far _ ⟨T, 0, none⟩ ⟨O, 0, none⟩ _ (fun e => hne e.symm)).trans cO3
  · exact World.cell?_setCell_same' _ ⟨T, 0, none⟩ _ (by rw [cT3]; rfl)
  · have g1 : w2.grownBy (w2.setCell ⟨O, 0, none⟩ V) (some O) := grownSet (World.grownBy.refl w2 _) ⟨O, 0, none⟩ V (.inl rfl)
    have g2 : (w2.setCell ⟨O, 0, none⟩ V).grownBy ((w2.setCell ⟨O, 0, none⟩ V).setCell ⟨T, 0, none⟩ (.int .i64 (z : Int))) (some T) := grownSet (World.grownBy.refl _ _) ⟨T, 0, none⟩ _ (.inl rfl)
    exact (ho2.grown g1 (fun k e => by cases e; exact hO)).grown g2 (fun k e => by cases e; exact hT)
  · rw [Below.heap_setCell _ ⟨T, 0, none⟩ _ k h3, Below.heap_setCell _ ⟨O, 0, none⟩ _ k h2]
    exact hb2.block k h1
  · rw [World.frozen?_setCell, World.frozen?_setCell]
    exact hb2.frozen (p := ⟨O, 0, none⟩) hO
  · rw [World.frozen?_setCell, World.frozen?_setCell]
    exact hb2.frozen (p := ⟨T, 0, none⟩) hT
set_option maxHeartbeats 2000000 in
theorem hand_calls (B Bx O S T R H n c room z : Nat) (A : Option Addr) (xs : List UInt8) (w : World) (v : Value) (st : Pad.St) (hF : ChF B Bx O S T R H n c room A xs w) (hV : ChV Bx O T v st w) (h1 : st.2 ≤ z) (h2 : z ≤ n) (hl : st.1.length ≤ 1099511627776) :
    Calls Try.prog 31 #[.int .i64 (z : Int), .pointer (some ⟨O, 0, none⟩), .pointer (some ⟨S, 0, none⟩), .pointer (some ⟨T, 0, none⟩)] w (RetHand Bx O T (Pad.hand xs st z) w) := by
  obtain ⟨out, at_⟩ := st
  simp only at h1 hl
  obtain ⟨cO, cT, own⟩ := hV
  simp only at cT own
  have cS := hF.cS
  have hnc := hF.nc
  have hnm := hF.nm
  obtain ⟨A5, hcut, hcr⟩ := cut_run A n c at_ z h1 h2 hnc
  have r5 := hcr _ _ _ hF.rd.drew
  have hcut' := hcut .i64 .i64
  clear hcut hcr
  go_enter Try.func31, Try.ntmps31
  go_wp2_with fail
  have hO := hF.bO.2
  have hT := hF.bT.2
  have hne := hF.ne.2.1
  have hsz := hF.sz
  have fO := hF.fO
  have fT := hF.fT
  have hlt := own.lt
  have L5 := r5.len
  obtain ⟨l5, hl5⟩ : ∃ l5, (xs.take z).drop at_ = l5 := ⟨_, rfl⟩
  rw [hl5] at r5 L5
  have HL5 := Lib.hid hl5
  have HLEN := Lib.hid L5
  have cOd : w.drew.cell? ⟨O, 0, none⟩ = some v := cO
  clear hF hl5 L5
  go_region_law (first
    | (refine stepAppBB (w0 := w.drew) (W := w1) Bx Bx (by rfl) _ _ (by rfl) v out l5 A1 (z - at_) c1 (by rfl) (by rfl) own1 hc1 r1 hbB hz1 (Nat.le_refl _) hl ?_; intro v2 w2 ho2 hb2 hg2; have cO2 := (hb2.cell (p := ⟨O, 0, none⟩) hO).trans cOd; have fO2 : w2.frozen? ⟨O, 0, none⟩ = false := (hb2.frozen (p := ⟨O, 0, none⟩) hO).trans fO; have ho2' := ho2; obtain ⟨A2, c2, rfl, _, _⟩ := ho2.rd)
    | (go_simp; go_at_call 32; (with_reducible refine (bclone_calls A5 (z - at_) (c - at_) l5 w.drew _ r5 (by omega)).mono ?_); rintro e w1 ⟨v1, rfl, ho1, hb1⟩; obtain ⟨A1, c1, rfl, hc1, _, r1'⟩ := ho1.rd; rw [HLEN.out] at hc1 r1'; rw [HLEN.out]; have cO1 := cellBelow hb1 cOd; have own1 := OwnBB.below (w := w.drew) own hb1; have hz1 : Bx ≤ w1.heap.size := Nat.le_trans hsz hb1.size; have hbB : Below Bx w.drew w1 := hb1.mono hsz; have r1 : RdB w1 (fun k => Bx ≤ k ∧ v.ownBlock ≠ some k) A1 (z - at_) l5 := r1'.mono (fun k hk _ => ⟨Nat.le_trans hsz hk.1, fun e => Nat.lt_irrefl _ (Nat.lt_of_lt_of_le (hlt k e).2 hk.1)⟩); have cO1a := cellBelow ((Below.refl w1.heap.size w1).alloc (Nat.le_refl _) (.cells #[.slice A1 (z - at_) c1] 28)) cO1))
  all_goals
    have cT2 := (hb2.cell (p := ⟨T, 0, none⟩) hT).trans (show w.drew.cell? ⟨T, 0, none⟩ = _ from cT)
    have fT2 : w2.frozen? ⟨T, 0, none⟩ = false := (hb2.frozen (p := ⟨T, 0, none⟩) hT).trans fT
    have cT3 := (World.cell?_setCell_far w2 ⟨O, 0, none⟩ ⟨T, 0, none⟩ (.slice A2 (out ++ [l5]).length c2) hne).trans cT2
    have hll : (out ++ [l5]).length = out.length + 1 := by simp
    rw [hll] at ho2'
    have hbw : Below Bx w w2 := (Below.refl Bx w).drew.trans hb2
    have hfin := hand_fin (z := z) hbw hsz hO hT hne cO2 cT2 ho2'
    rw [← HL5.out] at hfin
    go_wp2_with fail
    go_end0
    exact ⟨⟨_, rfl⟩, hfin.1, hfin.2⟩
end Go.Proofs.Ytnadohbgnanpiaa
