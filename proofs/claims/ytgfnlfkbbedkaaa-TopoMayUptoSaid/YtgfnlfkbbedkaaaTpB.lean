/-
  The laws' topology out of pairs of bytes: between.
-/
import Derived.Test.YtgfnlfkbbedkaaaTpV
namespace Go.Proofs.Ytgfnlfkbbedkaaa
open Go.RowKit

/-- A byte. -/
def El.u8 : El Nat where
  k := 1
  bulk := fun _ => 1
  V := fun _ _ vs x => vs = [.int .u8 (x : Int)] ∧ x < 256
  len := by rintro w ok vs x ⟨rfl, _⟩; rfl
  one := by rintro w ok vs x ⟨rfl, _⟩ u hu; simp at hu; subst hu; rfl
  keep := fun h _ _ => h
  mono := fun h _ => h
abbrev elU2 : El (Nat × Nat) := El.prod El.u8 El.u8
def edgesB (l : List (Nat × Nat)) : List Ed := (l.take 40).map fun p => (((p.1 % 10 : Nat) : Int), ((p.2 % 10 : Nat) : Int))
theorem al4 (w : World) (z a b c : Obj) : ((((w.alloc z).alloc a).alloc b).alloc c).drew.heap[w.heap.size]? = some z ∧ ((((w.alloc z).alloc a).alloc b).alloc c).drew.heap[w.heap.size + 1]? = some a ∧ ((((w.alloc z).alloc a).alloc b).alloc c).drew.heap[w.heap.size + 1 + 1]? = some b ∧
    ((((w.alloc z).alloc a).alloc b).alloc c).drew.heap[w.heap.size + 1 + 1 + 1]? = some c ∧ Below w.heap.size w ((((w.alloc z).alloc a).alloc b).alloc c).drew := by
  have s1 : (w.alloc z).heap.size = w.heap.size + 1 := by simp
  have s2 : ((w.alloc z).alloc a).heap.size = w.heap.size + 1 + 1 := by simp
  have s3 : (((w.alloc z).alloc a).alloc b).heap.size = w.heap.size + 1 + 1 + 1 := by simp
  have ha := heap_alloc_new (w.alloc z) a
  have hb := heap_alloc_new ((w.alloc z).alloc a) b
  have hc := heap_alloc_new (((w.alloc z).alloc a).alloc b) c
  rw [s1] at ha
  rw [s2] at hb
  rw [s3] at hc
  have b1 := (Below.refl w.heap.size w).alloc (Nat.le_refl _) z
  have b2 := b1.alloc (by omega) a
  have b3 := b2.alloc (by omega) b
  have b4 := b3.alloc (by omega) c
  refine ⟨?_, ?_, ?_, hc, b4.drew⟩
  · show ((((w.alloc z).alloc a).alloc b).alloc c).heap[w.heap.size]? = some z
    rw [Below.heap_alloc _ _ _ (by omega), Below.heap_alloc _ _ _ (by omega), Below.heap_alloc _ _ _ (by omega)]
    exact heap_alloc_new w z
  · show ((((w.alloc z).alloc a).alloc b).alloc c).heap[w.heap.size + 1]? = some a
    rw [Below.heap_alloc _ _ _ (by omega), Below.heap_alloc _ _ _ (by omega)]
    exact ha
  · show ((((w.alloc z).alloc a).alloc b).alloc c).heap[w.heap.size + 1 + 1]? = some b
    rw [Below.heap_alloc _ _ _ (by omega)]
    exact hb
/-- The topology that between fills: its box, its nodes, the box of its edges' slice. -/
structure BT (w wx : World) (PT PU PH : Nat) (ev : Value) : Prop where
  bel : Below w.heap.size w wx
  t : w.heap.size < PT ∧ w.heap.size < PU ∧ w.heap.size < PH
  ne : PT ≠ PU ∧ PT ≠ PH ∧ PU ≠ PH
  bt : wx.heap[PT]? = some (.cells #[.int .u64 1, .slice (some ⟨PU, 0, none⟩) 10 10, .slice (some ⟨PH, 0, none⟩) 1 1] 27 (0, 0))
  bu : wx.heap[PU]? = some (.cells #[.bool false, .bool false, .bool false, .bool false, .bool false, .bool false, .bool false, .bool false, .bool false, .bool false] 4 (0, 0))
  b0 : wx.heap[w.heap.size]? = some (.cells #[.int .u64 0, .slice none 0 0, .slice none 0 0] 27 (0, 0))
  bh : wx.heap[PH]? = some (.cells #[ev] 39 (0, 0))
section
variable {w wx w' : World} {PT PU PH : Nat} {ev v1 : Value} {S : Nat → Prop}
theorem BT.chg (h : BT w wx PT PU PH ev) (hc : Chg S wx w') (hs : ∀ k, S k → w.heap.size < k ∧ k ≠ PT ∧ k ≠ PU ∧ k ≠ PH) : BT w w' PT PU PH ev :=
  ⟨hc.below h.bel h.bel.size fun k hk => by have := (hs k hk).1; omega, h.t, h.ne, (hc.block _ (Array.getElem?_eq_some_iff.1 h.bt).1 fun e => (hs _ e).2.1 rfl).trans h.bt, (hc.block _ (Array.getElem?_eq_some_iff.1 h.bu).1 fun e => (hs _ e).2.2.1 rfl).trans h.bu,
    (hc.block _ (Array.getElem?_eq_some_iff.1 h.b0).1 fun e => by have := (hs _ e).1; omega).trans h.b0, (hc.block _ (Array.getElem?_eq_some_iff.1 h.bh).1 fun e => (hs _ e).2.2.2 rfl).trans h.bh⟩
theorem BT.below (h : BT w wx PT PU PH ev) (hb : Below wx.heap.size wx w') : BT w w' PT PU PH ev := h.chg (S := NoB) (Chg.ofBelow hb) fun _ h => h.elim
theorem BT.put (h : BT w wx PT PU PH ev) (v1 : Value) : BT w (wx.setCell ⟨PH, 0, none⟩ v1) PT PU PH v1 := by
  have hc := Chg.set wx ⟨PH, 0, none⟩ v1
  have ht := h.t
  have hn := h.ne
  refine ⟨hc.below h.bel h.bel.size fun k hk => by have e : k = PH := hk; omega, h.t, h.ne, (hc.block _ (Array.getElem?_eq_some_iff.1 h.bt).1 fun e => hn.2.1 e).trans h.bt, (hc.block _ (Array.getElem?_eq_some_iff.1 h.bu).1 fun e => hn.2.2 e).trans h.bu,
    (hc.block _ (Array.getElem?_eq_some_iff.1 h.b0).1 fun e => by have e : w.heap.size = PH := e; omega).trans h.b0, ?_⟩
  have := h.bh
  simp [World.setCell, Array.getElem?_modify, this]
end
theorem stepRunL {P : Program} {ops : Array Oper} {o : Oper} {a : Act} {Q : Exit → Act → World → Prop} {G : Act → World → Prop} {X : Prop} {W W1 : World} (hgd : o.guard = none) (s y : Operand) (st : TypeId)
    (ho : o.op = .call { callee := .builtin .append, args := #[s, y], argTypes := #[st, st] }) (v yv v1 : Value) (hs : a.eval s = v) (hy : a.eval y = yv) (hr : (Builtin.append_ #[st, st] o.type #[v, yv]).run P W = .ok v1 W1)
    (h : G (a.put o.dst v1) W1) : if Region.wanted o (yielded ops a.tmps) = true then Oper.wp P o a W G Q else X := by
  have hw : Region.wanted o (yielded ops a.tmps) = true := by simp [Region.wanted, hgd]
  rw [if_pos hw]
  unfold Oper.wp execOp
  simp only [ho, resolve, invoke, builtin, Sem.run_bind, Sem.run_pure, Result.andThen_ok, List.map_toArray, List.map_cons, List.map_nil, hs, hy, hr]
  exact h
theorem up10_rd (w : World) (ok : Nat → Prop) (g : Nat) (hok : ok g) (hg : w.heap[g]? = some (.cells #[.bool false, .bool false, .bool false, .bool false, .bool false, .bool false, .bool false, .bool false, .bool false, .bool false] 4 (0, 0))) :
    Rd El.bool w ok (some ⟨g, 0, none⟩) 10 (List.replicate 10 false) := by
  have hc : Cells El.bool w ok ((List.replicate 10 (Value.bool false)).map fun v => [v]) (List.replicate 10 false) :=
    .cons rfl (.cons rfl (.cons rfl (.cons rfl (.cons rfl (.cons rfl (.cons rfl (.cons rfl (.cons rfl (.cons rfl .nil)))))))))
  exact rd_block (xs := List.replicate 10 false) hc (Array.getElem?_eq_some_iff.1 hg).1 hok (by decide) fun j u hu => by
    simp only [World.cell?, hg]
    simpa using hu
def edB (p : Nat × Nat) : Ed := (((p.1 % 10 : Nat) : Int), ((p.2 % 10 : Nat) : Int))
set_option linter.unusedSimpArgs false in
set_option maxRecDepth 20000 in
set_option maxHeartbeats 4000000 in
theorem between_calls (w : World) (A : Option Addr) (n c : Nat) (l : List (Nat × Nat)) (hr : Rd elU2 w (fun k => k < w.heap.size) A n l) :
    Calls Try.prog 9 #[.slice A n c] w (RetT w 1 (List.replicate 10 false) [edgesB l]) := by
  have hm := hr.max
  have hl := hr.len
  have mk1 : ∀ W : World, (Instr.makeSlice 24 (.int .i64 10) (.int .i64 10)).run Try.prog W = .ok (.slice (some ⟨W.heap.size, 0, none⟩) 10 10) (W.alloc (.cells #[.bool false, .bool false, .bool false, .bool false, .bool false, .bool false, .bool false, .bool false, .bool false, .bool false] 4)) := fun W => by kernel_rfl
  have mk2 : ∀ W : World, (Instr.makeSlice 25 (.int .i64 1) (.int .i64 1)).run Try.prog W = .ok (.slice (some ⟨W.heap.size, 0, none⟩) 1 1) (W.alloc (.cells #[.slice none 0 0] 39)) := fun W => by kernel_rfl
  go_enter Try.func9, Try.ntmps9
  go_upto_region 1 with (fail)
  go_cut [3] (fun s3 wx => ∃ PT PU PH : Nat, s3 = .pointer (some ⟨PT, 0, none⟩) ∧ BT w wx PT PU PH (.slice none 0 0))
  case first =>
    go_region
    all_goals
      go_wp2_with fail
      go_meet
      obtain ⟨x0, x1, x2, x3, x4⟩ := al4 w (.cells #[.int .u64 0, .slice none 0 0, .slice none 0 0] 27) _ _ _
      first
        | exact ⟨_, w.heap.size + 1, w.heap.size + 1 + 1, rfl, ⟨x4, ⟨by omega, by omega, by omega⟩, ⟨by omega, by omega, by omega⟩, (by first | exact x1 | exact x2 | exact x3), (by first | exact x1 | exact x2 | exact x3), x0, (by first | exact x1 | exact x2 | exact x3)⟩⟩
        | exact ⟨_, w.heap.size + 1, w.heap.size + 1 + 1 + 1, rfl, ⟨x4, ⟨by omega, by omega, by omega⟩, ⟨by omega, by omega, by omega⟩, (by first | exact x1 | exact x2 | exact x3), (by first | exact x1 | exact x2 | exact x3), x0, (by first | exact x1 | exact x2 | exact x3)⟩⟩
        | exact ⟨_, w.heap.size + 1 + 1, w.heap.size + 1, rfl, ⟨x4, ⟨by omega, by omega, by omega⟩, ⟨by omega, by omega, by omega⟩, (by first | exact x1 | exact x2 | exact x3), (by first | exact x1 | exact x2 | exact x3), x0, (by first | exact x1 | exact x2 | exact x3)⟩⟩
        | exact ⟨_, w.heap.size + 1 + 1, w.heap.size + 1 + 1 + 1, rfl, ⟨x4, ⟨by omega, by omega, by omega⟩, ⟨by omega, by omega, by omega⟩, (by first | exact x1 | exact x2 | exact x3), (by first | exact x1 | exact x2 | exact x3), x0, (by first | exact x1 | exact x2 | exact x3)⟩⟩
        | exact ⟨_, w.heap.size + 1 + 1 + 1, w.heap.size + 1, rfl, ⟨x4, ⟨by omega, by omega, by omega⟩, ⟨by omega, by omega, by omega⟩, (by first | exact x1 | exact x2 | exact x3), (by first | exact x1 | exact x2 | exact x3), x0, (by first | exact x1 | exact x2 | exact x3)⟩⟩
        | exact ⟨_, w.heap.size + 1 + 1 + 1, w.heap.size + 1 + 1, rfl, ⟨x4, ⟨by omega, by omega, by omega⟩, ⟨by omega, by omega, by omega⟩, (by first | exact x1 | exact x2 | exact x3), (by first | exact x1 | exact x2 | exact x3), x0, (by first | exact x1 | exact x2 | exact x3)⟩⟩
  case rest =>
    obtain ⟨PT, PU, PH, rfl, hBT⟩ := hcut
    obtain ⟨i0, hi0, hzz⟩ := Option.map_eq_some_iff.1 info_ed
    simp only [Prod.mk.injEq] at hzz
    obtain ⟨hz0, hz1, hz2⟩ := hzz
    have HI := Lib.hid hi0
    have HZ := Lib.hid hz0
    have HB0 := Lib.hid hBT
    clear mk1 mk2 hi0 hz0 hBT
    go_wp2_with fail
    go_loopg [4] n (fun gg s4 wr => ∃ (i : Nat) (ev : Value), i ≤ n ∧ i ≤ 40 ∧ n - i ≤ gg ∧ s4 = .int .i64 (i : Int) ∧ Hid (BT w wr PT PU PH ev) ∧ Hid (Own elEd 42 wr (fun k => w.heap.size < k ∧ k ≠ PT ∧ k ≠ PU ∧ k ≠ PH) ev ((l.take i).map edB)))
    case atStart => exact ⟨0, .slice none 0 0, Nat.zero_le _, by omega, by omega, rfl, HB0, Lib.hid (Own.nil _ _ _ _)⟩
    case round =>
      clear HB0
      obtain ⟨i, ev, hin, hi40, hg, rfl, HB, HO⟩ := hrel
      by_cases hgo : i < n ∧ i < 40
      · obtain ⟨hlt, hlt40⟩ := hgo
        have hlti : (i : Int) < (n : Int) := by omega
        have hlt4 : (i : Int) < 40 := by omega
        have hi0' : (0 : Int) ≤ (i : Int) := by omega
        obtain ⟨x, hx⟩ : ∃ x, l[i]? = some x := ⟨_, List.getElem?_eq_getElem (by omega)⟩
        have hrr : Rd elU2 wr (fun k => k < w.heap.size) A n l := hr.keep HB.out.bel.size fun k hk _ => HB.out.bel.block k hk
        obtain ⟨bb, oo, vs, rfl, hbb, _, hV, hcl⟩ := hrr.at_ i x hx
        obtain ⟨x1, x2⟩ := x
        obtain ⟨us, ws, rfl, ⟨rfl, hx1⟩, rfl, hx2⟩ := hV
        have k0 : wr.cell? ⟨bb, oo + i * 2, none⟩ = some (.int .u8 (x1 : Int)) := hcl 0 _ rfl
        have k1 : wr.cell? ⟨bb, oo + i * 2 + 1, none⟩ = some (.int .u8 (x2 : Int)) := hcl 1 _ rfl
        simp only at hx1 hx2
        obtain ⟨A1, c1, e1, hc1, hR1⟩ := HO.out.rd (by rw [List.length_map, List.length_take]; omega)
        obtain ⟨N1, hN1⟩ : ∃ N1, ((l.take i).map edB).length = N1 := ⟨_, rfl⟩
        rw [hN1] at e1
        subst e1
        have p0 : wr.cell? ⟨PT, 2, none⟩ = some (.slice (some ⟨PH, 0, none⟩) 1 1) := by have := HB.out.bt; simp [World.cell?, this]
        have p1 : wr.cell? ⟨PH, 0, none⟩ = some (.slice A1 N1 c1) := by have := HB.out.bh; simp [World.cell?, this]
        obtain ⟨y1, hy1⟩ : ∃ y1, x1 % 10 = y1 := ⟨_, rfl⟩
        obtain ⟨y2, hy2⟩ : ∃ y2, x2 % 10 = y2 := ⟨_, rfl⟩
        have hyl1 : y1 < 10 := by omega
        have hyl2 : y2 < 10 := by omega
        have m1 : (x1 : Int) % 10 = (y1 : Int) := by omega
        have m2 : (x2 : Int) % 10 = (y2 : Int) := by omega
        have m3 : (x1 : Int).tmod 10 = (y1 : Int) := by rw [Int.tmod_eq_emod_of_nonneg (by omega)]; exact m1
        have m4 : (x2 : Int).tmod 10 = (y2 : Int) := by rw [Int.tmod_eq_emod_of_nonneg (by omega)]; exact m2
        have u1 : IntKind.i64.wrap (y1 : Int) = (y1 : Int) := IntWalk.i64_in _ ⟨by omega, by omega⟩
        have u2 : IntKind.i64.wrap (y2 : Int) = (y2 : Int) := IntWalk.i64_in _ ⟨by omega, by omega⟩
        obtain ⟨W, hW⟩ : ∃ W, (wr.alloc (.cells #[.int .i64 (y1 : Int), .int .i64 (y2 : Int)] 42)).drew = W := ⟨_, rfl⟩
        have hbW : Below wr.heap.size wr W := by rw [← hW]; exact ((Below.refl _ _).alloc (Nat.le_refl _) _).drew
        have hsW : W.heap.size = wr.heap.size + 1 := by rw [← hW]; show (wr.alloc _).heap.size = _; simp
        have hcW : ∀ j u, [Value.int .i64 (y1 : Int), .int .i64 (y2 : Int)][j]? = some u → W.cell? ((⟨wr.heap.size, 0, none⟩ : Addr).add j) = some u := by rw [← hW]; exact newCells wr #[.int .i64 (y1 : Int), .int .i64 (y2 : Int)] 42 (0, 0)
        have hll : ((l.take i).map edB).length ≤ 40 := by rw [List.length_map, List.length_take]; omega
        obtain ⟨v1, w1, hrun, ho1, hg1, hv1⟩ := Own.app (E := elEd) (P := Try.prog) 39 39 i0 _ 16 Try.underlying39 HI.out HZ.out hz1 hz2 rfl (by decide) (HO.out.below hbW) ⟨wr.heap.size, 0, none⟩ _ ((y1 : Int), (y2 : Int)) (ed_mk _ _ ⟨by omega, by omega⟩ ⟨by omega, by omega⟩) hcW (by unfold maxLen; omega) (by omega) 1
        have hBw : BT w w1 PT PU PH (.slice A1 N1 c1) := (HB.out.below hbW).chg (Chg.ofGrown hg1) fun k hk => (HO.out.lt k hk.symm).1
        obtain ⟨A2, c2, e2, hc2, _⟩ := ho1.rd (by rw [List.length_append, List.length_singleton]; omega)
        obtain ⟨N2, hN2⟩ : ∃ N2, ((l.take i).map edB ++ [((y1 : Int), (y2 : Int))]).length = N2 := ⟨_, rfl⟩
        rw [hN2] at e2
        subst e2
        have q1 : w1.cell? ⟨PH, 0, none⟩ = some (.slice A1 N1 c1) := by have := hBw.bh; simp [World.cell?, this]
        have q0 : w1.cell? ⟨PT, 2, none⟩ = some (.slice (some ⟨PH, 0, none⟩) 1 1) := by have := hBw.bt; simp [World.cell?, this]
        have q2 : w1.frozen? ⟨PH, 0, none⟩ = false := by have := hBw.bh; simp [World.frozen?, this]
        have ht := HB.out.t
        have hne := HB.out.ne
        have hput := hBw.put (.slice A2 N2 c2)
        have hown : Own elEd 42 (w1.setCell ⟨PH, 0, none⟩ (.slice A2 N2 c2)) (fun k => w.heap.size < k ∧ k ≠ PT ∧ k ≠ PU ∧ k ≠ PH) (.slice A2 N2 c2) ((l.take (i + 1)).map edB) := by
          have hpt := (Array.getElem?_eq_some_iff.1 (HB.out.below hbW).bt).1
          have hpu := (Array.getElem?_eq_some_iff.1 (HB.out.below hbW).bu).1
          have hph := (Array.getElem?_eq_some_iff.1 (HB.out.below hbW).bh).1
          have e : (l.take (i + 1)).map edB = (l.take i).map edB ++ [((y1 : Int), (y2 : Int))] := by
            have hl2 : i < l.length := by omega
            rw [List.take_succ_eq_append_getElem hl2, List.map_append]
            have : l[i] = (x1, x2) := by rw [List.getElem?_eq_getElem hl2] at hx; injection hx
            rw [this]; simp [edB, hy1, hy2]
          rw [e]
          refine (ho1.mono fun k hk h => ?_).chg (Chg.set w1 ⟨PH, 0, none⟩ _) fun k _ h e => h.2.2.2 e
          rcases h with h | h
          · exact h
          · have hb := HB.out.bel.size; exact ⟨by omega, by omega, by omega, by omega⟩
        have g0 : W.cell? ⟨bb, oo + i * 2, none⟩ = some (.int .u8 (x1 : Int)) := cellBelow hbW k0
        have g1 : W.cell? ⟨bb, oo + i * 2 + 1, none⟩ = some (.int .u8 (x2 : Int)) := cellBelow hbW k1
        have g2 := cellBelow hbW p0
        have g3 := cellBelow hbW p1
        have r0 : w1.cell? ⟨bb, oo + i * 2, none⟩ = some (.int .u8 (x1 : Int)) := (World.cell?_of_block (a := ⟨bb, oo + i * 2, none⟩) ((hBw.bel.block bb hbb).trans (HB.out.bel.block bb hbb).symm)).trans k0
        have r1 : w1.cell? ⟨bb, oo + i * 2 + 1, none⟩ = some (.int .u8 (x2 : Int)) := (World.cell?_of_block (a := ⟨bb, oo + i * 2 + 1, none⟩) ((hBw.bel.block bb hbb).trans (HB.out.bel.block bb hbb).symm)).trans k1
        have s0 := (Chg.set w1 ⟨PH, 0, none⟩ (.slice A2 N2 c2)).cell r0 (fun e => by have e : bb = PH := e; omega)
        have s1 := (Chg.set w1 ⟨PH, 0, none⟩ (.slice A2 N2 c2)).cell r1 (fun e => by have e : bb = PH := e; omega)
        have s2 := (Chg.set w1 ⟨PH, 0, none⟩ (.slice A2 N2 c2)).cell q0 (fun e => hne.2.1 e)
        have HPUT := Lib.hid hput
        have HOWN := Lib.hid hown
        have HRUN := Lib.hid hrun
        have HWW := Lib.hid hW
        have hpl : PT < wr.heap.size := (Array.getElem?_eq_some_iff.1 HB.out.bt).1
        have hpl2 : PH < wr.heap.size := (Array.getElem?_eq_some_iff.1 HB.out.bh).1
        clear hput hown hrun hW hN1 hN2 hBw ho1 hg1 hv1 hcW hbW hsW hll hR1 hcl hx hrr hz1 hz2 hy1 hy2 hc1 hl
        go_upto_region 5 with (fail)
        refine wp_region_held_drew (S := fun w' => w'.cell? ⟨bb, oo + i * 2, none⟩ = some (.int .u8 (x1 : Int)) ∧ w'.cell? ⟨bb, oo + i * 2 + 1, none⟩ = some (.int .u8 (x2 : Int)) ∧ w'.cell? ⟨PT, 2, none⟩ = some (.slice (some ⟨PH, 0, none⟩) 1 1)) (by kernel_rfl) ⟨k0, k1, p0⟩ (fun hHeld => ?_)
        refine wpAnyH_take (i := 0) (v := ?va0) rfl (by kernel_rfl) (by kernel_rfl) (by kernel_rfl) (fun _ _ _ h => h) (Or.inl ⟨by rfl, ?ya0⟩) (by assumption) ?za0
        case ya0 => (intro w hSw; (try dsimp only at hSw); go_simp; try with_reducible rfl)
        try simp only [Act.put, List.setIfInBounds_toArray, List.set_cons_zero, List.set_cons_succ]
        refine wpAnyH_take (i := 1) (v := ?va1) rfl (by kernel_rfl) (by kernel_rfl) (by kernel_rfl) (fun _ _ _ h => h) (Or.inl ⟨by rfl, ?ya1⟩) (by assumption) ?za1
        case ya1 => (intro w hSw; (try dsimp only at hSw); go_simp; try with_reducible rfl)
        try simp only [Act.put, List.setIfInBounds_toArray, List.set_cons_zero, List.set_cons_succ]
        refine wpAnyH_take (i := 2) (v := ?va2) rfl (by kernel_rfl) (by kernel_rfl) (by kernel_rfl) (fun _ _ _ h => h) (Or.inl ⟨by rfl, ?ya2⟩) (by assumption) ?za2
        case ya2 => (intro w hSw; (try dsimp only at hSw); go_simp; try with_reducible rfl)
        try simp only [Act.put, List.setIfInBounds_toArray, List.set_cons_zero, List.set_cons_succ]
        refine wpAnyH_take (i := 3) (v := ?va3) rfl (by kernel_rfl) (by kernel_rfl) (by kernel_rfl) (fun _ _ _ h => h) (Or.inl ⟨by rfl, ?ya3⟩) (by assumption) ?za3
        case ya3 => (intro w hSw; (try dsimp only at hSw); go_simp; try with_reducible rfl)
        try simp only [Act.put, List.setIfInBounds_toArray, List.set_cons_zero, List.set_cons_succ]
        refine wpAnyH_take (i := 4) (v := ?va4) rfl (by kernel_rfl) (by kernel_rfl) (by kernel_rfl) (fun _ _ _ h => h) (Or.inl ⟨by rfl, ?ya4⟩) (by assumption) ?za4
        case ya4 => (intro w hSw; (try dsimp only at hSw); go_simp; try with_reducible rfl)
        try simp only [Act.put, List.setIfInBounds_toArray, List.set_cons_zero, List.set_cons_succ]
        refine wpAnyH_take (i := 6) (v := ?va6) rfl (by kernel_rfl) (by kernel_rfl) (by kernel_rfl) (fun _ _ _ h => h) (Or.inl ⟨by rfl, ?ya6⟩) (by assumption) ?za6
        case ya6 => (intro w hSw; (try dsimp only at hSw); go_simp; try with_reducible rfl)
        try simp only [Act.put, List.setIfInBounds_toArray, List.set_cons_zero, List.set_cons_succ]
        refine wpAnyH_take (i := 7) (v := ?va7) rfl (by kernel_rfl) (by kernel_rfl) (by kernel_rfl) (fun _ _ _ h => h) (Or.inl ⟨by rfl, ?ya7⟩) (by assumption) ?za7
        case ya7 => (intro w hSw; (try dsimp only at hSw); go_simp; try with_reducible rfl)
        try simp only [Act.put, List.setIfInBounds_toArray, List.set_cons_zero, List.set_cons_succ]
        refine wpAnyH_take (i := 8) (v := ?va8) rfl (by kernel_rfl) (by kernel_rfl) (by kernel_rfl) (fun _ _ _ h => h) (Or.inl ⟨by rfl, ?ya8⟩) (by assumption) ?za8
        case ya8 => (intro w hSw; (try dsimp only at hSw); go_simp; try with_reducible rfl)
        try simp only [Act.put, List.setIfInBounds_toArray, List.set_cons_zero, List.set_cons_succ]
        refine wpAnyH_take (i := 9) (v := ?va9) rfl (by kernel_rfl) (by kernel_rfl) (by kernel_rfl) (fun _ _ _ h => h) (Or.inl ⟨by rfl, ?ya9⟩) (by assumption) ?za9
        case ya9 => (intro w hSw; (try dsimp only at hSw); go_simp; try with_reducible rfl)
        try simp only [Act.put, List.setIfInBounds_toArray, List.set_cons_zero, List.set_cons_succ]
        refine wpAnyH_take (i := 10) (v := ?va10) rfl (by kernel_rfl) (by kernel_rfl) (by kernel_rfl) (fun _ _ _ h => h) (Or.inl ⟨by rfl, ?ya10⟩) (by assumption) ?za10
        case ya10 => (intro w hSw; (try dsimp only at hSw); go_simp; try with_reducible rfl)
        try simp only [Act.put, List.setIfInBounds_toArray, List.set_cons_zero, List.set_cons_succ]
        refine wpAnyH_take (i := 11) (v := ?va11) rfl (by kernel_rfl) (by kernel_rfl) (by kernel_rfl) (fun _ _ _ h => h) (Or.inl ⟨by rfl, ?ya11⟩) (by assumption) ?za11
        case ya11 => (intro w hSw; (try dsimp only at hSw); go_simp; try with_reducible rfl)
        try simp only [Act.put, List.setIfInBounds_toArray, List.set_cons_zero, List.set_cons_succ]
        refine wpAnyH_take (i := 12) (v := ?va12) rfl (by kernel_rfl) (by kernel_rfl) (by kernel_rfl) (fun _ _ _ h => h) (Or.inl ⟨by rfl, ?ya12⟩) (by assumption) ?za12
        case ya12 => (intro w hSw; (try dsimp only at hSw); go_simp; try with_reducible rfl)
        try simp only [Act.put, List.setIfInBounds_toArray, List.set_cons_zero, List.set_cons_succ]
        refine wpAnyH_take (i := 13) (v := ?va13) rfl (by kernel_rfl) (by kernel_rfl) (by kernel_rfl) (fun _ _ _ h => h) (Or.inl ⟨by rfl, ?ya13⟩) (by assumption) ?za13
        case ya13 => (intro w hSw; (try dsimp only at hSw); go_simp; try with_reducible rfl)
        try simp only [Act.put, List.setIfInBounds_toArray, List.set_cons_zero, List.set_cons_succ]
        refine wpAnyH_take (i := 14) (v := ?va14) rfl (by kernel_rfl) (by kernel_rfl) (by kernel_rfl) (fun _ _ _ h => h) (Or.inl ⟨by rfl, ?ya14⟩) (by assumption) ?za14
        case ya14 => (intro w hSw; (try dsimp only at hSw); go_simp; try with_reducible rfl)
        try simp only [Act.put, List.setIfInBounds_toArray, List.set_cons_zero, List.set_cons_succ]
        refine wpAnyH_take (i := 15) (v := ?va15) rfl (by kernel_rfl) (by kernel_rfl) (by kernel_rfl) (fun _ _ _ h => h) (Or.inl ⟨by rfl, ?ya15⟩) (by assumption) ?za15
        case ya15 => (intro w hSw; (try dsimp only at hSw); go_simp; try with_reducible rfl)
        try simp only [Act.put, List.setIfInBounds_toArray, List.set_cons_zero, List.set_cons_succ]
        refine wpAnyH_take (i := 16) (v := ?va16) rfl (by kernel_rfl) (by kernel_rfl) (by kernel_rfl) (fun _ _ _ h => h) (Or.inl ⟨by rfl, ?ya16⟩) (by assumption) ?za16
        case ya16 => (intro w hSw; (try dsimp only at hSw); go_simp; try with_reducible rfl)
        try simp only [Act.put, List.setIfInBounds_toArray, List.set_cons_zero, List.set_cons_succ]
        refine wpAnyH_take (i := 17) (v := ?va17) rfl (by kernel_rfl) (by kernel_rfl) (by kernel_rfl) (fun _ _ _ h => h) (Or.inl ⟨by rfl, ?ya17⟩) (by assumption) ?za17
        case ya17 => (intro w hSw; (try dsimp only at hSw); go_simp; try with_reducible rfl)
        try simp only [Act.put, List.setIfInBounds_toArray, List.set_cons_zero, List.set_cons_succ]
        refine wpAnyH_take (i := 18) (v := ?va18) rfl (by kernel_rfl) (by kernel_rfl) (by kernel_rfl) (fun _ _ _ h => h) (Or.inl ⟨by rfl, ?ya18⟩) (by assumption) ?za18
        case ya18 => (intro w hSw; (try dsimp only at hSw); go_simp; try with_reducible rfl)
        try simp only [Act.put, List.setIfInBounds_toArray, List.set_cons_zero, List.set_cons_succ]
        refine wpAnyH_take (i := 19) (v := ?va19) rfl (by kernel_rfl) (by kernel_rfl) (by kernel_rfl) (fun _ _ _ h => h) (Or.inl ⟨by rfl, ?ya19⟩) (by assumption) ?za19
        case ya19 => (intro w hSw; (try dsimp only at hSw); go_simp; try with_reducible rfl)
        try simp only [Act.put, List.setIfInBounds_toArray, List.set_cons_zero, List.set_cons_succ]
        refine wpAnyH_take (i := 20) (v := ?va20) rfl (by kernel_rfl) (by kernel_rfl) (by kernel_rfl) (fun _ _ _ h => h) (Or.inl ⟨by rfl, ?ya20⟩) (by assumption) ?za20
        case ya20 => (intro w hSw; (try dsimp only at hSw); go_simp; try with_reducible rfl)
        try simp only [Act.put, List.setIfInBounds_toArray, List.set_cons_zero, List.set_cons_succ]
        refine wpAnyH_ready (rs := [5, 21]) (by kernel_rfl) (by simp) ?_
        refine AllReadyH.cons rfl (fun K hK => ?_) (AllReadyH.cons rfl (fun K hK => ?_) AllReadyH.nil)
        · go_simp
          refine hK.out _ _ ⟨k0, k1, p0⟩ (fun hHeld => ?_)
          clear hK K
          try simp only [Act.put, List.setIfInBounds_toArray, List.set_cons_zero, List.set_cons_succ]
          refine wpAnyH_ready (rs := [21]) (by kernel_rfl) (by simp) ?_
          refine AllReadyH.cons rfl (fun K hK => ?_) AllReadyH.nil
          go_simp
          refine hK.out _ _ (by rw [HWW.out]; exact ⟨g0, g1, g2⟩) (fun hHeld => ?_)
          clear hK K
          try simp only [Act.put, List.setIfInBounds_toArray, List.set_cons_zero, List.set_cons_succ]
          refine wpAnyH_ready (rs := [22]) (by kernel_rfl) (by simp) ?_
          refine AllReadyH.cons rfl (fun K hK => ?_) AllReadyH.nil
          refine stepRunL (by rfl) _ _ 39 (by rfl) (.slice A1 N1 c1) (.slice (some ⟨wr.heap.size, 0, none⟩) 1 1) (.slice A2 N2 c2) (by go_simp) (by go_simp) (by rw [HWW.out]; exact HRUN.out) ?_
          refine hK.out _ _ (⟨r0, r1, q0⟩) (fun hHeld => ?_)
          clear hK K
          try simp only [Act.put, List.setIfInBounds_toArray, List.set_cons_zero, List.set_cons_succ]
          refine wpAnyH_ready (rs := [23]) (by kernel_rfl) (by simp) ?_
          refine AllReadyH.cons rfl (fun K hK => ?_) AllReadyH.nil
          go_simp
          refine hK.out _ _ (⟨r0, r1, q0⟩) (fun hHeld => ?_)
          clear hK K
          try simp only [Act.put, List.setIfInBounds_toArray, List.set_cons_zero, List.set_cons_succ]
          refine wpAnyH_ready (rs := [24]) (by kernel_rfl) (by simp) ?_
          refine AllReadyH.cons rfl (fun K hK => ?_) AllReadyH.nil
          go_simp
          refine hK.out _ _ (⟨s0, s1, s2⟩) (fun hHeld => ?_)
          clear hK K
          try simp only [Act.put, List.setIfInBounds_toArray, List.set_cons_zero, List.set_cons_succ]
          refine wpAnyH_done (by kernel_rfl) ?_ _
          go_wp2_with fail
          go_roundg (n - (i + 1))
          case measure => omega
          case rel => exact ⟨i + 1, _, by omega, by omega, by omega, by go_num, HPUT, HOWN⟩
        · go_simp
          refine hK.out _ _ (by rw [HWW.out]; exact ⟨g0, g1, g2⟩) (fun hHeld => ?_)
          clear hK K
          try simp only [Act.put, List.setIfInBounds_toArray, List.set_cons_zero, List.set_cons_succ]
          refine wpAnyH_ready (rs := [5]) (by kernel_rfl) (by simp) ?_
          refine AllReadyH.cons rfl (fun K hK => ?_) AllReadyH.nil
          go_simp
          refine hK.out _ _ (by rw [HWW.out]; exact ⟨g0, g1, g2⟩) (fun hHeld => ?_)
          clear hK K
          try simp only [Act.put, List.setIfInBounds_toArray, List.set_cons_zero, List.set_cons_succ]
          refine wpAnyH_ready (rs := [22]) (by kernel_rfl) (by simp) ?_
          refine AllReadyH.cons rfl (fun K hK => ?_) AllReadyH.nil
          refine stepRunL (by rfl) _ _ 39 (by rfl) (.slice A1 N1 c1) (.slice (some ⟨wr.heap.size, 0, none⟩) 1 1) (.slice A2 N2 c2) (by go_simp) (by go_simp) (by rw [HWW.out]; exact HRUN.out) ?_
          refine hK.out _ _ (⟨r0, r1, q0⟩) (fun hHeld => ?_)
          clear hK K
          try simp only [Act.put, List.setIfInBounds_toArray, List.set_cons_zero, List.set_cons_succ]
          refine wpAnyH_ready (rs := [23]) (by kernel_rfl) (by simp) ?_
          refine AllReadyH.cons rfl (fun K hK => ?_) AllReadyH.nil
          go_simp
          refine hK.out _ _ (⟨r0, r1, q0⟩) (fun hHeld => ?_)
          clear hK K
          try simp only [Act.put, List.setIfInBounds_toArray, List.set_cons_zero, List.set_cons_succ]
          refine wpAnyH_ready (rs := [24]) (by kernel_rfl) (by simp) ?_
          refine AllReadyH.cons rfl (fun K hK => ?_) AllReadyH.nil
          go_simp
          refine hK.out _ _ (⟨s0, s1, s2⟩) (fun hHeld => ?_)
          clear hK K
          try simp only [Act.put, List.setIfInBounds_toArray, List.set_cons_zero, List.set_cons_succ]
          refine wpAnyH_done (by kernel_rfl) ?_ _
          go_wp2_with fail
          go_roundg (n - (i + 1))
          case measure => omega
          case rel => exact ⟨i + 1, _, by omega, by omega, by omega, by go_num, HPUT, HOWN⟩
      · have hcases : i = n ∨ (i < n ∧ i = 40) := by omega
        have hedg : (l.take i).map edB = edgesB l := by
          unfold edgesB
          rcases hcases with h | ⟨_, h⟩
          · rw [List.take_of_length_le (by omega), List.take_of_length_le (by omega)]; rfl
          · rw [h]; rfl
        have hll : ((l.take i).map edB).length ≤ 40 := by rw [List.length_map, List.length_take]; omega
        obtain ⟨A1, c1, e1, hc1, hR1⟩ := HO.out.rd (by omega)
        rw [hedg] at e1 hc1 hR1 hll
        obtain ⟨N1, hN1⟩ : ∃ N1, (edgesB l).length = N1 := ⟨_, rfl⟩
        have hN1' := hN1
        rw [hN1] at e1 hc1 hR1
        subst e1
        have hbt := HB.out.bt
        have hb0 := HB.out.b0
        have t0 : wr.cell? ⟨PT, 0, none⟩ = some (.int .u64 1) := by simp [World.cell?, hbt]
        have t1 : wr.cell? ⟨PT, 1, none⟩ = some (.slice (some ⟨PU, 0, none⟩) 10 10) := by simp [World.cell?, hbt]
        have t2 : wr.cell? ⟨PT, 2, none⟩ = some (.slice (some ⟨PH, 0, none⟩) 1 1) := by simp [World.cell?, hbt]
        have y0 : wr.cell? ⟨w.heap.size, 0, none⟩ = some (.int .u64 0) := by simp [World.cell?, hb0]
        have y1 : wr.cell? ⟨w.heap.size, 1, none⟩ = some (.slice none 0 0) := by simp [World.cell?, hb0]
        have y2 : wr.cell? ⟨w.heap.size, 2, none⟩ = some (.slice none 0 0) := by simp [World.cell?, hb0]
        have z0 : wr.frozen? ⟨w.heap.size, 0, none⟩ = false := by simp [World.frozen?, hb0]
        have z1 : wr.frozen? ⟨w.heap.size, 1, none⟩ = false := by simp [World.frozen?, hb0]
        have z2 : wr.frozen? ⟨w.heap.size, 2, none⟩ = false := by simp [World.frozen?, hb0]
        obtain ⟨w5, hw5⟩ : ∃ w5, ((wr.setCell ⟨w.heap.size, 0, none⟩ (.int .u64 1)).setCell ⟨w.heap.size, 1, none⟩ (.slice (some ⟨PU, 0, none⟩) 10 10)).setCell ⟨w.heap.size, 2, none⟩ (.slice (some ⟨PH, 0, none⟩) 1 1) = w5 := ⟨_, rfl⟩
        have hc5 : Chg (fun k => k = w.heap.size) wr w5 := by
          rw [← hw5]
          exact ((Chg.set wr ⟨w.heap.size, 0, none⟩ _).trans (Chg.set _ ⟨w.heap.size, 1, none⟩ _) fun _ _ h => h).trans (Chg.set _ ⟨w.heap.size, 2, none⟩ _) fun _ _ h => h
        have hs5 : w5.heap.size = wr.heap.size := by rw [← hw5]; simp only [World.size_setCell]
        have hbel5 : Below w.heap.size w w5 := hc5.below HB.out.bel HB.out.bel.size fun k hk => by omega
        have ht := HB.out.t
        have hlU : PU < wr.heap.size := (Array.getElem?_eq_some_iff.1 HB.out.bu).1
        have hlH : PH < wr.heap.size := (Array.getElem?_eq_some_iff.1 HB.out.bh).1
        have hu5 := (hc5.block PU hlU (by omega)).trans HB.out.bu
        have hh5 := (hc5.block PH hlH (by omega)).trans HB.out.bh
        have hT : TopoV w5 (fun k => w.heap.size ≤ k ∧ k < w5.heap.size) (.agg #[.int .u64 1, .slice (some ⟨PU, 0, none⟩) 10 10, .slice (some ⟨PH, 0, none⟩) 1 1]) 1 (List.replicate 10 false) [edgesB l] := by
          refine ⟨_, _, _, _, _, _, rfl, Nat.le_refl _, Nat.le_refl _, up10_rd _ _ _ ⟨by omega, by omega⟩ hu5, one_row ⟨by omega, by omega⟩ hh5 hc1 ?_⟩
          have := (hR1.chg hc5 fun k h1 h2 h3 => by omega).mono (ok' := fun k => w.heap.size ≤ k ∧ k < w5.heap.size) fun k h1 h2 => ⟨by omega, by omega⟩
          exact this
        have F012 : w5.cell? ⟨w.heap.size, 0, none⟩ = some (.int .u64 1) ∧ w5.cell? ⟨w.heap.size, 1, none⟩ = some (.slice (some ⟨PU, 0, none⟩) 10 10) ∧ w5.cell? ⟨w.heap.size, 2, none⟩ = some (.slice (some ⟨PH, 0, none⟩) 1 1) := by
          have hh : w5.heap[w.heap.size]? = some (.cells #[.int .u64 1, .slice (some ⟨PU, 0, none⟩) 10 10, .slice (some ⟨PH, 0, none⟩) 1 1] 27 (0, 0)) := by rw [← hw5]; simp [World.setCell, Array.getElem?_modify, hb0]
          exact ⟨by simp [World.cell?, hh], by simp [World.cell?, hh], by simp [World.cell?, hh]⟩
        have F0 := Lib.hid F012.1
        have F1 := Lib.hid F012.2.1
        have F2 := Lib.hid F012.2.2
        have HT := Lib.hid hT
        have HW5 := Lib.hid hw5
        have HBEL := Lib.hid hbel5
        clear F012 hT hw5 hbel5 hc5 hs5 hu5 hh5 hbt hb0 hedg hN1 hN1' hR1 HO HB hl
        rcases hcases with rfl | ⟨hlt, rfl⟩
        all_goals
          go_wp2_with fail
          rw [HW5.out]
          have f0 : w5.cell? ⟨w.heap.size, 0, none⟩ = some (.int .u64 1) := F0.out
          have f1 : w5.cell? ⟨w.heap.size, 1, none⟩ = some (.slice (some ⟨PU, 0, none⟩) 10 10) := F1.out
          have f2 : w5.cell? ⟨w.heap.size, 2, none⟩ = some (.slice (some ⟨PH, 0, none⟩) 1 1) := F2.out
          refine bodyPost_ret (v := .agg #[.int .u64 1, .slice (some ⟨PU, 0, none⟩) 10 10, .slice (some ⟨PH, 0, none⟩) 1 1]) (by simp [results, Try.results9, go_sem, f0, f1, f2]) rfl ⟨_, rfl, HT.out, HBEL.out⟩
end Go.Proofs.Ytgfnlfkbbedkaaa
