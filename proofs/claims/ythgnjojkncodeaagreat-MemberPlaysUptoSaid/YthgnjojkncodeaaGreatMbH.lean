/-
  member.Of: its closures; a map of closures.
-/
import Derived.Test.YthgnjojkncodeaaGreatMbG
namespace Go.Proofs.YthgnjojkncodeaaGreat
open Go.RowKit
set_option linter.unusedVariables false
set_option linter.unusedSimpArgs false

/-! ### A map by ints, in the block that was made last -/
theorem mfind_none (k : Int) : ∀ (es : List MapEntry) (i : Nat), (∀ e ∈ es, ∃ j, e.key = .int .i64 j ∧ j ≠ k) → Instr.findNow (.int .i64) (.int .i64 k) es i = some none
  | [], _, _ => rfl
  | e :: es, i, h => by
    obtain ⟨j, h1, h2⟩ := h e (by simp)
    have h3 : (k == j) = false := beq_eq_false_iff_ne.2 fun e => h2 e.symm
    have h4 : Instr.sameNow (.int .i64) (.int .i64 k) e.key = some false := by
      rw [h1]
      show (if IntKind.i64 = IntKind.i64 then some (k == j) else none) = some false
      rw [if_pos rfl, h3]
    show (match Instr.sameNow (.int .i64) (.int .i64 k) e.key with | some true => some (some (i, e.val)) | some false => Instr.findNow (.int .i64) (.int .i64 k) es (i + 1) | none => none) = some none
    rw [h4]
    exact mfind_none k es (i + 1) fun e he => h e (by simp [he])
theorem push_set (h : Array Obj) (o o' : Obj) : (h.push o).setIfInBounds h.size o' = h.push o' := by
  refine Array.ext_getElem? fun i => ?_
  rw [Array.getElem?_setIfInBounds, Array.getElem?_push, Array.getElem?_push]
  by_cases hi : h.size = i
  · subst hi; simp
  · rw [if_neg hi, if_neg (fun e => hi e.symm), if_neg (fun e => hi e.symm)]
theorem run_set_last {P : Program} (w : World) (es : Array MapEntry) (clock : Nat) (o' : Obj) : (setObj w.heap.size o').run P (w.alloc (.map es clock)) = .ok () (w.alloc o') := by
  have hb : (w.alloc (.map es clock)).heap[w.heap.size]? = some (.map es clock) := heap_alloc_new w _
  rw [MapKept.run_setObj_map o' hb]
  have : (w.alloc (.map es clock)).heap.setIfInBounds w.heap.size o' = (w.alloc o').heap := push_set w.heap _ o'
  rw [this]
  rfl
theorem map_put {P : Program} (t kt et : TypeId) (hm : P.underlying t = some (.map kt et)) (hk : P.underlying kt = some (.int .i64)) (w : World) (es : Array MapEntry) (clock : Nat) (k : Int) (v : Value)
    (h : ∀ e ∈ es.toList, ∃ j, e.key = .int .i64 j ∧ j ≠ k) :
    (Instr.mapUpdate t (.map (some w.heap.size)) (.int .i64 k) v).run P (w.alloc (.map es clock)) = .ok () (w.alloc (.map (es.push { key := .int .i64 k, val := v, born := clock }) (clock + 1))) := by
  have hb : (w.alloc (.map es clock)).heap[w.heap.size]? = some (.map es clock) := heap_alloc_new w _
  have hc : (Instr.checkKey false 10000 kt (.int .i64 k)).run P (w.alloc (.map es clock)) = .ok () (w.alloc (.map es clock)) := MapKept.run_checkKey (k := .int .i64 k) hk (by simp [MapKept.IsKey]) false 9999
  have hs : ∀ o', (setObj w.heap.size o').run P (w.alloc (.map es clock)) = .ok () (w.alloc o') := fun o' => run_set_last w es clock o'
  simp [Instr.mapUpdate, run_underlying hm, MapKept.run_getObj_map hb, hc, MapKept.run_findKey hk (mfind_none k es.toList 0 h), hs, Result.andThen]
theorem map_look {P : Program} (t kt et : TypeId) (hm : P.underlying t = some (.map kt et)) (hk : P.underlying kt = some (.int .i64)) (w : World) (r : Nat) (es : Array MapEntry) (clock : Nat) (hb : w.heap[r]? = some (.map es clock)) (k : Int) (j : Nat) (v : Value)
    (h : Instr.findNow (.int .i64) (.int .i64 k) es.toList 0 = some (some (j, v))) : (Instr.lookup t (.map (some r)) (.int .i64 k) true).run P w = .ok (.tuple #[v, .bool true]) w := by
  have hc := fun e => MapKept.run_checkKey (P := P) (w := w) (k := .int .i64 k) hk (by simp [MapKept.IsKey]) e 9999
  simp [Instr.lookup, run_underlying hm, MapKept.run_getObj_map hb, hc, MapKept.run_findKey hk h, Result.andThen]
theorem map_look_none {P : Program} (t kt et : TypeId) (hm : P.underlying t = some (.map kt et)) (hk : P.underlying kt = some (.int .i64)) (w : World) (r : Nat) (es : Array MapEntry) (clock : Nat) (hb : w.heap[r]? = some (.map es clock)) (k : Int) (z : Value) (hz : (zeroValue et).run P w = .ok z w)
    (h : ∀ e ∈ es.toList, ∃ j, e.key = .int .i64 j ∧ j ≠ k) : (Instr.lookup t (.map (some r)) (.int .i64 k) true).run P w = .ok (.tuple #[z, .bool false]) w := by
  have hc := fun e => MapKept.run_checkKey (P := P) (w := w) (k := .int .i64 k) hk (by simp [MapKept.IsKey]) e 9999
  simp [Instr.lookup, run_underlying hm, MapKept.run_getObj_map hb, hc, MapKept.run_findKey hk (mfind_none k es.toList 0 h), hz, Result.andThen]
section
variable {P : Program} {ops : Array Oper} {rest : List Oper} {o : Oper} {a : Act} {Q : Exit → Act → World → Prop} {w w1 : World} {mv kv vv : Value}
theorem wpList_insert_run (hg : o.guard = none) (m x v : Operand) (t : TypeId) (hop : o.op = Op.insert t m x v) (hm : a.eval m = mv) (hx : a.eval x = kv) (hv : a.eval v = vv) (hr : (Instr.mapUpdate t mv kv vv).run P w = .ok () w1)
    (h : wpList P ops Q rest (a.put o.dst undef) w1) : wpList P ops Q (o :: rest) a w := by
  refine wpList_plain hg fun K' hK' => ?_
  unfold Oper.wp
  simp [execOp, hop, hm, hx, hv, hr, Result.andThen]
  exact hK' _ _ h
theorem wpList_look_run (hg : o.guard = none) (m x : Operand) (t : TypeId) (ok : Bool) (hop : o.op = Op.lookup t m x ok) (hm : a.eval m = mv) (hx : a.eval x = kv) (hr : (Instr.lookup t mv kv ok).run P w = .ok vv w)
    (h : wpList P ops Q rest (a.put o.dst vv) w) : wpList P ops Q (o :: rest) a w := by
  refine wpList_plain hg fun K' hK' => ?_
  unfold Oper.wp
  simp [execOp, hop, hm, hx, hr, Result.andThen]
  exact hK' _ _ h
end
/-! ### The closures -/
/-- Where Of's closures find what they have captured: the one that asks for the sender, the member's pointer, the frame. -/
structure OB (w : World) (M B2 B3 B5 : Nat) (frm flow : Int) : Prop where
  lt : B2 < w.heap.size ∧ B3 < w.heap.size ∧ B5 < w.heap.size
  p2 : w.cell? ⟨B2, 0, none⟩ = some (.pointer (some ⟨M, 0, none⟩))
  f1 : w.cell? ⟨B3, 1, none⟩ = some (.int .i64 frm)
  f5 : w.cell? ⟨B3, 5, none⟩ = some (.int .i64 flow)
  p5 : w.cell? ⟨B5, 0, none⟩ = some (.func (.func 37) #[] #[.pointer (some ⟨B3, 0, none⟩)])
theorem OB.below {w w' : World} {M B2 B3 B5 : Nat} {frm flow : Int} (h : OB w M B2 B3 B5 frm flow) (hb : Below w.heap.size w w') : OB w' M B2 B3 B5 frm flow :=
  ⟨⟨Nat.lt_of_lt_of_le h.lt.1 hb.size, Nat.lt_of_lt_of_le h.lt.2.1 hb.size, Nat.lt_of_lt_of_le h.lt.2.2 hb.size⟩, cellBelow hb h.p2, cellBelow hb h.f1, cellBelow hb h.f5, cellBelow hb h.p5⟩
theorem of1_calls (w : World) (B3 : Nat) (frm : Int) (hc : w.cell? ⟨B3, 1, none⟩ = some (.int .i64 frm)) (A : Option Addr) (n c : Nat) (zs : List Int) (ok : Nat → Prop) (hr : RdI w ok A n zs) (r : Bool) (hrr : zs.contains frm = r) :
    Calls Tryz.prog 37 #[.slice A n c, .pointer (some ⟨B3, 0, none⟩)] w fun e w' => e = .returned (.bool r) ∧ w = w' := by
  have hct := contains_calls (c := c) hr frm
  rw [hrr] at hct
  clear hr hrr
  go_enter Tryz.func37, Tryz.ntmps37
  go_wp2_with (go_at_call 38; refine hct.mono ?_; rintro e w1 ⟨rfl, rfl⟩)
  go_ret
  exact ⟨rfl, rfl⟩
section
variable (w : World) (M : Nat) (ok : Nat → Prop) (nodes : Int) (flows : List Flw) (win que node ep : Int) (up : List Bool) (hops : List (List Ed)) (h : MB w M ok nodes flows win que node ep up hops) (B2 B3 B5 : Nat) (frm flow : Int) (hO : OB w M B2 B3 B5 frm flow) (hf : inI flow)
include h hO hf
set_option maxHeartbeats 1000000 in
theorem of2_calls (r : Bool) (hr : (prevOf hops flow node).contains frm = r) : Calls Tryz.prog 39 #[.pointer (some ⟨B5, 0, none⟩), .pointer (some ⟨B2, 0, none⟩), .pointer (some ⟨B3, 0, none⟩)] w fun e w' => e = .returned (.bool r) ∧ Below w.heap.size w w' := by
  obtain ⟨p2, f5, p5⟩ : _ ∧ _ ∧ _ := ⟨hO.p2, hO.f5, hO.p5⟩
  have hp := mprev_calls w.drew M ok nodes flows win que node ep up hops (h.below (Below.refl _ _).drew) flow hf
  have HO := Lib.hid hO
  have HR := Lib.hid hr
  clear h hO hf hr
  go_enter Tryz.func39, Tryz.ntmps39
  go_wp2_with fail
  go_region_held3 (fun w' => w'.cell? ⟨B2, 0, none⟩ = some (.pointer (some ⟨M, 0, none⟩)) ∧ w'.cell? ⟨B3, 5, none⟩ = some (.int .i64 flow) ∧ w'.cell? ⟨B5, 0, none⟩ = some (.func (.func 37) #[] #[.pointer (some ⟨B3, 0, none⟩)]))
    (first | exact ⟨p2, f5, p5⟩ | exact ⟨cellBelow BX.out p2, cellBelow BX.out f5, cellBelow BX.out p5⟩)
    (first
      | (go_at_call 16; (with_reducible refine hp.mono ?_); rintro e w2 ⟨v2, rfl, hO2, b2⟩; obtain ⟨A2, c2, rfl, _, _, _, hR2⟩ := hO2.rd; have BX := Lib.hid (stepB1 b2); have hct := of1_calls w2 B3 frm (HO.out.below BX.out).f1 A2 _ c2 _ _ hR2 r HR.out)
      | (go_at_call 37; (with_reducible refine hct.mono ?_); rintro e w3 ⟨rfl, rfl⟩))
  all_goals
    clear hct hR2 hO2 b2
    go_wp2_with fail
    go_ret
    exact ⟨rfl, BX.out⟩
set_option maxHeartbeats 1000000 in
theorem of3_calls (r : Bool) (hr : (prevOf hops flow node).contains frm = r) : Calls Tryz.prog 40 #[.pointer (some ⟨B5, 0, none⟩), .pointer (some ⟨B2, 0, none⟩), .pointer (some ⟨B3, 0, none⟩)] w fun e w' => e = .returned (.bool r) ∧ Below w.heap.size w w' := by
  obtain ⟨p2, f5, p5⟩ : _ ∧ _ ∧ _ := ⟨hO.p2, hO.f5, hO.p5⟩
  have hp := mprev_calls w.drew M ok nodes flows win que node ep up hops (h.below (Below.refl _ _).drew) flow hf
  have HO := Lib.hid hO
  have HR := Lib.hid hr
  clear h hO hf hr
  go_enter Tryz.func40, Tryz.ntmps40
  go_wp2_with fail
  go_region_held3 (fun w' => w'.cell? ⟨B2, 0, none⟩ = some (.pointer (some ⟨M, 0, none⟩)) ∧ w'.cell? ⟨B3, 5, none⟩ = some (.int .i64 flow) ∧ w'.cell? ⟨B5, 0, none⟩ = some (.func (.func 37) #[] #[.pointer (some ⟨B3, 0, none⟩)]))
    (first | exact ⟨p2, f5, p5⟩ | exact ⟨cellBelow BX.out p2, cellBelow BX.out f5, cellBelow BX.out p5⟩)
    (first
      | (go_at_call 16; (with_reducible refine hp.mono ?_); rintro e w2 ⟨v2, rfl, hO2, b2⟩; obtain ⟨A2, c2, rfl, _, _, _, hR2⟩ := hO2.rd; have BX := Lib.hid (stepB1 b2); have hct := of1_calls w2 B3 frm (HO.out.below BX.out).f1 A2 _ c2 _ _ hR2 r HR.out)
      | (go_at_call 37; (with_reducible refine hct.mono ?_); rintro e w3 ⟨rfl, rfl⟩))
  all_goals
    clear hct hR2 hO2 b2
    go_wp2_with fail
    go_ret
    exact ⟨rfl, BX.out⟩
set_option maxHeartbeats 1000000 in
theorem of4_calls (r : Bool) (hr : (nextOf hops flow node).contains frm = r) : Calls Tryz.prog 41 #[.pointer (some ⟨B5, 0, none⟩), .pointer (some ⟨B2, 0, none⟩), .pointer (some ⟨B3, 0, none⟩)] w fun e w' => e = .returned (.bool r) ∧ Below w.heap.size w w' := by
  obtain ⟨p2, f5, p5⟩ : _ ∧ _ ∧ _ := ⟨hO.p2, hO.f5, hO.p5⟩
  have hp := mnext_calls w.drew M ok nodes flows win que node ep up hops (h.below (Below.refl _ _).drew) flow hf
  have HO := Lib.hid hO
  have HR := Lib.hid hr
  clear h hO hf hr
  go_enter Tryz.func41, Tryz.ntmps41
  go_wp2_with fail
  go_region_held3 (fun w' => w'.cell? ⟨B2, 0, none⟩ = some (.pointer (some ⟨M, 0, none⟩)) ∧ w'.cell? ⟨B3, 5, none⟩ = some (.int .i64 flow) ∧ w'.cell? ⟨B5, 0, none⟩ = some (.func (.func 37) #[] #[.pointer (some ⟨B3, 0, none⟩)]))
    (first | exact ⟨p2, f5, p5⟩ | exact ⟨cellBelow BX.out p2, cellBelow BX.out f5, cellBelow BX.out p5⟩)
    (first
      | (go_at_call 14; (with_reducible refine hp.mono ?_); rintro e w2 ⟨v2, rfl, hO2, b2⟩; obtain ⟨A2, c2, rfl, _, _, _, hR2⟩ := hO2.rd; have BX := Lib.hid (stepB1 b2); have hct := of1_calls w2 B3 frm (HO.out.below BX.out).f1 A2 _ c2 _ _ hR2 r HR.out)
      | (go_at_call 37; (with_reducible refine hct.mono ?_); rintro e w3 ⟨rfl, rfl⟩))
  all_goals
    clear hct hR2 hO2 b2
    go_wp2_with fail
    go_ret
    exact ⟨rfl, BX.out⟩
end
section
variable (w : World) (M : Nat) (ok : Nat → Prop) (nodes : Int) (flows : List Flw) (win que node ep : Int) (up : List Bool) (hops : List (List Ed)) (h : MB w M ok nodes flows win que node ep up hops) (B2 B3 B5 : Nat) (frm flow : Int) (hO : OB w M B2 B3 B5 frm flow)
include h hO
set_option maxHeartbeats 1000000 in
theorem of5_calls (r : Bool) (hr : (nextsOf hops node).contains frm = r) : Calls Tryz.prog 42 #[.pointer (some ⟨B5, 0, none⟩), .pointer (some ⟨B2, 0, none⟩)] w fun e w' => e = .returned (.bool r) ∧ Below w.heap.size w w' := by
  obtain ⟨p2, f5, p5⟩ : _ ∧ _ ∧ _ := ⟨hO.p2, hO.f5, hO.p5⟩
  have hp := mnexts_calls w.drew M ok nodes flows win que node ep up hops (h.below (Below.refl _ _).drew)
  have HO := Lib.hid hO
  have HR := Lib.hid hr
  clear h hO hr
  go_enter Tryz.func42, Tryz.ntmps42
  go_wp2_with fail
  go_region_held3 (fun w' => w'.cell? ⟨B2, 0, none⟩ = some (.pointer (some ⟨M, 0, none⟩)) ∧ w'.cell? ⟨B3, 5, none⟩ = some (.int .i64 flow) ∧ w'.cell? ⟨B5, 0, none⟩ = some (.func (.func 37) #[] #[.pointer (some ⟨B3, 0, none⟩)]))
    (first | exact ⟨p2, f5, p5⟩ | exact ⟨cellBelow BX.out p2, cellBelow BX.out f5, cellBelow BX.out p5⟩)
    (first
      | (go_at_call 22; (with_reducible refine hp.mono ?_); rintro e w2 ⟨v2, rfl, hO2, b2⟩; obtain ⟨A2, c2, rfl, _, _, _, hR2⟩ := hO2.rd; have BX := Lib.hid (stepB1 b2); have hct := of1_calls w2 B3 frm (HO.out.below BX.out).f1 A2 _ c2 _ _ hR2 r HR.out)
      | (go_at_call 37; (with_reducible refine hct.mono ?_); rintro e w3 ⟨rfl, rfl⟩))
  all_goals
    clear hct hR2 hO2 b2
    go_wp2_with fail
    go_ret
    exact ⟨rfl, BX.out⟩
set_option maxHeartbeats 1000000 in
theorem of6_calls (r : Bool) (hr : (prevsOf hops node).contains frm = r) : Calls Tryz.prog 43 #[.pointer (some ⟨B5, 0, none⟩), .pointer (some ⟨B2, 0, none⟩)] w fun e w' => e = .returned (.bool r) ∧ Below w.heap.size w w' := by
  obtain ⟨p2, f5, p5⟩ : _ ∧ _ ∧ _ := ⟨hO.p2, hO.f5, hO.p5⟩
  have hp := mprevs_calls w.drew M ok nodes flows win que node ep up hops (h.below (Below.refl _ _).drew)
  have HO := Lib.hid hO
  have HR := Lib.hid hr
  clear h hO hr
  go_enter Tryz.func43, Tryz.ntmps43
  go_wp2_with fail
  go_region_held3 (fun w' => w'.cell? ⟨B2, 0, none⟩ = some (.pointer (some ⟨M, 0, none⟩)) ∧ w'.cell? ⟨B3, 5, none⟩ = some (.int .i64 flow) ∧ w'.cell? ⟨B5, 0, none⟩ = some (.func (.func 37) #[] #[.pointer (some ⟨B3, 0, none⟩)]))
    (first | exact ⟨p2, f5, p5⟩ | exact ⟨cellBelow BX.out p2, cellBelow BX.out f5, cellBelow BX.out p5⟩)
    (first
      | (go_at_call 24; (with_reducible refine hp.mono ?_); rintro e w2 ⟨v2, rfl, hO2, b2⟩; obtain ⟨A2, c2, rfl, _, _, _, hR2⟩ := hO2.rd; have BX := Lib.hid (stepB1 b2); have hct := of1_calls w2 B3 frm (HO.out.below BX.out).f1 A2 _ c2 _ _ hR2 r HR.out)
      | (go_at_call 37; (with_reducible refine hct.mono ?_); rintro e w3 ⟨rfl, rfl⟩))
  all_goals
    clear hct hR2 hO2 b2
    go_wp2_with fail
    go_ret
    exact ⟨rfl, BX.out⟩
end
end Go.Proofs.YthgnjojkncodeaaGreat
