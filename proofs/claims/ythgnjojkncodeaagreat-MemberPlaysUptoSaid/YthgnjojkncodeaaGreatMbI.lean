/-
  member.Of.
-/
import Derived.Test.YthgnjojkncodeaaGreatMbH
import Derived.Deep.CutBlock
import Derived.Deep.QuietTactic
import Derived.BigQuiet
namespace Go.Proofs.YthgnjojkncodeaaGreat
open Go.RowKit
set_option linter.unusedVariables false
set_option linter.unusedSimpArgs false

/-- A frame's parts that Of does not ask for. -/
structure FrR where
  life : Int
  gen : Int
  seq : Int
  fo : Int
  te : Int
  A : Option Addr
  nA : Nat
  cA : Nat
  B : Option Addr
  nB : Nat
  cB : Nat
  C : Option Addr
  nC : Nat
  cC : Nat
  D : Option Addr
  nD : Nat
  cD : Nat
  E : Option Addr
  nE : Nat
  cE : Nat
def FrR.val (r : FrR) (kind frm dst ep flow : Int) : Value :=
  .agg #[.int .i64 kind, .int .i64 frm, .int .i64 dst, .int .u64 ep, .int .u64 r.life, .int .i64 flow, .int .u64 r.gen, .int .u64 r.seq, .int .u64 r.fo, .slice r.A r.nA r.cA, .slice r.B r.nB r.cB, .slice r.C r.nC r.cC, .int .u64 r.te, .slice r.D r.nD r.cD, .slice r.E r.nE r.cE]
def knownB (kind : Int) : Bool := kind == 1 || kind == 6 || kind == 2 || kind == 3 || kind == 4
def flowB (kind flow : Int) (n : Nat) : Bool := kind == 3 || kind == 4 || (decide (0 ≤ flow) && decide (flow < (n : Int)))
def isB (hops : List (List Ed)) (node kind frm flow : Int) : Bool :=
  if kind = 1 ∨ kind = 6 then (prevOf hops flow node).contains frm else if kind = 2 then (nextOf hops flow node).contains frm else if kind = 3 then (nextsOf hops node).contains frm else (prevsOf hops node).contains frm
def ofRes (flows : List Flw) (node ep : Int) (hops : List (List Ed)) (kind frm dst fep flow : Int) : Int :=
  if knownB kind = false ∨ dst ≠ node ∨ flowB kind flow flows.length = false then 6 else if fep ≠ ep ∨ fep = 0 then 22 else if isB hops node kind frm flow = true then 0 else 6
def ofMap (v1 v6 v2 v3 v4 : Value) : Array MapEntry :=
  #[{ key := .int .i64 1, val := v1, born := 0 }, { key := .int .i64 6, val := v6, born := 1 }, { key := .int .i64 2, val := v2, born := 2 }, { key := .int .i64 3, val := v3, born := 3 }, { key := .int .i64 4, val := v4, born := 4 }]
set_option maxRecDepth 100000 in
set_option maxHeartbeats 4000000 in
theorem of_calls (w : World) (M : Nat) (ok : Nat → Prop) (nodes : Int) (flows : List Flw) (win que node ep : Int) (up : List Bool) (hops : List (List Ed)) (h : MB w M ok nodes flows win que node ep up hops)
    (fr : FrR) (kind frm dst fep flow : Int) (hf : inI flow) :
    Calls Tryz.prog 11 #[.pointer (some ⟨M, 0, none⟩), fr.val kind frm dst fep flow] w fun e w' => e = .returned (.int .i64 (ofRes flows node ep hops kind frm dst fep flow)) ∧ Below w.heap.size w w' := by
  obtain ⟨life, gen, seq, fo, te, A, nA, cA, B, nB, cB, C, nC, cC, D, nD, cD, E, nE, cE⟩ := fr
  unfold FrR.val
  simp only
  have hM := h.lt
  obtain ⟨r, hr⟩ : ∃ r, ofRes flows node ep hops kind frm dst fep flow = r := ⟨_, rfl⟩
  rw [hr]
  have HR := Lib.hid hr
  have H := Lib.hid h
  clear hr h
  go_enter Tryz.func11, Tryz.ntmps11
  go_upto_region 1 with (fail)
  obtain ⟨w1, hw1⟩ : ∃ w1, (w.alloc (.cells #[.pointer (some ⟨M, 0, none⟩)] 27)).alloc (.cells #[.int .i64 kind, .int .i64 frm, .int .i64 dst, .int .u64 fep, .int .u64 life, .int .i64 flow, .int .u64 gen, .int .u64 seq, .int .u64 fo, .slice A nA cA, .slice B nB cB, .slice C nC cC, .int .u64 te, .slice D nD cD, .slice E nE cE] 44) = w1 := ⟨_, rfl⟩
  rw [hw1]
  obtain ⟨W0, hW0⟩ : ∃ W0, w.alloc (.cells #[.pointer (some ⟨M, 0, none⟩)] 27) = W0 := ⟨_, rfl⟩
  rw [hW0] at hw1
  have s0 : W0.heap.size = w.heap.size + 1 := by rw [← hW0]; simp
  have s1 : w1.heap.size = w.heap.size + 2 := by rw [← hw1]; simp [s0]
  have b0 : Below w.heap.size w W0 := by rw [← hW0]; exact (Below.refl _ _).alloc (Nat.le_refl _) _
  have b01 : Below W0.heap.size W0 w1 := by rw [← hw1]; exact (Below.refl _ _).alloc (Nat.le_refl _) _
  have b1 := belowThen b0 b0.size b01
  have e2 : w1.heap[w.heap.size]? = some (.cells #[.pointer (some ⟨M, 0, none⟩)] 27 (0, 0)) := by
    rw [b01.block _ (by omega), ← hW0]; exact heap_alloc_new w _
  have e3 : w1.heap[w.heap.size + 1]? = some (.cells #[.int .i64 kind, .int .i64 frm, .int .i64 dst, .int .u64 fep, .int .u64 life, .int .i64 flow, .int .u64 gen, .int .u64 seq, .int .u64 fo, .slice A nA cA, .slice B nB cB, .slice C nC cC, .int .u64 te, .slice D nD cD, .slice E nE cE] 44 (0, 0)) := by
    rw [← hw1, ← s0]; exact heap_alloc_new W0 _
  obtain ⟨B2, hB2⟩ : ∃ B2, w.heap.size = B2 := ⟨_, rfl⟩
  obtain ⟨B3, hB3⟩ : ∃ B3, w.heap.size + 1 = B3 := ⟨_, rfl⟩
  rw [hB3] at e3
  rw [hB2] at e2
  rw [hB3]
  try rw [hB2]
  have p2 : w1.cell? ⟨B2, 0, none⟩ = some (.pointer (some ⟨M, 0, none⟩)) := by simp [World.cell?, e2]
  have f0 : w1.cell? ⟨B3, 0, none⟩ = some (.int .i64 kind) := by simp [World.cell?, e3]
  have f1 : w1.cell? ⟨B3, 1, none⟩ = some (.int .i64 frm) := by simp [World.cell?, e3]
  have f2 : w1.cell? ⟨B3, 2, none⟩ = some (.int .i64 dst) := by simp [World.cell?, e3]
  have f3 : w1.cell? ⟨B3, 3, none⟩ = some (.int .u64 fep) := by simp [World.cell?, e3]
  have f5 : w1.cell? ⟨B3, 5, none⟩ = some (.int .i64 flow) := by simp [World.cell?, e3]
  have h1 := H.out.below b1
  obtain ⟨AU, nU, cU, AH, nH, cH, ⟨c5, c6, c7⟩, c8, _⟩ := h1.topo
  have his := is_calls w1 M h1.lt c8
  have l2 : B2 < w1.heap.size := by omega
  have l3 : B3 < w1.heap.size := by omega
  obtain ⟨B5, hB5⟩ : ∃ B5, w1.heap.size = B5 := ⟨_, rfl⟩
  have HB := Lib.hid b1
  have H1 := Lib.hid h1
  clear b0 b01 hw1 hW0 s0 s1 e2 e3 hB2 hB3 b1 h1 c5 c6 c7 hM
  have hmk := fun W : World => run_makeMap (P := Tryz.prog) 80 W
  go_wp2_with fail
  refine his.mono ?_
  rintro e w2 ⟨rfl, rfl⟩
  clear his c8
  go_upto_region 4 with (fail)
  obtain ⟨w2, hw2⟩ : ∃ w2, w1.alloc (.cells #[.func (.func 37) #[] #[.pointer (some ⟨B3, 0, none⟩)]] 79) = w2 := ⟨_, rfl⟩
  rw [hw2]
  have b2 : Below w1.heap.size w1 w2 := by rw [← hw2]; exact (Below.refl _ _).alloc (Nat.le_refl _) _
  have s2 : w2.heap.size = w1.heap.size + 1 := by rw [← hw2]; simp
  have e5 : w2.heap[w1.heap.size]? = some (.cells #[.func (.func 37) #[] #[.pointer (some ⟨B3, 0, none⟩)]] 79 (0, 0)) := by rw [← hw2]; exact heap_alloc_new w1 _
  rw [hB5] at e5
  have hOB : OB w2 M B2 B3 B5 frm flow := ⟨⟨by omega, by omega, by omega⟩, cellBelow b2 p2, cellBelow b2 f1, cellBelow b2 f5, by simp [World.cell?, e5]⟩
  obtain ⟨v1, hv1⟩ : ∃ v1, Value.func (.func 39) #[] #[.pointer (some ⟨B5, 0, none⟩), .pointer (some ⟨B2, 0, none⟩), .pointer (some ⟨B3, 0, none⟩)] = v1 := ⟨_, rfl⟩
  obtain ⟨v6, hv6⟩ : ∃ v6, Value.func (.func 40) #[] #[.pointer (some ⟨B5, 0, none⟩), .pointer (some ⟨B2, 0, none⟩), .pointer (some ⟨B3, 0, none⟩)] = v6 := ⟨_, rfl⟩
  obtain ⟨v2, hv2⟩ : ∃ v2, Value.func (.func 41) #[] #[.pointer (some ⟨B5, 0, none⟩), .pointer (some ⟨B2, 0, none⟩), .pointer (some ⟨B3, 0, none⟩)] = v2 := ⟨_, rfl⟩
  obtain ⟨v3, hv3⟩ : ∃ v3, Value.func (.func 42) #[] #[.pointer (some ⟨B5, 0, none⟩), .pointer (some ⟨B2, 0, none⟩)] = v3 := ⟨_, rfl⟩
  obtain ⟨v4, hv4⟩ : ∃ v4, Value.func (.func 43) #[] #[.pointer (some ⟨B5, 0, none⟩), .pointer (some ⟨B2, 0, none⟩)] = v4 := ⟨_, rfl⟩
  have I1 : Hid ((Instr.mapUpdate 80 (.map (some w2.heap.size)) (.int .i64 1) v1).run Tryz.prog (w2.alloc (.map #[] 0)) = .ok () (w2.alloc (.map #[{ key := .int .i64 1, val := v1, born := 0 }] 1))) :=
    Lib.hid (map_put _ _ _ Tryz.underlying80 Tryz.underlying3 w2 _ _ _ _ (by simp))
  have I2 : Hid ((Instr.mapUpdate 80 (.map (some w2.heap.size)) (.int .i64 6) v6).run Tryz.prog (w2.alloc (.map #[{ key := .int .i64 1, val := v1, born := 0 }] 1)) = .ok () (w2.alloc (.map #[{ key := .int .i64 1, val := v1, born := 0 }, { key := .int .i64 6, val := v6, born := 1 }] 2))) :=
    Lib.hid (map_put _ _ _ Tryz.underlying80 Tryz.underlying3 w2 _ _ _ _ (by simp))
  have I3 : Hid ((Instr.mapUpdate 80 (.map (some w2.heap.size)) (.int .i64 2) v2).run Tryz.prog (w2.alloc (.map #[{ key := .int .i64 1, val := v1, born := 0 }, { key := .int .i64 6, val := v6, born := 1 }] 2)) = .ok () (w2.alloc (.map #[{ key := .int .i64 1, val := v1, born := 0 }, { key := .int .i64 6, val := v6, born := 1 }, { key := .int .i64 2, val := v2, born := 2 }] 3))) :=
    Lib.hid (map_put _ _ _ Tryz.underlying80 Tryz.underlying3 w2 _ _ _ _ (by simp))
  have I4 : Hid ((Instr.mapUpdate 80 (.map (some w2.heap.size)) (.int .i64 3) v3).run Tryz.prog (w2.alloc (.map #[{ key := .int .i64 1, val := v1, born := 0 }, { key := .int .i64 6, val := v6, born := 1 }, { key := .int .i64 2, val := v2, born := 2 }] 3)) = .ok () (w2.alloc (.map #[{ key := .int .i64 1, val := v1, born := 0 }, { key := .int .i64 6, val := v6, born := 1 }, { key := .int .i64 2, val := v2, born := 2 }, { key := .int .i64 3, val := v3, born := 3 }] 4))) :=
    Lib.hid (map_put _ _ _ Tryz.underlying80 Tryz.underlying3 w2 _ _ _ _ (by simp))
  have I5 : Hid ((Instr.mapUpdate 80 (.map (some w2.heap.size)) (.int .i64 4) v4).run Tryz.prog (w2.alloc (.map #[{ key := .int .i64 1, val := v1, born := 0 }, { key := .int .i64 6, val := v6, born := 1 }, { key := .int .i64 2, val := v2, born := 2 }, { key := .int .i64 3, val := v3, born := 3 }] 4)) = .ok () (w2.alloc (.map (ofMap v1 v6 v2 v3 v4) 5))) :=
    Lib.hid (map_put _ _ _ Tryz.underlying80 Tryz.underlying3 w2 _ _ _ _ (by simp))
  have HOB := Lib.hid hOB
  have HW2 := Lib.hid hw2
  have HB2 := Lib.hid b2
  have HB5 := Lib.hid hB5
  have HV1 := Lib.hid hv1
  have HV6 := Lib.hid hv6
  have HV2 := Lib.hid hv2
  have HV3 := Lib.hid hv3
  have HV4 := Lib.hid hv4
  clear hOB hw2 b2 s2 e5 hB5
  go_upto_region 5 with (first
    | (show wpList _ _ _ (⟨none, .insert _ _ (.const (.int .i64 1)) _, _, _, _, _⟩ :: _) _ _; refine wpList_insert_run rfl (.tmp 14) (.const (.int .i64 1)) (.tmp 15) 80 rfl rfl rfl rfl I1.out ?_)
    | (show wpList _ _ _ (⟨none, .insert _ _ (.const (.int .i64 6)) _, _, _, _, _⟩ :: _) _ _; refine wpList_insert_run rfl (.tmp 14) (.const (.int .i64 6)) (.tmp 16) 80 rfl rfl rfl rfl I2.out ?_)
    | (show wpList _ _ _ (⟨none, .insert _ _ (.const (.int .i64 2)) _, _, _, _, _⟩ :: _) _ _; refine wpList_insert_run rfl (.tmp 14) (.const (.int .i64 2)) (.tmp 17) 80 rfl rfl rfl rfl I3.out ?_)
    | (show wpList _ _ _ (⟨none, .insert _ _ (.const (.int .i64 3)) _, _, _, _, _⟩ :: _) _ _; refine wpList_insert_run rfl (.tmp 14) (.const (.int .i64 3)) (.tmp 18) 80 rfl rfl rfl rfl I4.out ?_)
    | (show wpList _ _ _ (⟨none, .insert _ _ (.const (.int .i64 4)) _, _, _, _, _⟩ :: _) _ _; refine wpList_insert_run rfl (.tmp 14) (.const (.int .i64 4)) (.tmp 19) 80 rfl rfl rfl rfl I5.out ?_))
  obtain ⟨wm, hwm⟩ : ∃ wm, w2.alloc (.map (ofMap v1 v6 v2 v3 v4) 5) = wm := ⟨_, rfl⟩
  rw [hwm]
  have bm : Below w2.heap.size w2 wm := by rw [← hwm]; exact (Below.refl _ _).alloc (Nat.le_refl _) _
  have em : wm.heap[w2.heap.size]? = some (.map (ofMap v1 v6 v2 v3 v4) 5) := by rw [← hwm]; exact heap_alloc_new w2 _
  have b1m : Below w1.heap.size w1 wm := belowThen HB2.out HB2.out.size bm
  have hMm := H1.out.below b1m
  have hOm := HOB.out.below bm
  have hz : (zeroValue 26).run Tryz.prog wm = .ok (.nilFunc) wm := by kernel_rfl
  have hlk : ∃ vk kn, (Instr.lookup 80 (.map (some w2.heap.size)) (.int .i64 kind) true).run Tryz.prog wm = .ok (.tuple #[vk, .bool kn]) wm ∧ knownB kind = kn ∧ (kn = true → ∃ g lb, vk = .func (.func g) #[] lb ∧ (∀ args w, (callFunc g args).run Tryz.prog w = .ok (.enter g args) w) ∧
      ∀ W, Below wm.heap.size wm W → Calls Tryz.prog g lb W fun e w' => e = .returned (.bool (isB hops node kind frm flow)) ∧ Below W.heap.size W w') := by
    have hOo := fun W (hb : Below wm.heap.size wm W) => hOm.below hb
    have hMo := fun W (hb : Below wm.heap.size wm W) => hMm.below hb
    by_cases x1 : kind = 1
    · subst x1
      exact ⟨v1, true, map_look _ _ _ Tryz.underlying80 Tryz.underlying3 wm _ _ _ em 1 0 v1 rfl, rfl, fun _ => ⟨_, _, hv1.symm, enters_of Tryz.func39 (by kernel_rfl) rfl, fun W hb => of2_calls W M ok nodes flows win que node ep up hops (hMo W hb) B2 B3 B5 frm flow (hOo W hb) hf _ rfl⟩⟩
    by_cases x6 : kind = 6
    · subst x6
      exact ⟨v6, true, map_look _ _ _ Tryz.underlying80 Tryz.underlying3 wm _ _ _ em 6 1 v6 rfl, rfl, fun _ => ⟨_, _, hv6.symm, enters_of Tryz.func40 (by kernel_rfl) rfl, fun W hb => of3_calls W M ok nodes flows win que node ep up hops (hMo W hb) B2 B3 B5 frm flow (hOo W hb) hf _ rfl⟩⟩
    by_cases x2 : kind = 2
    · subst x2
      exact ⟨v2, true, map_look _ _ _ Tryz.underlying80 Tryz.underlying3 wm _ _ _ em 2 2 v2 rfl, rfl, fun _ => ⟨_, _, hv2.symm, enters_of Tryz.func41 (by kernel_rfl) rfl, fun W hb => of4_calls W M ok nodes flows win que node ep up hops (hMo W hb) B2 B3 B5 frm flow (hOo W hb) hf _ rfl⟩⟩
    by_cases x3 : kind = 3
    · subst x3
      exact ⟨v3, true, map_look _ _ _ Tryz.underlying80 Tryz.underlying3 wm _ _ _ em 3 3 v3 rfl, rfl, fun _ => ⟨_, _, hv3.symm, enters_of Tryz.func42 (by kernel_rfl) rfl, fun W hb => of5_calls W M ok nodes flows win que node ep up hops (hMo W hb) B2 B3 B5 frm flow (hOo W hb) _ rfl⟩⟩
    by_cases x4 : kind = 4
    · subst x4
      exact ⟨v4, true, map_look _ _ _ Tryz.underlying80 Tryz.underlying3 wm _ _ _ em 4 4 v4 rfl, rfl, fun _ => ⟨_, _, hv4.symm, enters_of Tryz.func43 (by kernel_rfl) rfl, fun W hb => of6_calls W M ok nodes flows win que node ep up hops (hMo W hb) B2 B3 B5 frm flow (hOo W hb) _ rfl⟩⟩
    · refine ⟨.nilFunc, false, map_look_none _ _ _ Tryz.underlying80 Tryz.underlying3 wm _ _ _ em kind _ hz ?_, ?_, fun hh => by cases hh⟩
      · intro e he
        have : e ∈ [({ key := .int .i64 1, val := v1, born := 0 } : MapEntry), { key := .int .i64 6, val := v6, born := 1 }, { key := .int .i64 2, val := v2, born := 2 }, { key := .int .i64 3, val := v3, born := 3 }, { key := .int .i64 4, val := v4, born := 4 }] := he
        simp only [List.mem_cons, List.not_mem_nil, or_false] at this
        rcases this with rfl | rfl | rfl | rfl | rfl
        · exact ⟨1, rfl, fun e => x1 e.symm⟩
        · exact ⟨6, rfl, fun e => x6 e.symm⟩
        · exact ⟨2, rfl, fun e => x2 e.symm⟩
        · exact ⟨3, rfl, fun e => x3 e.symm⟩
        · exact ⟨4, rfl, fun e => x4 e.symm⟩
      · unfold knownB
        rw [beq_eq_false_iff_ne.2 x1, beq_eq_false_iff_ne.2 x6, beq_eq_false_iff_ne.2 x2, beq_eq_false_iff_ne.2 x3, beq_eq_false_iff_ne.2 x4]
        rfl
  clear hv1 hv2 hv3 hv4 hv6 hz
  obtain ⟨vk, kn, hl, hkn, hvk⟩ := hlk
  have HKN := Lib.hid hkn
  have HVK := Lib.hid hvk
  have HL := Lib.hid hl
  have g0 : wm.cell? ⟨B3, 0, none⟩ = some (.int .i64 kind) := cellBelow b1m f0
  have g2 : wm.cell? ⟨B3, 2, none⟩ = some (.int .i64 dst) := cellBelow b1m f2
  have g3 : wm.cell? ⟨B3, 3, none⟩ = some (.int .u64 fep) := cellBelow b1m f3
  have g5 : wm.cell? ⟨B3, 5, none⟩ = some (.int .i64 flow) := cellBelow b1m f5
  have q2 : wm.cell? ⟨B2, 0, none⟩ = some (.pointer (some ⟨M, 0, none⟩)) := hOm.p2
  obtain ⟨AF, nF, cF, AU', nU', cU', AH', nH', cH', hF, k1, k2, k3, r1, _, _⟩ := hMm.facts
  have m1 := hF.c1
  have m4 := hF.c4
  have m5 := hF.c5
  have hnF := r1.len
  have HNF := Lib.hid hnF
  have HWM := Lib.hid hwm
  have BM := Lib.hid b1m
  have HMM := Lib.hid hMm
  clear hl hkn hvk hwm em b1m hMm hOm hF r1 hnF f0 f1 f2 f3 f5 p2 bm
  go_upto_region 6 with ((show wpList _ _ _ (⟨some 25, .lookup _ _ _ _, _, _, _, _⟩ :: _) _ _; refine wpList_look_run rfl (.tmp 22) (.tmp 24) 80 true rfl rfl rfl HL.out ?_))
  obtain ⟨fb, hfb⟩ : ∃ fb, flowB kind flow nF = fb := ⟨_, rfl⟩
  have HFB := Lib.hid hfb
  clear hfb hmk
  have lm2 : B2 < wm.heap.size := by have := BM.out.size; omega
  have lm3 : B3 < wm.heap.size := by have := BM.out.size; omega
  have lmM : M < wm.heap.size := HMM.out.lt
  go_cut [9] (fun s9 wx => s9 = .bool fb ∧ Hid (Below wm.heap.size wm wx))
  case first =>
    cases h3 : (kind == 3) with
    | true =>
      go_quiet (fail)
      go_wp2_with fail
      go_meet
      exact ⟨by rw [← HFB.out]; unfold flowB; rw [h3]; rfl, Lib.hid (belowDrewN (Below.refl _ _) _)⟩
    | false =>
      cases h4 : (kind == 4) with
      | true =>
        go_quiet (fail)
        go_wp2_with fail
        go_meet
        exact ⟨by rw [← HFB.out]; unfold flowB; rw [h3, h4]; rfl, Lib.hid (belowDrewN (Below.refl _ _) _)⟩
      | false =>
        by_cases h5 : 0 ≤ flow
        · have d5 : decide (0 ≤ flow) = true := decide_eq_true h5
          by_cases h6 : flow < (nF : Int)
          · have d6 : decide (flow < (nF : Int)) = true := decide_eq_true h6
            go_quiet (fail)
            go_wp2_with fail
            go_meet
            exact ⟨by rw [← HFB.out]; unfold flowB; rw [h3, h4, d5, d6]; rfl, Lib.hid (belowDrewN (Below.refl _ _) _)⟩
          · have d6 : decide (flow < (nF : Int)) = false := decide_eq_false h6
            go_quiet (fail)
            go_wp2_with fail
            go_meet
            exact ⟨by rw [← HFB.out]; unfold flowB; rw [h3, h4, d5, d6]; rfl, Lib.hid (belowDrewN (Below.refl _ _) _)⟩
        · have d5 : decide (0 ≤ flow) = false := decide_eq_false h5
          go_quiet (fail)
          go_wp2_with fail
          go_meet
          exact ⟨by rw [← HFB.out]; unfold flowB; rw [h3, h4, d5]; rfl, Lib.hid (belowDrewN (Below.refl _ _) _)⟩
  case rest =>
    obtain ⟨rfl, HBW⟩ := hcut
    have g0' := cellBelow HBW.out g0
    have g2' := cellBelow HBW.out g2
    have g3' := cellBelow HBW.out g3
    have q2' := cellBelow HBW.out q2
    have m4' := cellBelow HBW.out m4
    have m5' := cellBelow HBW.out m5
    clear g0 g2 g3 g5 q2 m1 m4 m5 I1 I2 I3 I4 I5
    cases kn with
    | false =>
      have hq : ofRes flows node ep hops kind frm dst fep flow = 6 := by unfold ofRes; rw [if_pos (.inl HKN.out)]
      rw [HR.out] at hq
      have HQ := Lib.hid hq
      clear hq
      go_wp2_with fail
      go_quiet (fail)
      go_wp2_with fail
      go_ret
      exact ⟨by rw [HQ.out]; rfl, belowThen HB.out HB.out.size (belowThen BM.out BM.out.size (belowDrewN HBW.out _))⟩
    | true =>
      cases hd : (dst == node) with
      | false =>
        have hd' : (dst != node) = true := by rw [bne, hd]; rfl
        have hq : ofRes flows node ep hops kind frm dst fep flow = 6 := by unfold ofRes; rw [if_pos (.inr (.inl (beq_eq_false_iff_ne.1 hd)))]
        rw [HR.out] at hq
        have HQ := Lib.hid hq
        clear hq
        go_wp2_with fail
        go_quiet (fail)
        go_wp2_with fail
        go_ret
        exact ⟨by rw [HQ.out]; rfl, belowThen HB.out HB.out.size (belowThen BM.out BM.out.size (belowDrewN HBW.out _))⟩
      | true =>
        have hd' : (dst != node) = false := by rw [bne, hd]; rfl
        have HDE := Lib.hid (eq_of_beq hd)
        cases fb with
        | false =>
          have hq : ofRes flows node ep hops kind frm dst fep flow = 6 := by unfold ofRes; rw [if_pos (.inr (.inr (by rw [HNF.out]; exact HFB.out)))]
          rw [HR.out] at hq
          have HQ := Lib.hid hq
          clear hq
          go_wp2_with fail
          go_quiet (fail)
          go_wp2_with fail
          go_ret
          exact ⟨by rw [HQ.out]; rfl, belowThen HB.out HB.out.size (belowThen BM.out BM.out.size (belowDrewN HBW.out _))⟩
        | true =>
          have hn : ¬ (knownB kind = false ∨ dst ≠ node ∨ flowB kind flow flows.length = false) := by
            rw [HKN.out, HNF.out, HFB.out]
            exact fun hh => hh.elim (fun h => by cases h) fun hh => hh.elim (fun h => h HDE.out) fun h => by cases h
          have HN := Lib.hid hn
          clear hn
          go_wp2_with fail
          go_quiet (fail)
          cases he : (fep == ep) with
          | false =>
            have he' : (fep != ep) = true := by rw [bne, he]; rfl
            have hq : ofRes flows node ep hops kind frm dst fep flow = 22 := by unfold ofRes; rw [if_neg HN.out, if_pos (.inl (beq_eq_false_iff_ne.1 he))]
            rw [HR.out] at hq
            have HQ := Lib.hid hq
            clear hq
            go_wp2_with fail
            go_quiet (fail)
            go_wp2_with fail
            go_ret
            exact ⟨by rw [HQ.out]; rfl, belowThen HB.out HB.out.size (belowThen BM.out BM.out.size (belowDrewN (belowDrewN HBW.out _) _))⟩
          | true =>
            have he' : (fep != ep) = false := by rw [bne, he]; rfl
            have HE := Lib.hid (eq_of_beq he)
            cases h0 : (fep == 0) with
            | true =>
              have hq : ofRes flows node ep hops kind frm dst fep flow = 22 := by unfold ofRes; rw [if_neg HN.out, if_pos (.inr (eq_of_beq h0))]
              rw [HR.out] at hq
              have HQ := Lib.hid hq
              clear hq
              go_wp2_with fail
              go_quiet (fail)
              go_wp2_with fail
              go_ret
              exact ⟨by rw [HQ.out]; rfl, belowThen HB.out HB.out.size (belowThen BM.out BM.out.size (belowDrewN (belowDrewN HBW.out _) _))⟩
            | false =>
              obtain ⟨g, lb, rfl, eg, hcall⟩ := HVK.out (by trivial)
              have hcl := fun q => hcall (wc.drewN q) (belowDrewN HBW.out q)
              obtain ⟨ib, hib⟩ : ∃ ib, isB hops node kind frm flow = ib := ⟨_, rfl⟩
              rw [hib] at hcl
              have hq : ofRes flows node ep hops kind frm dst fep flow = if ib = true then 0 else 6 := by unfold ofRes; rw [if_neg HN.out, if_neg (fun hh => hh.elim (fun h => h HE.out) (beq_eq_false_iff_ne.1 h0)), hib]
              rw [HR.out] at hq
              have HQ := Lib.hid hq
              have HCL := Lib.hid hcl
              clear hq hcl hcall hib
              go_wp2_with fail
              go_quiet (fail)
              go_wp2_with fail
              refine (HCL.out _).mono ?_
              rintro e w9 ⟨rfl, b9⟩
              have B9 := Lib.hid b9
              clear b9
              have hBB : Hid (Below w.heap.size w w9) := Lib.hid (belowThen (belowThen HB.out HB.out.size (belowThen BM.out BM.out.size (belowDrewN HBW.out _))) (by have := HB.out.size; have := BM.out.size; have := HBW.out.size; show w.heap.size ≤ wc.heap.size; omega) B9.out)
              cases ib with
              | false =>
                go_wp2_with fail
                go_ret
                exact ⟨by rw [HQ.out]; rfl, hBB.out⟩
              | true =>
                go_wp2_with fail
                go_ret
                exact ⟨by rw [HQ.out]; rfl, hBB.out⟩
end Go.Proofs.YthgnjojkncodeaaGreat
