/-
  The walk of MemberPlays.
-/
import Derived.Test.YthgnjojkncodeaaGreatMpA
import Derived.Test.YthgnjojkncodeaaGreatMbK
import Derived.Deep.CutBlock
import Derived.Deep.RegionHeld3
import Derived.Deep.WholeRow
import Derived.Great.BuildSlice
import Derived.Deep.MidRow
namespace Go.Proofs.YthgnjojkncodeaaGreat
open Go.RowKit
set_option linter.unusedVariables false
set_option linter.unusedSimpArgs false

theorem act_info : (Tryz.prog.info? 46).map (·.size) = some 20 := by kernel_rfl
theorem act_zero : (Tryz.prog.info? 46).map (fun i => (i.zero.map (·.cells.size), i.size)) = some (some 20, 20) := by kernel_rfl
section
variable {P : Program} {ops : Array Oper} {rest : List Oper} {o : Oper} {a : Act} {Q : Exit → Act → World → Prop} {w : World}
theorem lMove (hg : o.guard = none) (x : Operand) (ho : o.op = .move x) (v : Value) (hv : a.eval x = v) (h : wpList P ops Q rest (a.put o.dst v) w) : wpList P ops Q (o :: rest) a w := by
  refine wpList_plain hg fun K hK => ?_
  unfold Oper.wp execOp
  simp only [ho, hv, Sem.run_bind, Sem.run_pure, Result.andThen_ok]
  exact hK _ _ h
theorem lAssign (hg : o.guard = none) (x : Operand) (ho : o.op = .assign x) (v : Value) (hv : a.eval x = v) (h : wpList P ops Q rest (a.put o.dst v) w) : wpList P ops Q (o :: rest) a w := by
  refine wpList_plain hg fun K hK => ?_
  unfold Oper.wp execOp
  simp only [ho, hv, Sem.run_bind, Sem.run_pure, Result.andThen_ok]
  exact hK _ _ h
theorem lIndex (hg : o.guard = none) (t : TypeId) (x y : Operand) (ho : o.op = .indexAddr t x y) (vx vy p : Value) (hx : a.eval x = vx) (hy : a.eval y = vy) (hr : (Instr.indexAt t vx vy).run P w = .ok p w) (h : wpList P ops Q rest (a.put o.dst p) w) : wpList P ops Q (o :: rest) a w := by
  refine wpList_plain hg fun K hK => ?_
  unfold Oper.wp execOp
  simp only [ho, hx, hy, hr, Sem.run_bind, Sem.run_pure, Result.andThen_ok]
  exact hK _ _ h
theorem lAlloc (hg : o.guard = none) (t : TypeId) (ho : o.op = .alloc t) (p : Value) (w' : World) (hr : (Instr.alloc t true (.tuple #[])).run P w = .ok p w') (h : wpList P ops Q rest (a.put o.dst p) w') : wpList P ops Q (o :: rest) a w := by
  refine wpList_plain hg fun K hK => ?_
  unfold Oper.wp execOp
  simp only [ho, hr, Sem.run_bind, Sem.run_pure, Result.andThen_ok]
  exact hK _ _ h
theorem act_alloc (w : World) : (Instr.alloc 46 true (.tuple #[])).run Tryz.prog w = .ok (.pointer (some ⟨w.heap.size, 0, none⟩)) (w.alloc (.cells #[.int .i64 0, .int .i64 0, .int .u64 0, .slice none 0 0, .slice none 0 0, .int .i64 0, .int .i64 0, .int .i64 0, .int .u64 0, .int .u64 0, .int .i64 0, .int .u64 0, .int .u64 0, .int .u64 0, .slice none 0 0, .slice none 0 0, .slice none 0 0, .int .u64 0, .slice none 0 0, .slice none 0 0] 46)) := by
  kernel_rfl
theorem act_index (w : World) (b o k nL cL : Nat) (hk : k < nL) : (Instr.indexAt 25 (.slice (some ⟨b, o, none⟩) nL cL) (.int .i64 (k : Int))).run Tryz.prog w = .ok (.pointer (some ⟨b, o + k * 20, none⟩)) w := by
  have h1 : (k : Int) < (nL : Int) := by omega
  have h2 : ¬ (k : Int) < 0 := by omega
  simp [go_sem, h1, h2]
end
set_option maxRecDepth 100000 in
set_option maxHeartbeats 16000000 in
theorem memberPlays_walk (w : World) (nodes : Int) (AF : Option Addr) (nF cF : Nat) (flows : List Flw) (win que node : Int) (AL : Option Addr) (nL cL : Nat) (acts : List AA)
    (hi : inI nodes ∧ inI win ∧ inI que) (hF : nF ≤ cF) (hrF : Rd elFl w (fun k => k < w.heap.size) AF nF flows) (hn : inI node) (hL : nL ≤ cL) (hrL : Rd elAct w (fun k => k < w.heap.size) AL nL acts)
    (hfa : ∀ a ∈ acts, Few a.2.2.1.2.2 ∧ a.2.2.1.2.1.length ≤ 1048576 ∧ a.2.2.1.2.2.length ≤ 1048576) :
    Calls Tryz.prog 3 #[.agg #[.int .i64 nodes, .slice AF nF cF, .int .i64 win, .int .i64 que], .int .i64 node, .slice AL nL cL] w fun e w' => e = .returned (.bool true) ∧ Below w.heap.size w w' := by
  obtain ⟨w1, hw1⟩ : ∃ w1, w.alloc (.cells #[.int .i64 nodes, .slice AF nF cF, .int .i64 win, .int .i64 que] 24) = w1 := ⟨_, rfl⟩
  have b1 : Below w.heap.size w w1 := by rw [← hw1]; exact (Below.refl _ _).alloc (Nat.le_refl _) _
  have e1 : w1.heap[w.heap.size]? = some (.cells #[.int .i64 nodes, .slice AF nF cF, .int .i64 win, .int .i64 que] 24 (0, 0)) := by rw [← hw1]; exact heap_alloc_new w _
  obtain ⟨P, hP⟩ : ∃ P, w.heap.size = P := ⟨_, rfl⟩
  rw [hP] at e1
  have c0 : w1.cell? ⟨P, 0, none⟩ = some (.int .i64 nodes) := by simp [World.cell?, e1]
  have c1 : w1.cell? ⟨P, 1, none⟩ = some (.slice AF nF cF) := by simp [World.cell?, e1]
  have c2 : w1.cell? ⟨P, 2, none⟩ = some (.int .i64 win) := by simp [World.cell?, e1]
  have c3 : w1.cell? ⟨P, 3, none⟩ = some (.int .i64 que) := by simp [World.cell?, e1]
  have HCV : Hid (∀ W, Below w.heap.size w W → ConfV W (fun k => k < w.heap.size) (.agg #[.int .i64 nodes, .slice AF nF cF, .int .i64 win, .int .i64 que]) nodes flows win que) := Lib.hid fun W hb => ⟨_, _, _, rfl, hF, hi.1, hi.2.1, hi.2.2, hrF.below hb⟩
  have HRL := Lib.hid hrL
  have hLm := hrL.max
  have HFA := Lib.hid hfa
  have HB1 := Lib.hid b1
  have HW1 := Lib.hid hw1
  have HP := Lib.hid hP
  have HN := Lib.hid hn
  clear hw1 b1 e1 hi hF hrF hrL hfa hP
  have haw := awake_calls w1
  go_enter Tryz.func3, Tryz.ntmps3
  go_upto_region 1 with (fail)
  rw [HW1.out]
  try rw [HP.out]
  go_wp2_with fail
  refine haw.mono ?_
  rintro e w2 ⟨rfl, b2⟩
  have HB2 := Lib.hid (belowThen HB1.out HB1.out.size b2)
  have k0 := cellBelow b2 c0
  have k1 := cellBelow b2 c1
  have k2 := cellBelow b2 c2
  have k3 := cellBelow b2 c3
  have hnw := new_calls w2 _ nodes flows win que node _ (fun k hk => by have := HB2.out.size; omega) (HCV.out w2 HB2.out) hn
  clear haw b2 c0 c1 c2 c3
  go_wp2_with fail
  refine hnw.mono ?_
  rintro e w3 ⟨b3, hnw2⟩
  have HB3 := Lib.hid (belowThen HB2.out HB2.out.size b3)
  have c0 := cellBelow b3 k0
  have c1 := cellBelow b3 k1
  have c2 := cellBelow b3 k2
  have c3 := cellBelow b3 k3
  have hrn := rmnew_calls w3 _ _ nodes flows win que node (HCV.out w3 HB3.out) hn
  clear hnw b3 k0 k1 k2 k3
  rcases hnw2 with ⟨hok, rfl⟩ | ⟨hok, M, rfl, hM, hMB⟩
  · have HOK := Lib.hid hok
    clear hok
    go_wp2_with fail
    refine hrn.mono ?_
    rintro e w4 ⟨b4, ⟨hok2, rfl⟩ | ⟨hok2, _⟩⟩
    · clear hok2
      go_wp2_with fail
      go_ret
      exact ⟨rfl, belowThen HB3.out HB3.out.size b4⟩
    · rw [HOK.out] at hok2
      cases hok2
  · have HOK := Lib.hid hok
    have HMB3 := Lib.hid hMB
    have hMl := hMB.lt
    clear hok hMB
    go_wp2_with fail
    refine hrn.mono ?_
    rintro e w4 ⟨b4, ⟨hok2, _⟩ | ⟨_, R, rfl, hR, hRB⟩⟩
    · rw [HOK.out] at hok2
      cases hok2
    · have hMw : w.heap.size ≤ M := by have := HB2.out.size; omega
      have hRw : w.heap.size ≤ R := by have := HB3.out.size; omega
      have hMR : M ≠ R := by omega
      have HMB3' := Lib.hid (HMB3.out.mono (ok' := fun k => k ≠ M ∧ k < w3.heap.size) (fun q hk hl => ⟨fun e => HMB3.out.n (e ▸ hk), hl⟩) (fun h => h.1 rfl))
      have HPS : Hid (PS w w4 M R nodes flows win que node AL nL acts 0 [] []) := Lib.hid ⟨(HMB3'.out.below b4).mono (fun k hk _ => ⟨hk.1, by omega⟩) (fun h => h.1 rfl), hRB, InR.nil _, belowThen HB3.out HB3.out.size b4, HRL.out.below (belowThen HB3.out HB3.out.size b4)⟩
      have HLM := Lib.hid (And.intro hMw (And.intro hRw hMR))
      clear hrn hRB b4 c0 c1 c2 c3 HMB3 HMB3' hM hR hMl hMw hRw hMR
      go_wp2_with fail
      go_loopg [43] nL (fun gg s43 wr => ∃ (k : Nat) (ep : Int) (up : List Bool) (hops : List (List Ed)), k ≤ nL ∧ nL - k ≤ gg ∧ k ≤ 60 ∧ s43 = .int .i64 (k : Int) ∧ Hid (PS w wr M R nodes flows win que node AL nL acts ep up hops))
      case atStart => exact ⟨0, 0, [], [], by omega, by omega, by omega, rfl, HPS⟩
      case round =>
        clear HPS
        obtain ⟨k, ep, up, hops, hk, hgk, hk60, rfl, HPS⟩ := hrel
        by_cases hkl : k < nL
        · have hkli : (k : Int) < (nL : Int) := by omega
          have hk0 : (0 : Int) ≤ (k : Int) := by omega
          obtain ⟨a, ha⟩ : ∃ a, acts[k]? = some a := ⟨_, List.getElem?_eq_getElem (by have := HPS.out.l.len; omega)⟩
          obtain ⟨b, o, vs, rfl, _, _, hV, hcl⟩ := HPS.out.l.at_ k a ha
          obtain ⟨what, flow, ep2, up2, hops2, AU, nU, cU, AH, nH, cH, r, kind, frm, dst, fep, fl, rfl, hea, hfl1, hfl2, hTV⟩ := act_open hV
          obtain ⟨life, gen, seq, fo, te, A, nA, cA, B, nB, cB, C, nC, cC, D, nD, cD, E, nE, cE⟩ := r
          simp only at hcl
          have hone : Hid ((#[.int .i64 what, .int .i64 flow, .int .u64 (ep2 : Int), .slice AU nU cU, .slice AH nH cH, .int .i64 kind, .int .i64 frm, .int .i64 dst, .int .u64 fep, .int .u64 life, .int .i64 fl, .int .u64 gen, .int .u64 seq, .int .u64 fo, .slice A nA cA, .slice B nB cB, .slice C nC cC, .int .u64 te, .slice D nD cD, .slice E nE cE] : Array Value).all (·.oneCell') = true) := Lib.hid (by simp [Value.oneCell'])
          have hrange : Hid (wr.rangeAt b (o + k * 20) [.int .i64 what, .int .i64 flow, .int .u64 (ep2 : Int), .slice AU nU cU, .slice AH nH cH, .int .i64 kind, .int .i64 frm, .int .i64 dst, .int .u64 fep, .int .u64 life, .int .i64 fl, .int .u64 gen, .int .u64 seq, .int .u64 fo, .slice A nA cA, .slice B nB cB, .slice C nC cC, .int .u64 te, .slice D nD cD, .slice E nE cE]) := Lib.hid fun j v hv => by rw [Nat.add_assoc]; exact hcl j v hv
          have HFW : Hid (Few hops2 ∧ up2.length ≤ 1048576 ∧ hops2.length ≤ 1048576) := Lib.hid (by have := HFA.out a (List.mem_of_getElem? ha); rw [hea] at this; exact this)
          obtain ⟨wq, hwq⟩ : ∃ wq, wr.alloc (.cells #[.int .i64 what, .int .i64 flow, .int .u64 (ep2 : Int), .slice AU nU cU, .slice AH nH cH, .int .i64 kind, .int .i64 frm, .int .i64 dst, .int .u64 fep, .int .u64 life, .int .i64 fl, .int .u64 gen, .int .u64 seq, .int .u64 fo, .slice A nA cA, .slice B nB cB, .slice C nC cC, .int .u64 te, .slice D nD cD, .slice E nE cE] 46) = wq := ⟨_, rfl⟩
          have bq : Below wr.heap.size wr wq := by rw [← hwq]; exact (Below.refl _ _).alloc (Nat.le_refl _) _
          have eq : wq.heap[wr.heap.size]? = some (.cells #[.int .i64 what, .int .i64 flow, .int .u64 (ep2 : Int), .slice AU nU cU, .slice AH nH cH, .int .i64 kind, .int .i64 frm, .int .i64 dst, .int .u64 fep, .int .u64 life, .int .i64 fl, .int .u64 gen, .int .u64 seq, .int .u64 fo, .slice A nA cA, .slice B nB cB, .slice C nC cC, .int .u64 te, .slice D nD cD, .slice E nE cE] 46 (0, 0)) := by rw [← hwq]; exact heap_alloc_new wr _
          have HWQ := Lib.hid hwq
          have HSQ := Lib.hid (HPS.out.below bq)
          have HTQ := Lib.hid (hTV.below bq)
          have HQL : Hid (M ≠ wr.heap.size ∧ R ≠ wr.heap.size ∧ w.heap.size ≤ wr.heap.size ∧ M < wr.heap.size ∧ R < wr.heap.size) := Lib.hid (by have := HPS.out.m.lt; have := HPS.out.r.lt; have := HPS.out.b.size; omega)
          clear hcl hV ha hea hTV
          by_cases hk6 : k = 60
          · subst hk6
            clear hwq
            go_upto_region 11 with (fail)
            refine wp_region_lit ?_
            refine lMove rfl (.tmp 43) rfl (.int .i64 (60 : Int)) rfl ?_
            refine lIndex rfl 25 (.tmp 41) (.tmp 43) rfl (.slice (some ⟨b, o, none⟩) nL cL) (.int .i64 (60 : Int)) (.pointer (some ⟨b, o + 60 * 20, none⟩)) rfl rfl (act_index wr b o 60 nL cL hkl) ?_
            refine wpList_load_mid rfl 46 (.tmp 46) rfl b (o + 60 * 20) rfl [.int .i64 what, .int .i64 flow, .int .u64 (ep2 : Int), .slice AU nU cU, .slice AH nH cH, .int .i64 kind, .int .i64 frm, .int .i64 dst, .int .u64 fep, .int .u64 life, .int .i64 fl, .int .u64 gen, .int .u64 seq, .int .u64 fo, .slice A nA cA, .slice B nB cB, .slice C nC cC, .int .u64 te, .slice D nD cD, .slice E nE cE] _ hrange.out Tryz.underlying46 rfl act_info ?_
            refine lAlloc rfl 46 rfl _ _ (act_alloc wr) ?_
            refine lAssign rfl (.tmp 45) rfl (.int .i64 (60 : Int)) rfl ?_
            refine wpList_store_rowTo rfl 46 (.tmp 12) (.tmp 47) rfl rfl wr.heap.size #[.int .i64 what, .int .i64 flow, .int .u64 (ep2 : Int), .slice AU nU cU, .slice AH nH cH, .int .i64 kind, .int .i64 frm, .int .i64 dst, .int .u64 fep, .int .u64 life, .int .i64 fl, .int .u64 gen, .int .u64 seq, .int .u64 fo, .slice A nA cA, .slice B nB cB, .slice C nC cC, .int .u64 te, .slice D nD cD, .slice E nE cE] rfl rfl 46 _ (heap_alloc_new wr _) act_info rfl hone.out ?_
            rw [World.setRow_alloc_new, HWQ.out]
            refine wpList_nil ?_
            go_wp2_with fail
            go_ret
            exact ⟨rfl, HSQ.out.b⟩
          · have hk6i : ((k : Int) == 60) = false := beq_eq_false_iff_ne.2 (by omega)
            clear hwq
            go_upto_region 11 with (fail)
            refine wp_region_lit ?_
            refine lMove rfl (.tmp 43) rfl (.int .i64 (k : Int)) rfl ?_
            refine lIndex rfl 25 (.tmp 41) (.tmp 43) rfl (.slice (some ⟨b, o, none⟩) nL cL) (.int .i64 (k : Int)) (.pointer (some ⟨b, o + k * 20, none⟩)) rfl rfl (act_index wr b o k nL cL hkl) ?_
            refine wpList_load_mid rfl 46 (.tmp 46) rfl b (o + k * 20) rfl [.int .i64 what, .int .i64 flow, .int .u64 (ep2 : Int), .slice AU nU cU, .slice AH nH cH, .int .i64 kind, .int .i64 frm, .int .i64 dst, .int .u64 fep, .int .u64 life, .int .i64 fl, .int .u64 gen, .int .u64 seq, .int .u64 fo, .slice A nA cA, .slice B nB cB, .slice C nC cC, .int .u64 te, .slice D nD cD, .slice E nE cE] _ hrange.out Tryz.underlying46 rfl act_info ?_
            refine lAlloc rfl 46 rfl _ _ (act_alloc wr) ?_
            refine lAssign rfl (.tmp 45) rfl (.int .i64 (k : Int)) rfl ?_
            refine wpList_store_rowTo rfl 46 (.tmp 12) (.tmp 47) rfl rfl wr.heap.size #[.int .i64 what, .int .i64 flow, .int .u64 (ep2 : Int), .slice AU nU cU, .slice AH nH cH, .int .i64 kind, .int .i64 frm, .int .i64 dst, .int .u64 fep, .int .u64 life, .int .i64 fl, .int .u64 gen, .int .u64 seq, .int .u64 fo, .slice A nA cA, .slice B nB cB, .slice C nC cC, .int .u64 te, .slice D nD cD, .slice E nE cE] rfl rfl 46 _ (heap_alloc_new wr _) act_info rfl hone.out ?_
            rw [World.setRow_alloc_new, HWQ.out]
            refine wpList_nil ?_
            go_upto_region 12 with (fail)
            obtain ⟨Q, hQ⟩ : ∃ Q, wr.heap.size = Q := ⟨_, rfl⟩
            try rw [hQ]
            rw [hQ] at eq
            have HEQ := Lib.hid eq
            have q0 : wq.cell? ⟨Q, 0, none⟩ = some (.int .i64 what) := by simp [World.cell?, eq]
            clear hrange hone bq eq
            go_upto_block 2 with (fail)
            go_cut [43] (fun s43 wx => s43 = .int .i64 (k : Int) ∧ ∃ (ep : Int) (up : List Bool) (hops : List (List Ed)), Hid (PS w wx M R nodes flows win que node (some ⟨b, o, none⟩) nL acts ep up hops))
            case first =>
              by_cases hw0 : what = 0
              · subst hw0
                as_aux_lemma =>
                  have heq := HEQ.out
                  have q2 : wq.cell? ⟨Q, 2, none⟩ = some (.int .u64 (ep2 : Int)) := by simp [World.cell?, heq]
                  have q3 : wq.cell? ⟨Q, 3, none⟩ = some (.slice AU nU cU) := by simp [World.cell?, heq]
                  have q4 : wq.cell? ⟨Q, 4, none⟩ = some (.slice AH nH cH) := by simp [World.cell?, heq]
                  have how := own_calls wq _ (ep2 : Int) up2 hops2 (HTQ.out.mono fun q hq _ => by have := HSQ.out.b.size; omega) HFW.out.1 HFW.out.2.1 HFW.out.2.2
                  clear heq
                  go_wp2_with fail
                  refine how.mono ?_
                  rintro e w5 ⟨gv, rfl, hT5, b5⟩
                  have hT5' := hT5.range2
                  obtain ⟨AG, nG, cG, AI, nI, cI, rfl⟩ := hT5'.agg
                  obtain ⟨w6, hw6⟩ : ∃ w6, w5.alloc (.cells #[.int .u64 (ep2 : Int), .slice AG nG cG, .slice AI nI cI] 38) = w6 := ⟨_, rfl⟩
                  have b6 : Below w5.heap.size w5 w6 := by rw [← hw6]; exact (Below.refl _ _).alloc (Nat.le_refl _) _
                  have s6 : w6.heap.size = w5.heap.size + 1 := by rw [← hw6]; simp
                  have e6 : w6.heap[w5.heap.size]? = some (.cells #[.int .u64 (ep2 : Int), .slice AG nG cG, .slice AI nI cI] 38 (0, 0)) := by rw [← hw6]; exact heap_alloc_new w5 _
                  have HW6 := Lib.hid hw6
                  have h56 := b5.size
                  have B6 := Lib.hid (belowThen b5 b5.size b6)
                  have HT6 := Lib.hid (hT5'.below b6)
                  have HS6 := Lib.hid (HSQ.out.below B6.out)
                  have hQl := (Array.getElem?_eq_some_iff.1 HEQ.out).1
                  have HM6 : Hid (MB w6 M (fun q => q < wq.heap.size ∧ q ≠ M ∧ q ≠ R) nodes flows win que node ep up hops) := Lib.hid ((HSQ.out.m.mono (ok' := fun q => q < wq.heap.size ∧ q ≠ M ∧ q ≠ R) (fun q hq hl => ⟨hl, hq⟩) (fun hh => hh.2.1 rfl)).below B6.out)
                  have HT26 := Lib.hid (HTQ.out.below B6.out)
                  obtain ⟨c, ep', up', hops', hin', htk, hrt⟩ := both_take (ok2 := fun q => q < w.heap.size) (R := R) (vt2 := .agg #[.int .u64 (ep2 : Int), .slice AU nU cU, .slice AH nH cH]) HM6.out HS6.out.inr (fun hh => by have := HLM.out; omega) (HT6.out.tv HFW.out.1 HFW.out.2.1 HFW.out.2.2) HFW.out.1 HFW.out.2.1 HFW.out.2.2 (by omega)
                  have hcc : (c == c) = true := beq_self_eq_true _
                  have hcn : (c != c) = false := by simp
                  have HIN := Lib.hid hin'
                  clear how hT5 hT5' b5 q2 q3 q4
                  go_upto_region 16 with (fail)
                  try rw [HW6.out]
                  obtain ⟨G, hG⟩ : ∃ G, w5.heap.size = G := ⟨_, rfl⟩
                  try rw [hG]
                  rw [hG] at e6
                  have HK : Hid (∀ W, Chg (fun q => q = M ∨ q = R) w6 W → (W.cell? ⟨G, 0, none⟩ = some (.int .u64 (ep2 : Int)) ∧ W.cell? ⟨G, 1, none⟩ = some (.slice AG nG cG) ∧ W.cell? ⟨G, 2, none⟩ = some (.slice AI nI cI) ∧ W.cell? ⟨Q, 2, none⟩ = some (.int .u64 (ep2 : Int)) ∧ W.cell? ⟨Q, 3, none⟩ = some (.slice AU nU cU) ∧ W.cell? ⟨Q, 4, none⟩ = some (.slice AH nH cH))) := Lib.hid fun W hc => by
                    have h1 : W.heap[G]? = _ := (hc.block G (Array.getElem?_eq_some_iff.1 e6).1 fun e => by have := HQL.out; omega).trans e6
                    have h := (hc.block Q (by omega) fun e => by have := HQL.out; omega).trans ((B6.out.block Q hQl).trans HEQ.out)
                    exact ⟨by simp [World.cell?, h1], by simp [World.cell?, h1], by simp [World.cell?, h1], by simp [World.cell?, h], by simp [World.cell?, h], by simp [World.cell?, h]⟩
                  have HG := Lib.hid hG
                  clear hw6 e6 b6 hin'
                  go_region_held3 (fun w' => w'.cell? ⟨G, 0, none⟩ = some (.int .u64 (ep2 : Int)) ∧ w'.cell? ⟨G, 1, none⟩ = some (.slice AG nG cG) ∧ w'.cell? ⟨G, 2, none⟩ = some (.slice AI nI cI) ∧ w'.cell? ⟨Q, 2, none⟩ = some (.int .u64 (ep2 : Int)) ∧ w'.cell? ⟨Q, 3, none⟩ = some (.slice AU nU cU) ∧ w'.cell? ⟨Q, 4, none⟩ = some (.slice AH nH cH))
                    (first | exact HK.out _ (Chg.refl _ _) | exact HK.out _ ((Chg.refl _ _).drew) | exact HK.out _ C7.out | exact HK.out _ C8.out)
                    (first
                    | (go_at_call 8; (with_reducible refine htk.mono ?_); rintro e w7 ⟨rfl, hm7, c7⟩; have M7 := Lib.hid hm7; have CM := Lib.hid c7; have C7 := Lib.hid (c7.mono (T := fun q => q = M ∨ q = R) fun _ _ h => .inl h); have HR7 := Lib.hid (HS6.out.r.chg c7 fun q _ e => by have e : q = M := e; have := HLM.out; exact ⟨by omega, fun hh => by omega⟩); have HT7 := Lib.hid (HT26.out.keepT c7.size fun q hq hl => c7.block q hl fun e => by have e : q = M := e; have := HLM.out; omega); have hrt7 := hrt w7 HR7.out HT7.out; clear hm7 c7)
                    | (go_at_call 9; (with_reducible refine hrt7.mono ?_); rintro e w8 ⟨rfl, hr8, c8⟩; have R8 := Lib.hid hr8; have CR := Lib.hid c8; have C8 := Lib.hid (C7.out.trans c8 fun _ _ h => .inr h); clear hr8 c8))
                  have hs7 := C7.out.size
                  have hs8 := C8.out.size
                  have M8 := Lib.hid (M7.out.chg CR.out fun q hq e => by have e : q = R := e; have := HLM.out; have := HQL.out; exact ⟨by omega, fun hh => by omega⟩)
                  have HT8 := Lib.hid (HT6.out.chg C8.out fun q hl hq e => by have := HQL.out; omega)
                  have HB8 : Hid (Below w.heap.size w w8) := Lib.hid (C8.out.below HS6.out.b HS6.out.b.size fun q hq => by have := HLM.out; omega)
                  have HL8 := Lib.hid (HS6.out.l.chg C8.out fun q hl hq e => by have := HLM.out; omega)
                  have HP8 : Hid (PS w w8 M R nodes flows win que node (some ⟨b, o, none⟩) nL acts ep' up' hops') := Lib.hid ⟨M8.out.mono (fun q hq _ => hq.elim (fun h => h.2) fun h => by have := HQL.out; exact ⟨by omega, by omega⟩) (fun h => h.1 rfl), R8.out, HIN.out, HB8.out, HL8.out⟩
                  obtain ⟨g0, g1, g2, _⟩ := HK.out w8 C8.out
                  have hsp := spoil_calls w8 _ _ (ep2 : Int) up2 hops2 HT8.out HFW.out.1 HFW.out.2.1 HFW.out.2.2
                  clear htk hrt hrt7
                  go_wp2_with fail
                  refine hsp.mono ?_
                  rintro e w9 ⟨rfl, c9⟩
                  have HP9 := Lib.hid (HP8.out.chg M8.out (fun q hq => hq.elim (fun h => h.2) fun h => by have := HQL.out; exact ⟨by omega, by omega⟩) c9 fun q hl hq => by
                    have := HQL.out
                    have := HG.out
                    have := HSQ.out.b.size
                    exact ⟨by omega, by omega, by omega, fun hh => by omega⟩)
                  clear hsp c9 g0 g1 g2
                  go_wp2_with fail
                  go_meet
                  exact ⟨rfl, ep', up', hops', HP9⟩
              · have hx0 : (what == 0) = false := beq_eq_false_iff_ne.2 hw0
                by_cases hw1 : what = 1
                · subst hw1
                  as_aux_lemma =>
                    obtain ⟨r, hr⟩ : ∃ r, ofRes flows node ep hops kind frm dst fep fl = r := ⟨_, rfl⟩
                    have hof := of_calls wq.drew M _ _ _ _ _ _ _ _ _ HSQ.out.drew.m ⟨life, gen, seq, fo, te, A, nA, cA, B, nB, cB, C, nC, cC, D, nD, cD, E, nE, cE⟩ kind frm dst fep fl hfl2
                    have HRO : Hid (∀ W, Below wq.heap.size wq W → Calls Tryz.prog 12 #[.pointer (some ⟨R, 0, none⟩), .agg #[.int .i64 kind, .int .i64 frm, .int .i64 dst, .int .u64 fep, .int .u64 life, .int .i64 fl, .int .u64 gen, .int .u64 seq, .int .u64 fo, .slice A nA cA, .slice B nB cB, .slice C nC cC, .int .u64 te, .slice D nD cD, .slice E nE cE]] W fun e w' => e = .returned (.int .i64 r) ∧ Below W.heap.size W w') := Lib.hid fun W hb => by
                      have := rmof_calls W R _ _ _ _ _ _ _ _ _ (HSQ.out.r.below hb) ⟨life, gen, seq, fo, te, A, nA, cA, B, nB, cB, C, nC, cC, D, nD, cD, E, nE, cE⟩ kind frm dst fep fl hfl2
                      rw [hr] at this
                      exact this
                    rw [hr] at hof
                    unfold FrR.val at hof
                    simp only at hof
                    have hcc : (r == r) = true := beq_self_eq_true _
                    have hcn : (r != r) = false := by simp
                    have HK : Hid (∀ W, Below wq.heap.size wq W → (W.cell? ⟨Q, 5, none⟩ = some (.int .i64 kind) ∧ W.cell? ⟨Q, 6, none⟩ = some (.int .i64 frm) ∧ W.cell? ⟨Q, 7, none⟩ = some (.int .i64 dst) ∧ W.cell? ⟨Q, 8, none⟩ = some (.int .u64 fep) ∧ W.cell? ⟨Q, 9, none⟩ = some (.int .u64 life) ∧ W.cell? ⟨Q, 10, none⟩ = some (.int .i64 fl) ∧ W.cell? ⟨Q, 11, none⟩ = some (.int .u64 gen) ∧ W.cell? ⟨Q, 12, none⟩ = some (.int .u64 seq) ∧ W.cell? ⟨Q, 13, none⟩ = some (.int .u64 fo) ∧ W.cell? ⟨Q, 14, none⟩ = some (.slice A nA cA) ∧ W.cell? ⟨Q, 15, none⟩ = some (.slice B nB cB) ∧ W.cell? ⟨Q, 16, none⟩ = some (.slice C nC cC) ∧ W.cell? ⟨Q, 17, none⟩ = some (.int .u64 te) ∧ W.cell? ⟨Q, 18, none⟩ = some (.slice D nD cD) ∧ W.cell? ⟨Q, 19, none⟩ = some (.slice E nE cE))) := Lib.hid fun W hb => by
                      have h := (hb.block Q (Array.getElem?_eq_some_iff.1 HEQ.out).1).trans HEQ.out
                      exact ⟨by simp [World.cell?, h], by simp [World.cell?, h], by simp [World.cell?, h], by simp [World.cell?, h], by simp [World.cell?, h], by simp [World.cell?, h], by simp [World.cell?, h], by simp [World.cell?, h], by simp [World.cell?, h], by simp [World.cell?, h], by simp [World.cell?, h], by simp [World.cell?, h], by simp [World.cell?, h], by simp [World.cell?, h], by simp [World.cell?, h]⟩
                    clear hr
                    go_upto_region 20 with (fail)
                    go_region_held3 (fun w' => w'.cell? ⟨Q, 5, none⟩ = some (.int .i64 kind) ∧ w'.cell? ⟨Q, 6, none⟩ = some (.int .i64 frm) ∧ w'.cell? ⟨Q, 7, none⟩ = some (.int .i64 dst) ∧ w'.cell? ⟨Q, 8, none⟩ = some (.int .u64 fep) ∧ w'.cell? ⟨Q, 9, none⟩ = some (.int .u64 life) ∧ w'.cell? ⟨Q, 10, none⟩ = some (.int .i64 fl) ∧ w'.cell? ⟨Q, 11, none⟩ = some (.int .u64 gen) ∧ w'.cell? ⟨Q, 12, none⟩ = some (.int .u64 seq) ∧ w'.cell? ⟨Q, 13, none⟩ = some (.int .u64 fo) ∧ w'.cell? ⟨Q, 14, none⟩ = some (.slice A nA cA) ∧ w'.cell? ⟨Q, 15, none⟩ = some (.slice B nB cB) ∧ w'.cell? ⟨Q, 16, none⟩ = some (.slice C nC cC) ∧ w'.cell? ⟨Q, 17, none⟩ = some (.int .u64 te) ∧ w'.cell? ⟨Q, 18, none⟩ = some (.slice D nD cD) ∧ w'.cell? ⟨Q, 19, none⟩ = some (.slice E nE cE))
                      (first | exact HK.out _ (Below.refl _ _) | exact HK.out _ (Below.refl _ _).drew | exact HK.out _ B7.out | exact HK.out _ B8.out)
                      (first
                      | (go_at_call 11; (with_reducible refine hof.mono ?_); rintro e w7 ⟨rfl, b7⟩; have B7 := Lib.hid (stepB1 b7); have hro := HRO.out w7 B7.out; clear b7)
                      | (go_at_call 12; (with_reducible refine hro.mono ?_); rintro e w8 ⟨rfl, b8⟩; have B8 := Lib.hid (belowThen B7.out B7.out.size b8); clear b8))
                    clear hof hro
                    go_wp2_with fail
                    go_meet
                    exact ⟨rfl, ep, up, hops, Lib.hid (HSQ.out.below B8.out)⟩
                · have hx1 : (what == 1) = false := beq_eq_false_iff_ne.2 hw1
                  by_cases hw2 : what = 2
                  · subst hw2
                    as_aux_lemma =>
                      have c1 := (mnext_calls wq.drew M _ _ _ _ _ _ _ _ _ HSQ.out.drew.m flow hfl1).mono fun e w' h => RetI.ls h
                      have C2 : Hid (∀ W, Below wq.heap.size wq W → Calls Tryz.prog 15 #[.pointer (some ⟨R, 0, none⟩), .int .i64 flow] W (RetLs W (nextOf hops flow node))) := Lib.hid fun W hb => (rmnext_calls W R _ _ _ _ _ _ _ _ _ (HSQ.out.r.below hb) flow _ (HSQ.out.inr.next flow node).1 (HSQ.out.inr.next flow node).2).mono fun e w' h => RetI.ls h
                      have C4 : Hid (∀ W, Below wq.heap.size wq W → Calls Tryz.prog 16 #[.pointer (some ⟨M, 0, none⟩), .int .i64 flow] W (RetLs W (prevOf hops flow node))) := Lib.hid fun W hb => (mprev_calls W M _ _ _ _ _ _ _ _ _ (HSQ.out.m.below hb) flow hfl1).mono fun e w' h => RetI.ls h
                      have C5 : Hid (∀ W, Below wq.heap.size wq W → Calls Tryz.prog 17 #[.pointer (some ⟨R, 0, none⟩), .int .i64 flow] W (RetLs W (prevOf hops flow node))) := Lib.hid fun W hb => (rmprev_calls W R _ _ _ _ _ _ _ _ _ (HSQ.out.r.below hb) flow _ (HSQ.out.inr.prev flow node).1 (HSQ.out.inr.prev flow node).2).mono fun e w' h => RetI.ls h
                      have HK : Hid (∀ W, Below wq.heap.size wq W → W.cell? ⟨Q, 1, none⟩ = some (.int .i64 flow)) := Lib.hid fun W hb => by
                        have h := (hb.block Q (Array.getElem?_eq_some_iff.1 HEQ.out).1).trans HEQ.out
                        simp [World.cell?, h]
                      go_upto_region 23 with (fail)
                      go_region_held3 (fun w' => w'.cell? ⟨Q, 1, none⟩ = some (.int .i64 flow))
                        (first | exact HK.out _ (Below.refl _ _) | exact HK.out _ (Below.refl _ _).drew | exact HK.out _ D1.out | exact HK.out _ D2.out | exact HK.out _ D3.out | exact HK.out _ D4.out | exact HK.out _ D5.out | exact HK.out _ D6.out)
                        (first
                        | (go_at_call 14; (with_reducible refine c1.mono ?_); rintro e w1 ⟨A1, n1, k1, rfl, HR1, b1⟩; have D1 := Lib.hid (stepB1 b1); have c2 := C2.out w1 D1.out; clear b1)
                        | (go_at_call 15; (with_reducible refine c2.mono ?_); rintro e w2 ⟨A2, n2, k2, rfl, HR2, b2⟩; have D2 := Lib.hid (belowThen D1.out D1.out.size b2); have c3 := sameB_calls w2 A1 A2 n1 k1 n2 k2 _ (HR1.out.below b2) HR2.out; clear b2)
                        | (go_at_call 13; first | ((with_reducible refine c3.mono ?_); rintro e w3 ⟨rfl, b3⟩; have D3 := Lib.hid (belowThen D2.out D2.out.size b3); have c4 := C4.out w3 D3.out; clear b3) | ((with_reducible refine c6.mono ?_); rintro e w6 ⟨rfl, b6⟩; have D6 := Lib.hid (belowThen D5.out D5.out.size b6); clear b6))
                        | (go_at_call 16; (with_reducible refine c4.mono ?_); rintro e w4 ⟨A4, n4, k4, rfl, HR4, b4⟩; have D4 := Lib.hid (belowThen D3.out D3.out.size b4); have c5 := C5.out w4 D4.out; clear b4)
                        | (go_at_call 17; (with_reducible refine c5.mono ?_); rintro e w5 ⟨A5, n5, k5, rfl, HR5, b5⟩; have D5 := Lib.hid (belowThen D4.out D4.out.size b5); have c6 := sameB_calls w5 A4 A5 n4 k4 n5 k5 _ (HR4.out.below b5) HR5.out; clear b5))
                      clear c1 c2 c3 c4 c5 c6
                      go_wp2_with fail
                      go_meet
                      exact ⟨rfl, ep, up, hops, Lib.hid (HSQ.out.below D6.out)⟩
                  · have hx0 : (what == 0) = false := beq_eq_false_iff_ne.2 hw0
                    have hx1 : (what == 1) = false := beq_eq_false_iff_ne.2 hw1
                    have hx2 : (what == 2) = false := beq_eq_false_iff_ne.2 hw2
                    go_wp2_with fail
                    go_meet
                    exact ⟨rfl, ep, up, hops, HSQ⟩
            case rest =>
              obtain ⟨rfl, epn, upn, hopsn, HPN⟩ := hcut
              as_aux_lemma =>
                have htp := mtopo_calls wc M _ _ _ _ _ _ _ _ _ HPN.out.m
                go_wp2_with fail
                refine htp.mono ?_
                rintro e wt ⟨tv, rfl, hT, bt⟩
                have hTS := hT.range2
                obtain ⟨AT, nT, cT, BT, mT, dT, rfl⟩ := hTS.agg
                obtain ⟨w6, hw6⟩ : ∃ w6, wt.alloc (.cells #[.int .u64 epn, .slice AT nT cT, .slice BT mT dT] 38) = w6 := ⟨_, rfl⟩
                have b6 : Below wt.heap.size wt w6 := by rw [← hw6]; exact (Below.refl _ _).alloc (Nat.le_refl _) _
                have e6 : w6.heap[wt.heap.size]? = some (.cells #[.int .u64 epn, .slice AT nT cT, .slice BT mT dT] 38 (0, 0)) := by rw [← hw6]; exact heap_alloc_new wt _
                have hst := bt.size
                have B6 := Lib.hid (belowThen bt bt.size b6)
                have HPT := Lib.hid (HPN.out.below B6.out)
                have HTS := Lib.hid (hTS.below b6)
                have HTT := Lib.hid (HTS.out.tv HPT.out.m.few HPT.out.m.big.2 HPT.out.m.big.1)
                obtain ⟨_, _, _, AU9, nU9, cU9, AH9, nH9, cH9, hF9, _, l1, l2, _, r1, r2⟩ := HPT.out.r.facts
                have HRT : Hid (TopoV w6 (fun q => q < w.heap.size) (.agg #[.int .u64 epn, .slice AU9 nU9 cU9, .slice AH9 nH9 cH9]) epn upn hopsn) := Lib.hid ⟨_, _, _, _, _, _, rfl, l1, l2, r1, r2⟩
                have HR9 := Lib.hid (And.intro hF9.c5 (And.intro hF9.c6 hF9.c7))
                have c1 := HPT.out.drew.m.epochB
                have hee : (epn == epn) = true := beq_self_eq_true _
                have hen : (epn != epn) = false := by simp
                have hnn : (node == node) = true := beq_self_eq_true _
                have hnn2 : (node != node) = false := by simp
                have HML := Lib.hid (And.intro HPN.out.m.lt HPN.out.r.lt)
                clear htp hT hTS bt hF9 l1 l2 r1 r2
                go_upto_region 26 with (fail)
                try rw [hw6]
                obtain ⟨T, hT'⟩ : ∃ T, wt.heap.size = T := ⟨_, rfl⟩
                try rw [hT']
                rw [hT'] at e6
                have HT := Lib.hid hT'
                have HK : Hid (∀ w', Below w6.heap.size w6 w' → (w'.cell? ⟨R, 5, none⟩ = some (.int .u64 epn) ∧ w'.cell? ⟨R, 6, none⟩ = some (.slice AU9 nU9 cU9) ∧ w'.cell? ⟨R, 7, none⟩ = some (.slice AH9 nH9 cH9) ∧ w'.cell? ⟨T, 0, none⟩ = some (.int .u64 epn) ∧ w'.cell? ⟨T, 1, none⟩ = some (.slice AT nT cT) ∧ w'.cell? ⟨T, 2, none⟩ = some (.slice BT mT dT))) := Lib.hid fun W hb => by
                  have h := (hb.block T (Array.getElem?_eq_some_iff.1 e6).1).trans e6
                  exact ⟨cellBelow hb HR9.out.1, cellBelow hb HR9.out.2.1, cellBelow hb HR9.out.2.2, by simp [World.cell?, h], by simp [World.cell?, h], by simp [World.cell?, h]⟩
                clear hw6 e6 b6 hT'
                go_region_held3 (fun w' => w'.cell? ⟨R, 5, none⟩ = some (.int .u64 epn) ∧ w'.cell? ⟨R, 6, none⟩ = some (.slice AU9 nU9 cU9) ∧ w'.cell? ⟨R, 7, none⟩ = some (.slice AH9 nH9 cH9) ∧ w'.cell? ⟨T, 0, none⟩ = some (.int .u64 epn) ∧ w'.cell? ⟨T, 1, none⟩ = some (.slice AT nT cT) ∧ w'.cell? ⟨T, 2, none⟩ = some (.slice BT mT dT))
                  (first | exact HK.out _ (Below.refl _ _) | exact HK.out _ (Below.refl _ _).drew | exact HK.out _ D1.out | exact HK.out _ D2.out | exact HK.out _ D3.out | exact HK.out _ D4.out | exact HK.out _ D5.out | exact HK.out _ D6.out | exact HK.out _ D7.out | exact HK.out _ D8.out | exact HK.out _ D9.out)
                  (first
                  | (go_at_call 19; (with_reducible refine c1.mono ?_); rintro e w1 ⟨rfl, b1⟩; have D1 := Lib.hid (stepB1 b1); have c2 := (HPT.out.m.below D1.out).nodeB; clear b1)
                  | (go_at_call 20; (with_reducible refine c2.mono ?_); rintro e w2 ⟨rfl, b2⟩; have D2 := Lib.hid (belowThen D1.out D1.out.size b2); have c3 := rsameB_calls w2 _ _ _ _ _ _ _ (HTT.out.below D2.out) (HRT.out.below D2.out); clear b2)
                  | (go_at_call 21; (with_reducible refine c3.mono ?_); rintro e w3 ⟨rfl, b3⟩; have D3 := Lib.hid (belowThen D2.out D2.out.size b3); have c4 := (mnexts_calls w3 M _ _ _ _ _ _ _ _ _ (HPT.out.m.below D3.out)).mono fun e w' h => RetI.ls h; clear b3)
                  | (go_at_call 22; (with_reducible refine c4.mono ?_); rintro e w4 ⟨A4, n4, k4, rfl, HR4, b4⟩; have D4 := Lib.hid (belowThen D3.out D3.out.size b4); have c5 := (rmnexts_calls w4 R _ _ _ _ _ _ _ _ _ (HPT.out.r.below D4.out) _ (HPT.out.inr.nexts node).1 (HPT.out.inr.nexts node).2).mono fun e w' h => RetI.ls h; clear b4)
                  | (go_at_call 23; (with_reducible refine c5.mono ?_); rintro e w5 ⟨A5, n5, k5, rfl, HR5, b5⟩; have D5 := Lib.hid (belowThen D4.out D4.out.size b5); have c6 := sameB_calls w5 A4 A5 n4 k4 n5 k5 _ (HR4.out.below b5) HR5.out; clear b5)
                  | (go_at_call 13; first | ((with_reducible refine c6.mono ?_); rintro e w6 ⟨rfl, b6⟩; have D6 := Lib.hid (belowThen D5.out D5.out.size b6); have c7 := (mprevs_calls w6 M _ _ _ _ _ _ _ _ _ (HPT.out.m.below D6.out)).mono fun e w' h => RetI.ls h; clear b6) | ((with_reducible refine c9.mono ?_); rintro e w9 ⟨rfl, b9⟩; have D9 := Lib.hid (belowThen D8.out D8.out.size b9); clear b9))
                  | (go_at_call 24; (with_reducible refine c7.mono ?_); rintro e w7 ⟨A7, n7, k7, rfl, HR7, b7⟩; have D7 := Lib.hid (belowThen D6.out D6.out.size b7); have c8 := (rmprevs_calls w7 R _ _ _ _ _ _ _ _ _ (HPT.out.r.below D7.out) _ (HPT.out.inr.prevs node).1 (HPT.out.inr.prevs node).2).mono fun e w' h => RetI.ls h; clear b7)
                  | (go_at_call 25; (with_reducible refine c8.mono ?_); rintro e w8 ⟨A8, n8, k8, rfl, HR8, b8⟩; have D8 := Lib.hid (belowThen D7.out D7.out.size b8); have c9 := sameB_calls w8 A7 A8 n7 k7 n8 k8 _ (HR7.out.below b8) HR8.out; clear b8))
                obtain ⟨_, _, _, t0, t1, t2⟩ := HK.out w9 D9.out
                have HT9 := Lib.hid (HTS.out.below D9.out)
                have HP9 := Lib.hid (HPT.out.below D9.out)
                have HM9 : Hid (MB w9 M (fun q => q < wc.heap.size ∧ q ≠ M ∧ q ≠ R) nodes flows win que node epn upn hopsn) := Lib.hid ((HPN.out.m.mono (ok' := fun q => q < wc.heap.size ∧ q ≠ M ∧ q ≠ R) (fun q hq hl => ⟨hl, hq⟩) (fun hh => hh.2.1 rfl)).below (belowThen B6.out B6.out.size D9.out))
                have hsp := spoil_calls w9 _ _ epn upn hopsn HT9.out HP9.out.m.few HP9.out.m.big.2 HP9.out.m.big.1
                clear c1 c2 c3 c4 c5 c6 c7 c8 c9
                go_wp2_with fail
                refine hsp.mono ?_
                rintro e wz ⟨rfl, cz⟩
                have HPZ := Lib.hid (HP9.out.chg HM9.out (fun q hq => hq.2) cz fun q hl hq => by
                  have := HML.out
                  have := HPN.out.b.size
                  exact ⟨by omega, by omega, by omega, fun hh => by omega⟩)
                clear hsp cz t0 t1 t2
                go_wp2_with fail
                go_roundg (nL - (k + 1))
                case measure => omega
                case rel => exact ⟨k + 1, epn, upn, hopsn, by omega, by omega, by omega, by go_num, HPZ⟩
        · have hkli : ¬ ((k : Int) < (nL : Int)) := by omega
          go_wp2_with fail
          go_ret
          exact ⟨rfl, HPS.out.b⟩
end Go.Proofs.YthgnjojkncodeaaGreat
