/-
  The walk of NetPlays.
-/
import Derived.Test.YtmkmbnfmmibifaaNetL
import Derived.Deep.CutBlock
import Derived.Deep.LoopGhost
namespace Go.Proofs.Ytmkmbnfmmibifaa
open Go.RowKit

abbrev TO : TypeId := 30
set_option maxRecDepth 100000 in
theorem netPlays_bad (w : World) (z : Int) (A : Option Addr) (n c : Nat) (h : z < 1 ∨ 64 < z) :
    Calls Try.prog 4 #[.int .i64 z, .slice A n c] w fun e w' => e = .returned (.bool true) ∧ Below w.heap.size w w' := by
  have hn := New_bad w z h
  have hr := rNew_bad w z h
  go_enter Try.func4, Try.ntmps4
  go_wp2_with fail
  refine hn.mono ?_
  rintro e w' ⟨rfl, rfl⟩
  go_wp2_with fail
  refine hr.mono ?_
  rintro e w' ⟨rfl, rfl⟩
  go_wp2_with fail
  refine (wakes_calls w).mono ?_
  rintro e w1 ⟨rfl, hb⟩
  go_wp2_with fail
  go_ret
  exact ⟨rfl, hb⟩
/-- The block x holds the call o. -/
def BoxO (w : World) (x : Nat) (o : Opr) (u : Value) : Prop := w.heap[x]? = some (.cells #[.int .i64 o.1, .int .i64 o.2.1, .int .i64 o.2.2.1, .int .i64 o.2.2.2.1, u] TO (0, 0))
section
variable {S : Nat → Prop} {w w' : World} {x : Nat} {o : Opr} {u : Value}
theorem BoxO.cells (h : BoxO w x o u) : w.cell? ⟨x, 0, none⟩ = some (.int .i64 o.1) ∧ w.cell? ⟨x, 1, none⟩ = some (.int .i64 o.2.1) ∧ w.cell? ⟨x, 2, none⟩ = some (.int .i64 o.2.2.1) ∧ w.cell? ⟨x, 3, none⟩ = some (.int .i64 o.2.2.2.1) ∧ w.cell? ⟨x, 4, none⟩ = some u := by
  unfold BoxO at h
  exact ⟨by simp [World.cell?, h], by simp [World.cell?, h], by simp [World.cell?, h], by simp [World.cell?, h], by simp [World.cell?, h]⟩
theorem BoxO.lt (h : BoxO w x o u) : x < w.heap.size := by
  unfold BoxO at h
  exact (Array.getElem?_eq_some_iff.1 h).1
theorem BoxO.chg (h : BoxO w x o u) (hc : Chg S w w') (hs : ¬ S x) : BoxO w' x o u := (hc.block x h.lt hs).trans h
theorem BoxO.below (h : BoxO w x o u) (hb : Below w.heap.size w w') : BoxO w' x o u := h.chg (Chg.ofBelow (S := NoB) hb) id
theorem BoxO.made (w : World) (o : Opr) (u : Value) : BoxO (w.alloc (.cells #[.int .i64 o.1, .int .i64 o.2.1, .int .i64 o.2.2.1, .int .i64 o.2.2.2.1, u] TO)) w.heap.size o u := heap_alloc_new w _
end
theorem rawCells {w : World} {ok ok' : Nat → Prop} {vss : List (List Value)} {R : List Raw} (h : Cells elRaw w ok vss R) : Cells elRaw w ok' vss R := by
  induction h with
  | nil => exact .nil
  | cons hv _ ih => exact .cons (show elRaw.V w ok' _ _ from hv) ih
theorem Own.tight {T : TypeId} {w : World} {S : Nat → Prop} {v : Value} {R : List Raw} (h : Own elRaw T w S v R) : Own elRaw T w (okS v) v R := by
  obtain ⟨vss, h1, h2, h3⟩ := h
  exact ⟨vss, rawCells h1, h2, fun g hg => hg⟩
theorem Rd.below2 {α : Type} {E : El α} {w W : World} {A : Option Addr} {n : Nat} {xs : List α} (h : Rd E w (fun k => k < w.heap.size) A n xs) (hb : Below w.heap.size w W) : Rd E W (fun k => k < w.heap.size) A n xs := h.keep hb.size fun k hk _ => hb.block k hk
set_option maxRecDepth 100000 in
set_option maxHeartbeats 16000000 in
theorem netPlays_good (w : World) (z : Int) (A : Option Addr) (n c : Nat) (os : List Opr) (h1 : 1 ≤ z) (h2 : z ≤ 64) (hr : Rd elOp w (fun k => k < w.heap.size) A n os) (hc : n ≤ c) (hB : ∀ o ∈ os, o.2.2.2.2.length ≤ 1048576) (hn : n ≤ 1048576) :
    Calls Try.prog 4 #[.int .i64 z, .slice A n c] w fun e w' => e = .returned (.bool true) ∧ Below w.heap.size w w' := by
  have HB := Lib.hid hB
  clear hB
  go_enter Try.func4, Try.ntmps4
  go_wp2_with fail
  refine (New_calls w z h1 h2).mono ?_
  rintro e w1 ⟨rfl, hn1, hb1⟩
  go_wp2_with fail
  refine (rNew_calls w1 z h1 h2).mono ?_
  rintro e w2 ⟨rfl, hn2, hb2⟩
  have hT : Two w w2 NoB (fun k => k = w.heap.size) (fun k => k = w1.heap.size) w.heap.size w1.heap.size z (.slice none 0 0) (.slice none 0 0) [] :=
    ⟨hn1.below hb2, hn2, fun k hk => by omega, fun k hk => by have := hb1.size; omega, fun k hk hh => by have := hn1.plt; omega, fun k hk => hk.elim, stepBelow hb1 hb2⟩
  have hP1 := hn1.plt
  clear hn1 hn2 hb1 hb2
  go_wp2_with fail
  refine (wakes_calls w2).mono ?_
  rintro e w3 ⟨rfl, hb3⟩
  have hT3 := (hT.below hb3).both
  clear hT hb3
  go_wp2_with fail
  go_loopg [5, 9] n (fun g s5 s9 wr => ∃ (k P : Nat) (L : List Par), k ≤ n ∧ k ≤ 80 ∧ g = n - k ∧ s9 = .int .i64 (k : Int) ∧ s5 = .pointer (some ⟨P, 0, none⟩) ∧ Both w wr NoB P w1.heap.size z L ∧ Small L ∧ L.length ≤ k)
  case atStart => exact ⟨0, _, [], Nat.zero_le _, by omega, by omega, rfl, rfl, hT3, fun p hp => (by cases hp), Nat.le_refl _⟩
  case round =>
    obtain ⟨k, P, L, hkn, hk80, hgk, rfl, rfl, hB2, hsm, hLk⟩ := hrel
    obtain ⟨wq, hwq⟩ : ∃ wq, wq = wr := ⟨_, rfl⟩
    subst hwq
    by_cases hlt : k < n
    · by_cases hlt80 : k < 80
      · obtain ⟨o, ho⟩ : ∃ o, os[k]? = some o := ⟨_, List.getElem?_eq_getElem (by rw [hr.len]; exact hlt)⟩
        have hbo := HB.out o (List.mem_of_getElem? ho)
        obtain ⟨S, S2, v, v2, hT⟩ := hB2
        obtain ⟨b, off, vs, hA, _, _, hV, hcl⟩ := (hr.below2 hT.bel).at_ k o ho
        obtain ⟨Ab, nb, cb, rfl, hncb, hi1, hi2, hi3, hi4, hrb⟩ := op_open hV
        subst hA
        have k0 : wq.cell? ⟨b, off + k * 5, none⟩ = some (.int .i64 o.1) := hcl 0 _ rfl
        have k1 : wq.cell? ⟨b, off + k * 5 + 1, none⟩ = some (.int .i64 o.2.1) := hcl 1 _ rfl
        have k2 : wq.cell? ⟨b, off + k * 5 + 2, none⟩ = some (.int .i64 o.2.2.1) := hcl 2 _ rfl
        have k3 : wq.cell? ⟨b, off + k * 5 + 3, none⟩ = some (.int .i64 o.2.2.2.1) := hcl 3 _ rfl
        have k4 : wq.cell? ⟨b, off + k * 5 + 4, none⟩ = some (.slice Ab nb cb) := hcl 4 _ rfl
        have hnb : nb ≤ 1048576 := by rw [← hrb.len]; exact hbo
        have hi80 : (k : Int) < 80 := by omega
        have hX := allocBelow' wq (.cells #[.int .i64 o.1, .int .i64 o.2.1, .int .i64 o.2.2.1, .int .i64 o.2.2.2.1, .slice Ab nb cb] TO)
        have hrX := hrb.below hX
        have hnil := OwnB.nil (wq.alloc (.cells #[.int .i64 o.1, .int .i64 o.2.1, .int .i64 o.2.2.1, .int .i64 o.2.2.2.1, .slice Ab nb cb] TO)) wq.heap.size
        have hlB : ([] : List UInt8).length + nb ≤ 140737488355328 := by simp; omega
        have hzX := hX.size
        clear hV hcl hbo
        have hbox := BoxO.made wq o (.slice Ab nb cb)
        go_upto_block 2 with
          (at_builtin; refine appB (w0 := wq) wq.heap.size wq.heap.size rfl _ _ rfl (.slice none 0 0) [] o.2.2.2.2 Ab nb cb rfl rfl hnil hrX hX hzX (Nat.le_refl _) hlB ?_; intro vm wM hom hbM hgM _;
            have hbXM := (Below.refl (wq.alloc (.cells #[.int .i64 o.1, .int .i64 o.2.1, .int .i64 o.2.2.1, .int .i64 o.2.2.2.1, .slice Ab nb cb] TO)).heap.size (wq.alloc (.cells #[.int .i64 o.1, .int .i64 o.2.1, .int .i64 o.2.2.1, .int .i64 o.2.2.2.1, .slice Ab nb cb] TO))).grown hgM (Nat.le_refl _) (fun q hq => by simp [Value.ownBlock] at hq);
            have hboxM := hbox.below hbXM;
            obtain ⟨q0, q1, q2, q3, q4⟩ := hboxM.cells)
        obtain ⟨Am, cm, rfl, hfbm⟩ := OwnB.asFB (w := wq) (w' := wM) hom nb hrb.len
        have hTM : Two w wM (fun q => q = wq.heap.size ∨ okS (.slice Am nb cm) q) S S2 P w1.heap.size z v v2 L := hT.keep hbM fun q hq => .inr (by
          rcases hq with hq | hq
          · rw [hq]; exact ⟨Nat.le_refl _, hboxM.lt⟩
          · exact hfbm.2.lt q hq)
        have hrM := hrb.below hbM
        have HFB := Lib.hid hfbm
        clear hrb hrX hnil hlB hX hom hgM hbXM hbox k0 k1 k2 k3 k4 hfbm q0 q1 q2 q3 q4
        go_cut [5, 12] (fun s5 s12 wx => ∃ (P' : Nat) (L' : List Par), s5 = .pointer (some ⟨P', 0, none⟩) ∧ s12 = .bool true ∧ Both w wx (fun q => q = wq.heap.size ∨ okS (.slice Am nb cm) q) P' w1.heap.size z L' ∧ Small L' ∧ L'.length ≤ k + 1 ∧ Chg (fun q => ¬ (q = wq.heap.size ∨ okS (.slice Am nb cm) q)) wM wx)
        case first =>
          obtain ⟨q0, q1, q2, q3, q4⟩ := hboxM.cells
          obtain ⟨hrm0, hncm⟩ := HFB.out.rd
          have hrm : RdB wM (New wq wM) Am nb o.2.2.2.2 := hrm0
          have hlt := hTM.net.lt
          have hlt2 := hTM.ref.lt
          have hXS : ¬ S wq.heap.size := (hTM.ks _ (.inl rfl)).2.1
          have hXS2 : ¬ S2 wq.heap.size := (hTM.ks _ (.inl rfl)).2.2
          have hLm : L.length ≤ 4096 := by omega
          have hrMS : ∀ W, Chg S wM W → RdB W (fun k => k < w.heap.size) Ab nb o.2.2.2.2 := fun W hc => hrM.keep hc.size fun k hk _ => hc.block k (Nat.lt_of_lt_of_le hk hTM.bel.size) fun hs => by have := hTM.s k hs; omega
          have HRMS := Lib.hid hrMS
          clear hrm0 hrMS
          by_cases hw0 : o.1 = 0
          · as_aux_lemma =>
              have e0 : (o.1 == 0) = true := by rw [beq_iff_eq]; omega
              clear hw0
              obtain ⟨⟨r0, L'⟩, hres⟩ : ∃ r, sendRes z o.2.1 o.2.2.1 o.2.2.2.2 L = r := ⟨_, rfl⟩
              obtain ⟨hsm', hl'⟩ := sendRes_small hres hsm
              have hsend := Send_calls wM.drew S P z v L hTM.net.drew h1 o.2.1 o.2.2.1 hi2 hi3 Am nb cm o.2.2.2.2 _ hrm.drew r0 L' hres
              have HRES := Lib.hid hres
              clear hres
              go_wp2_with fail
              go_region_held3 (fun w' => w'.cell? ⟨wq.heap.size, 1, none⟩ = some (.int .i64 o.2.1) ∧ w'.cell? ⟨wq.heap.size, 2, none⟩ = some (.int .i64 o.2.2.1) ∧ w'.cell? ⟨wq.heap.size, 4, none⟩ = some (.slice Ab nb cb))
                (first | exact ⟨y1, y2, y4⟩ | exact ⟨q1, q2, q4⟩ | exact ⟨x1, x2, x4⟩)
                (first
                | (go_at_call 7; (with_reducible refine hsend.mono ?_); rintro e w4 ⟨rfl, hr4⟩; have hr4' := hr4.from (Below.refl wM.heap.size wM).drew; obtain ⟨S4, v4, _, h4q, _, _, _, _, _, hc4⟩ := hTM.mid hr4'; obtain ⟨y0, y1, y2, y3, y4⟩ := (hboxM.chg hc4 hXS).cells; have hrs := rSend_calls w4 S2 w1.heap.size z v2 L h4q o.2.1 o.2.2.1 hi2 hi3 Ab nb cb o.2.2.2.2 _ (HRMS.out w4 hc4) r0 L' HRES.out)
                | (go_at_call 15; (with_reducible refine hrs.mono ?_); rintro e w5 ⟨rfl, hr5⟩; have hboth := hTM.next hr4' (Below.refl _ _) hr5; have hbx5 := hboxM.chg hboth.2 (fun hh => hh (.inl rfl)); obtain ⟨x0, x1, x2, x3, x4⟩ := hbx5.cells))
              all_goals
                have HBO := Lib.hid hboth
                clear hboth hr5 hrs hr4' hr4
                go_wp2_with fail
                go_meet
                exact ⟨P, L', rfl, rfl, HBO.out.1, hsm', by omega, HBO.out.2⟩
          · by_cases hw1 : o.1 = 1
            · as_aux_lemma =>
                have e0 : (o.1 == 0) = false := by rw [beq_eq_false_iff_ne]; omega
                have e1 : (o.1 == 1) = true := by rw [beq_iff_eq]; omega
                clear hw0 hw1
                obtain ⟨⟨r0, L'⟩, hres⟩ : ∃ r, sendRes z o.2.1 o.2.2.1 o.2.2.2.2 L = r := ⟨_, rfl⟩
                obtain ⟨hsm', hl'⟩ := sendRes_small hres hsm
                have hsend := Send_calls wM.drew S P z v L hTM.net.drew h1 o.2.1 o.2.2.1 hi2 hi3 Am nb cm o.2.2.2.2 _ hrm.drew r0 L' hres
                have HRES := Lib.hid hres
                clear hres
                go_wp2_with fail
                go_region_held3 (fun w' => w'.cell? ⟨wq.heap.size, 1, none⟩ = some (.int .i64 o.2.1) ∧ w'.cell? ⟨wq.heap.size, 2, none⟩ = some (.int .i64 o.2.2.1) ∧ w'.cell? ⟨wq.heap.size, 4, none⟩ = some (.slice Ab nb cb))
                  (first | exact ⟨y1, y2, y4⟩ | exact ⟨q1, q2, q4⟩ | exact ⟨x1, x2, x4⟩)
                  (first
                  | (go_at_call 7; (with_reducible refine hsend.mono ?_); rintro e w4 ⟨rfl, hr4⟩; have hr4' := hr4.from (Below.refl wM.heap.size wM).drew; obtain ⟨S4, v4, _, h4q, _, _, _, _, _, hc4⟩ := hTM.mid hr4'; obtain ⟨y0, y1, y2, y3, y4⟩ := (hboxM.chg hc4 hXS).cells; have hrs := rSend_calls w4 S2 w1.heap.size z v2 L h4q o.2.1 o.2.2.1 hi2 hi3 Ab nb cb o.2.2.2.2 _ (HRMS.out w4 hc4) r0 L' HRES.out)
                  | (go_at_call 15; (with_reducible refine hrs.mono ?_); rintro e w5 ⟨rfl, hr5⟩; have hboth := hTM.next hr4' (Below.refl _ _) hr5; have hbx5 := hboxM.chg hboth.2 (fun hh => hh (.inl rfl)); obtain ⟨x0, x1, x2, x3, x4⟩ := hbx5.cells))
                all_goals
                  have HBO := Lib.hid hboth
                  clear hboth hr5 hrs hr4' hr4
                  go_wp2_with fail
                  go_meet
                  exact ⟨P, L', rfl, rfl, HBO.out.1, hsm', by omega, HBO.out.2⟩
            · by_cases hw2 : o.1 = 2
              · as_aux_lemma =>
                  have e0 : (o.1 == 0) = false := by rw [beq_eq_false_iff_ne]; omega
                  have e1 : (o.1 == 1) = false := by rw [beq_eq_false_iff_ne]; omega
                  have e2 : (o.1 == 2) = true := by rw [beq_iff_eq]; omega
                  clear hw0 hw1 hw2
                  obtain ⟨⟨r0, L'⟩, hres⟩ : ∃ r, sendRes z o.2.1 o.2.2.1 o.2.2.2.2 L = r := ⟨_, rfl⟩
                  obtain ⟨hsm', hl'⟩ := sendRes_small hres hsm
                  have hsend := Send_calls wM.drew S P z v L hTM.net.drew h1 o.2.1 o.2.2.1 hi2 hi3 Am nb cm o.2.2.2.2 _ hrm.drew r0 L' hres
                  have HRES := Lib.hid hres
                  clear hres
                  go_wp2_with fail
                  go_region_held3 (fun w' => w'.cell? ⟨wq.heap.size, 1, none⟩ = some (.int .i64 o.2.1) ∧ w'.cell? ⟨wq.heap.size, 2, none⟩ = some (.int .i64 o.2.2.1) ∧ w'.cell? ⟨wq.heap.size, 4, none⟩ = some (.slice Ab nb cb))
                    (first | exact ⟨y1, y2, y4⟩ | exact ⟨q1, q2, q4⟩ | exact ⟨x1, x2, x4⟩)
                    (first
                    | (go_at_call 7; (with_reducible refine hsend.mono ?_); rintro e w4 ⟨rfl, hr4⟩; have hr4' := hr4.from (Below.refl wM.heap.size wM).drew; obtain ⟨S4, v4, _, h4q, _, _, _, _, _, hc4⟩ := hTM.mid hr4'; obtain ⟨y0, y1, y2, y3, y4⟩ := (hboxM.chg hc4 hXS).cells; have hrs := rSend_calls w4 S2 w1.heap.size z v2 L h4q o.2.1 o.2.2.1 hi2 hi3 Ab nb cb o.2.2.2.2 _ (HRMS.out w4 hc4) r0 L' HRES.out)
                    | (go_at_call 15; (with_reducible refine hrs.mono ?_); rintro e w5 ⟨rfl, hr5⟩; have hboth := hTM.next hr4' (Below.refl _ _) hr5; have hbx5 := hboxM.chg hboth.2 (fun hh => hh (.inl rfl)); obtain ⟨x0, x1, x2, x3, x4⟩ := hbx5.cells))
                  all_goals
                    have HBO := Lib.hid hboth
                    clear hboth hr5 hrs hr4' hr4
                    go_wp2_with fail
                    go_meet
                    exact ⟨P, L', rfl, rfl, HBO.out.1, hsm', by omega, HBO.out.2⟩
              · by_cases hw3 : o.1 = 3
                · as_aux_lemma =>
                    have e0 : (o.1 == 0) = false := by rw [beq_eq_false_iff_ne]; omega
                    have e1 : (o.1 == 1) = false := by rw [beq_eq_false_iff_ne]; omega
                    have e2 : (o.1 == 2) = false := by rw [beq_eq_false_iff_ne]; omega
                    have e3 : (o.1 == 3) = true := by rw [beq_iff_eq]; omega
                    clear hw0 hw1 hw2 hw3
                    obtain ⟨p, er, hpl, ha1, ha2⟩ := At_both z h1 L hsm o.2.2.2.1
                    have hat := ha1 wM S P v hTM.net
                    go_wp2_with fail
                    refine hat.mono ?_
                    rintro e w4 ⟨A4, n4, c4, rfl, hfb4, hb4⟩
                    obtain rfl : n4 = p.2.2.1.length := hfb4.1.symm
                    obtain ⟨wa, hwa⟩ : ∃ wa, w4.alloc (.cells #[.int .i64 p.1, .int .i64 p.2.1, .slice A4 p.2.2.1.length c4, .bool p.2.2.2] TP) = wa := ⟨_, rfl⟩
                    obtain ⟨ka, xa, _za⟩ := boxT _ _ _ _ _ _ _ hwa
                    have hba := stepBelow hb4 ka
                    have hTa := hTM.below hba
                    have hat2 := ha2 wa S2 w1.heap.size v2 hTa.ref
                    obtain ⟨y0, y1, y2, y3, y4⟩ := (hboxM.below hba).cells
                    have HWA := Lib.hid hwa
                    clear hwa _za hat ha1 ha2
                    go_upto_region 20 with (fail)
                    rw [HWA.out]
                    go_wp2_with fail
                    refine hat2.mono ?_
                    rintro e w5 ⟨B5, n5, c5, rfl, hnc5, hrd5, hb5⟩
                    obtain rfl : n5 = p.2.2.1.length := hrd5.len.symm
                    obtain ⟨w7, hw7⟩ : ∃ w7, w5.alloc (.cells #[.int .i64 p.1, .int .i64 p.2.1, .slice B5 p.2.2.1.length c5, .bool p.2.2.2] TR) = w7 := ⟨_, rfl⟩
                    obtain ⟨k7, x7, _z7⟩ := boxT _ _ _ _ _ _ _ hw7
                    have hb57 := stepBelow hb5 k7
                    have hb7 := stepBelow hba hb57
                    have hT7 := hTM.below hb7
                    have hfb7 := (hfb4.below ka).below hb57
                    have hrd7 := hrd5.below k7
                    obtain ⟨x0, x1, x2, x3, _⟩ := x7.cells
                    obtain ⟨z0, z1, z2, z3, _⟩ := (xa.below hb57).cells
                    have HW7 := Lib.hid hw7
                    clear hw7 _z7 hat2
                    go_upto_region 21 with (fail)
                    rw [HW7.out]
                    have hsame := same_calls w7 p.1 p.2.1 A4 p.2.2.1.length c4 p.2.2.2 B5 c5 wM.heap.size p.2.2.1 _ rfl (by omega) hfb7.2 hrd7
                    go_wp2_with fail
                    refine hsame.mono ?_
                    rintro e w8 ⟨rfl, hc8⟩
                    have hnew : ∀ q, (Value.slice A4 p.2.2.1.length c4).ownBlock = some q → wM.heap.size ≤ q := fun q hq => (hfb7.2.lt q hq).1
                    have hzM := hTM.bel.size
                    have hT8 := hT7.chg hc8 fun q hq => ⟨by have := hnew q hq; omega, fun hs => by have h4 := hlt q hs; have := hnew q hq; omega, fun hs => by have h4 := hlt2 q hs; have := hnew q hq; omega⟩
                    have hch8 : Chg (fun q => ¬ (q = wq.heap.size ∨ okS (.slice Am nb cm) q)) wM w8 := (Chg.ofBelow hb7).trans hc8 fun q hql hq => by have := hnew q hq; omega
                    have HBO := Lib.hid (And.intro hT8.both hch8)
                    have hsm' := hsm
                    obtain ⟨L', hL'⟩ : ∃ L', L' = L := ⟨_, rfl⟩
                    subst hL'
                    clear hT8 hch8 hc8 hT7 hfb7 hrd7 hsame
                    go_wp2_with fail
                    go_meet
                    exact ⟨P, L', rfl, rfl, HBO.out.1, hsm', by omega, HBO.out.2⟩
                · by_cases hw4 : o.1 = 4
                  · as_aux_lemma =>
                      have e0 : (o.1 == 0) = false := by rw [beq_eq_false_iff_ne]; omega
                      have e1 : (o.1 == 1) = false := by rw [beq_eq_false_iff_ne]; omega
                      have e2 : (o.1 == 2) = false := by rw [beq_eq_false_iff_ne]; omega
                      have e3 : (o.1 == 3) = false := by rw [beq_eq_false_iff_ne]; omega
                      have e4 : (o.1 == 4) = true := by rw [beq_iff_eq]; omega
                      clear hw0 hw1 hw2 hw3 hw4
                      obtain ⟨p, er, L', hpl, hsm', hl', ha1, _, ha2⟩ := Deliver_both z h1 L hsm hLm o.2.2.2.1
                      have hat := ha1 wM S P v hTM.net
                      go_wp2_with fail
                      refine hat.mono ?_
                      rintro e w4 ⟨A4, n4, c4, S4, v4, rfl, hfb4, h4n, h4c, h4s, h4d⟩
                      obtain rfl : n4 = p.2.2.1.length := hfb4.1.symm
                      have hr4 : RetNet TN TP wM S P z L' w4 := ⟨S4, v4, h4n, h4c, h4s⟩
                      obtain ⟨wa, hwa⟩ : ∃ wa, w4.alloc (.cells #[.int .i64 p.1, .int .i64 p.2.1, .slice A4 p.2.2.1.length c4, .bool p.2.2.2] TP) = wa := ⟨_, rfl⟩
                      obtain ⟨ka, xa, _za⟩ := boxT _ _ _ _ _ _ _ hwa
                      have hqa := (hTM.ref.chg h4c fun q hq hs => hTM.dis q hs hq).below ka
                      have hat2 := ha2 wa S2 w1.heap.size v2 hqa
                      obtain ⟨y0, y1, y2, y3, y4⟩ := ((hboxM.chg h4c hXS).below ka).cells
                      have HWA := Lib.hid hwa
                      clear hwa _za hat ha1 ha2
                      go_upto_region 25 with (fail)
                      rw [HWA.out]
                      go_wp2_with fail
                      refine hat2.mono ?_
                      rintro e w5 ⟨B5, n5, c5, rfl, hnc5, hrd5, hr5⟩
                      obtain rfl : n5 = p.2.2.1.length := hrd5.len.symm
                      obtain ⟨S5, v5, h5n, h5c, h5s, h5t⟩ := hr5
                      have hboth := hTM.next hr4 ka ⟨S5, v5, h5n, h5c, h5s, h5t⟩
                      obtain ⟨w7, hw7⟩ : ∃ w7, w5.alloc (.cells #[.int .i64 p.1, .int .i64 p.2.1, .slice B5 p.2.2.1.length c5, .bool p.2.2.2] TR) = w7 := ⟨_, rfl⟩
                      obtain ⟨k7, x7, _z7⟩ := boxT _ _ _ _ _ _ _ hw7
                      have hP2lt := hlt2 _ hTM.ref.sp
                      have hz4 := h4c.size
                      have hza := ka.size
                      have hz5 := h5c.size
                      have hnewM : ∀ q, (Value.slice A4 p.2.2.1.length c4).ownBlock = some q → wM.heap.size ≤ q := fun q hq => (hfb4.2.lt q hq).1
                      have hltA : ∀ q, (Value.slice A4 p.2.2.1.length c4).ownBlock = some q → q < w4.heap.size := fun q hq => (hfb4.2.lt q hq).2
                      have hfb5 := (hfb4.below ka).keep h5c fun q hq e => by have h8 := hq.1; omega
                      have hfb7 := hfb5.below k7
                      have hrd7 := hrd5.below k7
                      obtain ⟨x0, x1, x2, x3, _⟩ := x7.cells
                      obtain ⟨z0, z1, z2, z3, _⟩ := ((xa.chg h5c (fun e => by have h9 : w4.heap.size = w1.heap.size := e; omega)).below k7).cells
                      have HW7 := Lib.hid hw7
                      clear hw7 _z7 hat2
                      go_upto_region 26 with (fail)
                      rw [HW7.out]
                      have hsame := same_calls w7 p.1 p.2.1 A4 p.2.2.1.length c4 p.2.2.2 B5 c5 wM.heap.size p.2.2.1 _ rfl (by omega) hfb7.2 hrd7
                      go_wp2_with fail
                      refine hsame.mono ?_
                      rintro e w8 ⟨rfl, hc8⟩
                      have hb7 := hboth.1.below k7
                      have hd4 : ∀ q, (Value.slice A4 p.2.2.1.length c4).ownBlock = some q → ¬ S4 q := h4d
                      have hd5 : ∀ q, (Value.slice A4 p.2.2.1.length c4).ownBlock = some q → ¬ S5 q := fun q hq hs => by
                        rcases h5s q hs with h9 | h9
                        · have h10 := hlt2 q h9; have := hnewM q hq; omega
                        · have := hltA q hq; omega
                      have hzM := hTM.bel.size
                      have hT7 : Two w w7 (fun q => q = wq.heap.size ∨ okS (.slice Am nb cm) q) S4 S5 P w1.heap.size z v4 v5 L' := Two.below (w := w5) (two_of hTM h4n h4c h4s ka h5n h5c h5s) k7
                      have hT8 := hT7.chg hc8 fun q hq => ⟨by have := hnewM q hq; omega, hd4 q hq, hd5 q hq⟩
                      have hch8 : Chg (fun q => ¬ (q = wq.heap.size ∨ okS (.slice Am nb cm) q)) wM w8 := (hboth.2.thenBelow k7).trans hc8 fun q hql hq => by have := hnewM q hq; omega
                      have HBO := Lib.hid (And.intro hT8.both hch8)
                      clear hT8 hch8 hc8 hT7 hfb7 hrd7 hsame hboth hb7
                      go_wp2_with fail
                      go_meet
                      exact ⟨P, L', rfl, rfl, HBO.out.1, hsm', by omega, HBO.out.2⟩
                  · by_cases hw5 : o.1 = 5
                    · as_aux_lemma =>
                        have e0 : (o.1 == 0) = false := by rw [beq_eq_false_iff_ne]; omega
                        have e1 : (o.1 == 1) = false := by rw [beq_eq_false_iff_ne]; omega
                        have e2 : (o.1 == 2) = false := by rw [beq_eq_false_iff_ne]; omega
                        have e3 : (o.1 == 3) = false := by rw [beq_eq_false_iff_ne]; omega
                        have e4 : (o.1 == 4) = false := by rw [beq_eq_false_iff_ne]; omega
                        have e5 : (o.1 == 5) = true := by rw [beq_iff_eq]; omega
                        clear hw0 hw1 hw2 hw3 hw4 hw5
                        obtain ⟨p, er, L', hpl, hsm', hl', ha1, _, ha2⟩ := Deliver_both z h1 L hsm hLm o.2.2.2.1
                        have hat := ha1 wM S P v hTM.net
                        go_wp2_with fail
                        refine hat.mono ?_
                        rintro e w4 ⟨A4, n4, c4, S4, v4, rfl, hfb4, h4n, h4c, h4s, h4d⟩
                        obtain rfl : n4 = p.2.2.1.length := hfb4.1.symm
                        have hr4 : RetNet TN TP wM S P z L' w4 := ⟨S4, v4, h4n, h4c, h4s⟩
                        obtain ⟨wa, hwa⟩ : ∃ wa, w4.alloc (.cells #[.int .i64 p.1, .int .i64 p.2.1, .slice A4 p.2.2.1.length c4, .bool p.2.2.2] TP) = wa := ⟨_, rfl⟩
                        obtain ⟨ka, xa, _za⟩ := boxT _ _ _ _ _ _ _ hwa
                        have hqa := (hTM.ref.chg h4c fun q hq hs => hTM.dis q hs hq).below ka
                        have hat2 := ha2 wa S2 w1.heap.size v2 hqa
                        obtain ⟨y0, y1, y2, y3, y4⟩ := ((hboxM.chg h4c hXS).below ka).cells
                        have HWA := Lib.hid hwa
                        clear hwa _za hat ha1 ha2
                        go_upto_region 25 with (fail)
                        rw [HWA.out]
                        go_wp2_with fail
                        refine hat2.mono ?_
                        rintro e w5 ⟨B5, n5, c5, rfl, hnc5, hrd5, hr5⟩
                        obtain rfl : n5 = p.2.2.1.length := hrd5.len.symm
                        obtain ⟨S5, v5, h5n, h5c, h5s, h5t⟩ := hr5
                        have hboth := hTM.next hr4 ka ⟨S5, v5, h5n, h5c, h5s, h5t⟩
                        obtain ⟨w7, hw7⟩ : ∃ w7, w5.alloc (.cells #[.int .i64 p.1, .int .i64 p.2.1, .slice B5 p.2.2.1.length c5, .bool p.2.2.2] TR) = w7 := ⟨_, rfl⟩
                        obtain ⟨k7, x7, _z7⟩ := boxT _ _ _ _ _ _ _ hw7
                        have hP2lt := hlt2 _ hTM.ref.sp
                        have hz4 := h4c.size
                        have hza := ka.size
                        have hz5 := h5c.size
                        have hnewM : ∀ q, (Value.slice A4 p.2.2.1.length c4).ownBlock = some q → wM.heap.size ≤ q := fun q hq => (hfb4.2.lt q hq).1
                        have hltA : ∀ q, (Value.slice A4 p.2.2.1.length c4).ownBlock = some q → q < w4.heap.size := fun q hq => (hfb4.2.lt q hq).2
                        have hfb5 := (hfb4.below ka).keep h5c fun q hq e => by have h8 := hq.1; omega
                        have hfb7 := hfb5.below k7
                        have hrd7 := hrd5.below k7
                        obtain ⟨x0, x1, x2, x3, _⟩ := x7.cells
                        obtain ⟨z0, z1, z2, z3, _⟩ := ((xa.chg h5c (fun e => by have h9 : w4.heap.size = w1.heap.size := e; omega)).below k7).cells
                        have HW7 := Lib.hid hw7
                        clear hw7 _z7 hat2
                        go_upto_region 26 with (fail)
                        rw [HW7.out]
                        have hsame := same_calls w7 p.1 p.2.1 A4 p.2.2.1.length c4 p.2.2.2 B5 c5 wM.heap.size p.2.2.1 _ rfl (by omega) hfb7.2 hrd7
                        go_wp2_with fail
                        refine hsame.mono ?_
                        rintro e w8 ⟨rfl, hc8⟩
                        have hb7 := hboth.1.below k7
                        have hd4 : ∀ q, (Value.slice A4 p.2.2.1.length c4).ownBlock = some q → ¬ S4 q := h4d
                        have hd5 : ∀ q, (Value.slice A4 p.2.2.1.length c4).ownBlock = some q → ¬ S5 q := fun q hq hs => by
                          rcases h5s q hs with h9 | h9
                          · have h10 := hlt2 q h9; have := hnewM q hq; omega
                          · have := hltA q hq; omega
                        have hzM := hTM.bel.size
                        have hT7 : Two w w7 (fun q => q = wq.heap.size ∨ okS (.slice Am nb cm) q) S4 S5 P w1.heap.size z v4 v5 L' := Two.below (w := w5) (two_of hTM h4n h4c h4s ka h5n h5c h5s) k7
                        have hT8 := hT7.chg hc8 fun q hq => ⟨by have := hnewM q hq; omega, hd4 q hq, hd5 q hq⟩
                        have hch8 : Chg (fun q => ¬ (q = wq.heap.size ∨ okS (.slice Am nb cm) q)) wM w8 := (hboth.2.thenBelow k7).trans hc8 fun q hql hq => by have := hnewM q hq; omega
                        have HBO := Lib.hid (And.intro hT8.both hch8)
                        clear hT8 hch8 hc8 hT7 hfb7 hrd7 hsame hboth hb7
                        go_wp2_with fail
                        go_meet
                        exact ⟨P, L', rfl, rfl, HBO.out.1, hsm', by omega, HBO.out.2⟩
                    · by_cases hw6 : o.1 = 6
                      · as_aux_lemma =>
                          have e0 : (o.1 == 0) = false := by rw [beq_eq_false_iff_ne]; omega
                          have e1 : (o.1 == 1) = false := by rw [beq_eq_false_iff_ne]; omega
                          have e2 : (o.1 == 2) = false := by rw [beq_eq_false_iff_ne]; omega
                          have e3 : (o.1 == 3) = false := by rw [beq_eq_false_iff_ne]; omega
                          have e4 : (o.1 == 4) = false := by rw [beq_eq_false_iff_ne]; omega
                          have e5 : (o.1 == 5) = false := by rw [beq_eq_false_iff_ne]; omega
                          have e6 : (o.1 == 6) = true := by rw [beq_iff_eq]; omega
                          clear hw0 hw1 hw2 hw3 hw4 hw5 hw6
                          obtain ⟨p, er, L', hpl, hsm', hl', _, ha1, ha2⟩ := Deliver_both z h1 L hsm hLm o.2.2.2.1
                          have hat2 := ha2 wM S2 w1.heap.size v2 hTM.ref
                          go_wp2_with fail
                          refine hat2.mono ?_
                          rintro e w4 ⟨B5, n5, c5, rfl, hnc5, hrd5, hr5⟩
                          obtain ⟨wa, hwa⟩ : ∃ wa, w4.alloc (.cells #[.int .i64 p.1, .int .i64 p.2.1, .slice B5 n5 c5, .bool p.2.2.2] TR) = wa := ⟨_, rfl⟩
                          obtain ⟨ka, xa, _za⟩ := boxT _ _ _ _ _ _ _ hwa
                          have hr5' := hr5
                          obtain ⟨S5, v5, h5n, h5c, h5s, h5t⟩ := hr5
                          have hP2S : ∀ q, S q → ¬ q = w1.heap.size := fun q hq e => hTM.dis q hq (by rw [e]; exact hTM.ref.sp)
                          have hna := (hTM.net.chg h5c hP2S).below ka
                          have hat := ha1 wa S P v hna
                          have hXP : ¬ wq.heap.size = w1.heap.size := fun e => hXS2 (by rw [e]; exact hTM.ref.sp)
                          obtain ⟨y0, y1, y2, y3, y4⟩ := ((hboxM.chg h5c hXP).below ka).cells
                          have HWA := Lib.hid hwa
                          clear hwa _za ha1 ha2 hat2
                          go_upto_region 29 with (fail)
                          rw [HWA.out]
                          go_wp2_with fail
                          refine hat.mono ?_
                          rintro e w5 ⟨rfl, hr6⟩
                          have hboth := hTM.next2 hr5' ka hr6
                          have HBO := Lib.hid hboth
                          clear hboth hr6 hr5' hat
                          go_wp2_with fail
                          go_meet
                          exact ⟨P, L', rfl, rfl, HBO.out.1, hsm', by omega, HBO.out.2⟩
                      · by_cases hw7 : o.1 = 7
                        · as_aux_lemma =>
                            have e0 : (o.1 == 0) = false := by rw [beq_eq_false_iff_ne]; omega
                            have e1 : (o.1 == 1) = false := by rw [beq_eq_false_iff_ne]; omega
                            have e2 : (o.1 == 2) = false := by rw [beq_eq_false_iff_ne]; omega
                            have e3 : (o.1 == 3) = false := by rw [beq_eq_false_iff_ne]; omega
                            have e4 : (o.1 == 4) = false := by rw [beq_eq_false_iff_ne]; omega
                            have e5 : (o.1 == 5) = false := by rw [beq_eq_false_iff_ne]; omega
                            have e6 : (o.1 == 6) = false := by rw [beq_eq_false_iff_ne]; omega
                            have e7 : (o.1 == 7) = true := by rw [beq_iff_eq]; omega
                            clear hw0 hw1 hw2 hw3 hw4 hw5 hw6 hw7
                            obtain ⟨er, L', hsm', hl', hd1, hd2⟩ := Double_both z h1 L hsm o.2.2.2.1
                            have hdbl := hd1 wM.drew S P v hTM.net.drew
                            clear hd1
                            go_wp2_with fail
                            go_region_held3 (fun w' => w'.cell? ⟨wq.heap.size, 3, none⟩ = some (.int .i64 o.2.2.2.1))
                              (first | exact y3 | exact q3 | exact x3)
                              (first
                              | (go_at_call 10; (with_reducible refine hdbl.mono ?_); rintro e w4 ⟨rfl, hr4⟩; have hr4' := hr4.from (Below.refl wM.heap.size wM).drew; obtain ⟨S4, v4, _, h4q, _, _, _, _, _, hc4⟩ := hTM.mid hr4'; obtain ⟨y0, y1, y2, y3, y4⟩ := (hboxM.chg hc4 hXS).cells; have hrs := hd2 w4 S2 w1.heap.size v2 h4q)
                              | (go_at_call 20; (with_reducible refine hrs.mono ?_); rintro e w5 ⟨rfl, hr5⟩; have hboth := hTM.next hr4' (Below.refl _ _) hr5; have hbx5 := hboxM.chg hboth.2 (fun hh => hh (.inl rfl)); obtain ⟨x0, x1, x2, x3, x4⟩ := hbx5.cells))
                            all_goals
                              have HBO := Lib.hid hboth
                              clear hboth hr5 hrs hr4' hr4
                              go_wp2_with fail
                              go_meet
                              exact ⟨P, L', rfl, rfl, HBO.out.1, hsm', by omega, HBO.out.2⟩
                        · by_cases hw8 : o.1 = 8
                          · as_aux_lemma =>
                              have e0 : (o.1 == 0) = false := by rw [beq_eq_false_iff_ne]; omega
                              have e1 : (o.1 == 1) = false := by rw [beq_eq_false_iff_ne]; omega
                              have e2 : (o.1 == 2) = false := by rw [beq_eq_false_iff_ne]; omega
                              have e3 : (o.1 == 3) = false := by rw [beq_eq_false_iff_ne]; omega
                              have e4 : (o.1 == 4) = false := by rw [beq_eq_false_iff_ne]; omega
                              have e5 : (o.1 == 5) = false := by rw [beq_eq_false_iff_ne]; omega
                              have e6 : (o.1 == 6) = false := by rw [beq_eq_false_iff_ne]; omega
                              have e7 : (o.1 == 7) = false := by rw [beq_eq_false_iff_ne]; omega
                              have e8 : (o.1 == 8) = true := by rw [beq_iff_eq]; omega
                              clear hw0 hw1 hw2 hw3 hw4 hw5 hw6 hw7 hw8
                              obtain ⟨er, L', hsm', hl', hd1, hd2⟩ := Corrupt_both z h1 L hsm hLm o.2.2.2.1 nb o.2.2.2.2
                              have hcor := hd1 wM.drew S P v Am cm _ hTM.net.drew hrm.drew
                              clear hd1
                              go_wp2_with fail
                              go_region_held3 (fun w' => w'.cell? ⟨wq.heap.size, 3, none⟩ = some (.int .i64 o.2.2.2.1) ∧ w'.cell? ⟨wq.heap.size, 4, none⟩ = some (.slice Ab nb cb))
                                (first | exact ⟨y3, y4⟩ | exact ⟨q3, q4⟩ | exact ⟨x3, x4⟩)
                                (first
                                | (go_at_call 11; (with_reducible refine hcor.mono ?_); rintro e w4 ⟨rfl, hr4⟩; have hr4' := hr4.from (Below.refl wM.heap.size wM).drew; obtain ⟨S4, v4, _, h4q, _, _, _, _, _, hc4⟩ := hTM.mid hr4'; obtain ⟨y0, y1, y2, y3, y4⟩ := (hboxM.chg hc4 hXS).cells; have hrs := hd2 w4 S2 w1.heap.size v2 Ab cb _ h4q (HRMS.out w4 hc4))
                                | (go_at_call 21; (with_reducible refine hrs.mono ?_); rintro e w5 ⟨rfl, hr5⟩; have hboth := hTM.next hr4' (Below.refl _ _) hr5; have hbx5 := hboxM.chg hboth.2 (fun hh => hh (.inl rfl)); obtain ⟨x0, x1, x2, x3, x4⟩ := hbx5.cells))
                              all_goals
                                have HBO := Lib.hid hboth
                                clear hboth hr5 hrs hr4' hr4
                                go_wp2_with fail
                                go_meet
                                exact ⟨P, L', rfl, rfl, HBO.out.1, hsm', by omega, HBO.out.2⟩
                          · by_cases hw9 : o.1 = 9
                            · as_aux_lemma =>
                                have e0 : (o.1 == 0) = false := by rw [beq_eq_false_iff_ne]; omega
                                have e1 : (o.1 == 1) = false := by rw [beq_eq_false_iff_ne]; omega
                                have e2 : (o.1 == 2) = false := by rw [beq_eq_false_iff_ne]; omega
                                have e3 : (o.1 == 3) = false := by rw [beq_eq_false_iff_ne]; omega
                                have e4 : (o.1 == 4) = false := by rw [beq_eq_false_iff_ne]; omega
                                have e5 : (o.1 == 5) = false := by rw [beq_eq_false_iff_ne]; omega
                                have e6 : (o.1 == 6) = false := by rw [beq_eq_false_iff_ne]; omega
                                have e7 : (o.1 == 7) = false := by rw [beq_eq_false_iff_ne]; omega
                                have e8 : (o.1 == 8) = false := by rw [beq_eq_false_iff_ne]; omega
                                have e9 : (o.1 == 9) = true := by rw [beq_iff_eq]; omega
                                clear hw0 hw1 hw2 hw3 hw4 hw5 hw6 hw7 hw8 hw9
                                have hcp := Copy_calls wM S P z v L hTM.net h1 hsm hLm
                                obtain ⟨er, L', hsm', hl', hd1, _⟩ := Corrupt_both z h1 L hsm hLm o.2.2.2.1 nb o.2.2.2.2
                                obtain ⟨p3, er3, L3, _, _, _, _, hd3, _⟩ := Deliver_both z h1 L' hsm' (by omega) 0
                                go_wp2_with fail
                                refine hcp.mono ?_
                                rintro e w4 ⟨P4, S4, v4, rfl, h4n, hb4, h4s⟩
                                have hT4 := hTM.below hb4
                                have hcor := hd1 w4 S P v Am cm _ hT4.net (hrm.below hb4)
                                obtain ⟨y0, y1, y2, y3, y4⟩ := (hboxM.below hb4).cells
                                clear hd1 hcp
                                go_wp2_with fail
                                refine hcor.mono ?_
                                rintro e w5 ⟨rfl, S5, v5, h5n, h5c, h5s⟩
                                have hdr := hd3 w5 S5 P v5 h5n
                                clear hd3 hcor
                                go_wp2_with fail
                                refine hdr.mono ?_
                                rintro e w6 ⟨rfl, S6, v6, h6n, h6c, h6s⟩
                                have hz4 := hb4.size
                                have hz5 := h5c.size
                                have hS5 : ∀ q, q < w4.heap.size → S5 q → S q := fun q hq hs => (h5s q hs).resolve_right (by omega)
                                have hch : Chg S w4 w6 := h5c.trans h6c hS5
                                have hSM : ∀ q, S q → q < wM.heap.size := hlt
                                have hlt4 := h4n.lt
                                have hzM := hTM.bel.size
                                have hT6 : Two w w6 (fun q => q = wq.heap.size ∨ okS (.slice Am nb cm) q) S4 S2 P4 w1.heap.size z v4 v2 L :=
                                  ⟨h4n.chg hch fun q hq hs => by have h8 := h4s q hq; have := hSM q hs; omega, hT4.ref.chg hch fun q hq hs => hTM.dis q hs hq, fun q hq => by have := h4s q hq; omega, hTM.s2, fun q hq hs => by have h8 := h4s q hq; have := hlt2 q hs; omega,
                                    fun q hq => ⟨Nat.lt_of_lt_of_le (hT4.ks q hq).1 hch.size, fun hs => by have h8 := h4s q hs; have := (hTM.ks q hq).1; omega, (hTM.ks q hq).2.2⟩, hch.below hT4.bel hT4.bel.size hTM.s⟩
                                have hchM : Chg (fun q => ¬ (q = wq.heap.size ∨ okS (.slice Am nb cm) q)) wM w6 := (Chg.ofBelow hb4).trans hch fun q _ hs hK => (hTM.ks q hK).2.1 hs
                                have HBO := Lib.hid (And.intro hT6.both hchM)
                                clear hT6 hchM hch hdr
                                go_wp2_with fail
                                go_meet
                                exact ⟨P4, L, rfl, rfl, HBO.out.1, hsm, by omega, HBO.out.2⟩
                            · by_cases hw10 : o.1 = 10
                              · as_aux_lemma =>
                                  have e0 : (o.1 == 0) = false := by rw [beq_eq_false_iff_ne]; omega
                                  have e1 : (o.1 == 1) = false := by rw [beq_eq_false_iff_ne]; omega
                                  have e2 : (o.1 == 2) = false := by rw [beq_eq_false_iff_ne]; omega
                                  have e3 : (o.1 == 3) = false := by rw [beq_eq_false_iff_ne]; omega
                                  have e4 : (o.1 == 4) = false := by rw [beq_eq_false_iff_ne]; omega
                                  have e5 : (o.1 == 5) = false := by rw [beq_eq_false_iff_ne]; omega
                                  have e6 : (o.1 == 6) = false := by rw [beq_eq_false_iff_ne]; omega
                                  have e7 : (o.1 == 7) = false := by rw [beq_eq_false_iff_ne]; omega
                                  have e8 : (o.1 == 8) = false := by rw [beq_eq_false_iff_ne]; omega
                                  have e9 : (o.1 == 9) = false := by rw [beq_eq_false_iff_ne]; omega
                                  have e10 : (o.1 == 10) = true := by rw [beq_iff_eq]; omega
                                  clear hw0 hw1 hw2 hw3 hw4 hw5 hw6 hw7 hw8 hw9 hw10
                                  have hcp := Copy_calls wM S P z v L hTM.net h1 hsm hLm
                                  obtain ⟨er, L', hsm', hl', hd1, _⟩ := Corrupt_both z h1 L hsm hLm o.2.2.2.1 nb o.2.2.2.2
                                  obtain ⟨er3, L3, _, _, hd3, _⟩ := Double_both z h1 L' hsm' 0
                                  go_wp2_with fail
                                  refine hcp.mono ?_
                                  rintro e w4 ⟨P4, S4, v4, rfl, h4n, hb4, h4s⟩
                                  have hT4 := hTM.below hb4
                                  have hcor := hd1 w4 S4 P4 v4 Am cm _ h4n (hrm.below hb4)
                                  obtain ⟨y0, y1, y2, y3, y4⟩ := (hboxM.below hb4).cells
                                  clear hd1 hcp
                                  go_wp2_with fail
                                  refine hcor.mono ?_
                                  rintro e w5 ⟨rfl, S5, v5, h5n, h5c, h5s⟩
                                  have hdr := hd3 w5 S5 P4 v5 h5n
                                  clear hd3 hcor
                                  go_wp2_with fail
                                  refine hdr.mono ?_
                                  rintro e w6 ⟨rfl, S6, v6, h6n, h6c, h6s⟩
                                  have hz5 := h5c.size
                                  have hS5 : ∀ q, q < w4.heap.size → S5 q → S4 q := fun q hq hs => (h5s q hs).resolve_right (by omega)
                                  have hch : Chg S4 w4 w6 := h5c.trans h6c hS5
                                  have hzM := hTM.bel.size
                                  have hT6 := hT4.chg hch fun q hq => ⟨by have := h4s q hq; omega, fun hs => by have h8 := h4s q hq; have := hlt q hs; omega, fun hs => by have h8 := h4s q hq; have := hlt2 q hs; omega⟩
                                  have hchM : Chg (fun q => ¬ (q = wq.heap.size ∨ okS (.slice Am nb cm) q)) wM w6 := (Chg.ofBelow hb4).trans hch fun q hql hs => by have := h4s q hs; omega
                                  have HBO := Lib.hid (And.intro hT6.both hchM)
                                  clear hT6 hchM hch hdr
                                  go_wp2_with fail
                                  go_meet
                                  exact ⟨P, L, rfl, rfl, HBO.out.1, hsm, by omega, HBO.out.2⟩
                              · as_aux_lemma =>
                                  have e0 : (o.1 == 0) = false := by rw [beq_eq_false_iff_ne]; omega
                                  have e1 : (o.1 == 1) = false := by rw [beq_eq_false_iff_ne]; omega
                                  have e2 : (o.1 == 2) = false := by rw [beq_eq_false_iff_ne]; omega
                                  have e3 : (o.1 == 3) = false := by rw [beq_eq_false_iff_ne]; omega
                                  have e4 : (o.1 == 4) = false := by rw [beq_eq_false_iff_ne]; omega
                                  have e5 : (o.1 == 5) = false := by rw [beq_eq_false_iff_ne]; omega
                                  have e6 : (o.1 == 6) = false := by rw [beq_eq_false_iff_ne]; omega
                                  have e7 : (o.1 == 7) = false := by rw [beq_eq_false_iff_ne]; omega
                                  have e8 : (o.1 == 8) = false := by rw [beq_eq_false_iff_ne]; omega
                                  have e9 : (o.1 == 9) = false := by rw [beq_eq_false_iff_ne]; omega
                                  have e10 : (o.1 == 10) = false := by rw [beq_eq_false_iff_ne]; omega
                                  clear hw0 hw1 hw2 hw3 hw4 hw5 hw6 hw7 hw8 hw9 hw10
                                  have HBO := Lib.hid (And.intro hTM.both (Chg.refl (fun q => ¬ (q = wq.heap.size ∨ okS (.slice Am nb cm) q)) wM))
                                  go_wp2_with fail
                                  go_meet
                                  exact ⟨P, L, rfl, rfl, HBO.out.1, hsm, by omega, HBO.out.2⟩
        case rest =>
          obtain ⟨P', L', rfl, rfl, hB3, hsm3, hL3, hch3⟩ := hcut
          have hom := HFB.out.2.chg hch3 (fun q hq hn => hn (.inr hq))
          have HML := Lib.hid HFB.out.1
          have hzwr := hT.bel.size
          clear hTM hrM hT hboxM hbM hch3
          go_wp2_with fail
          go_loopg [25] nb (fun g s25 wy => ∃ (j : Nat) (ts : List UInt8), j ≤ nb ∧ g = nb - j ∧ s25 = .int .i64 (j : Int) ∧ ts.length = nb ∧ OwnB wy wq.heap.size (.slice Am nb cm) ts ∧ Chg (okS (.slice Am nb cm)) wc wy)
          case atStart => exact ⟨0, o.2.2.2.2, Nat.zero_le _, rfl, rfl, HML.out, hom, Chg.refl _ _⟩
          case round =>
            obtain ⟨j, ts, hjn, hgj, rfl, hts, hoo, hch⟩ := hrel
            by_cases hltj : j < nb
            · obtain ⟨g, e1, hg, cg, fg, hx, hst, hsl⟩ := hoo.flip hts j hltj
              subst e1
              have hst2 := hch.trans (Chg.set wr ⟨g, j, none⟩ (.int .u8 ((byt ts j ^^^ 255 : Nat) : Int))) fun q _ hq => by rw [hq]; rfl
              have HST := Lib.hid hst
              have HSL := Lib.hid hsl
              clear hts hoo hst hsl
              go_wp2
              go_roundg (nb - (j + 1))
              case measure => omega
              case rel => exact ⟨j + 1, _, by omega, rfl, by go_num, HSL.out, HST.out, hst2⟩
            · obtain rfl : nb = j := by omega
              obtain ⟨wy, hwy⟩ : ∃ wy, wy = wr := ⟨_, rfl⟩
              subst hwy
              obtain ⟨S3, S4, v3, v4, hT3⟩ := hB3
              have hTy : Two w wy NoB S3 S4 P' w1.heap.size z v3 v4 L' := by
                have h := hT3.chg hch fun q hq => ⟨by have := (hoo.lt q hq).1; omega, (hT3.ks q (.inr hq)).2⟩
                exact ⟨h.net, h.ref, h.s, h.s2, h.dis, fun _ hk => hk.elim, h.bel⟩
              have hm' : L'.length ≤ 4096 := by omega
              clear hts hoo hch hT3 HML
              go_wp2_with fail
              refine (All_rows wy S3 P' z v3 L' hTy.net h1 hsm3 hm').mono ?_
              rintro e wA ⟨v', R, rfl, hRows, hbA⟩
              have hTA := hTy.below hbA
              obtain ⟨A', n', c', rfl, hn', _⟩ := hRows.own.shape
              obtain rfl : n' = L'.length := by rw [hn', hRows.len]
              obtain ⟨Aq, cq, e4, hcq⟩ := hTA.ref.form
              subst e4
              have r1 := hTA.ref.c1
              have HROWS := Lib.hid hRows
              clear hRows hn'
              go_wp2_with fail
              go_quiet ((go_at_call 12; exact quietL (Len_calls _ _ _ _ _ _ (hTA.net.below (belowDrewN (Below.refl _ _) _)) h1)))
              obtain ⟨wB, hwB⟩ : ∃ wB, wA.drewN nq = wB := ⟨_, rfl⟩
              have hbB : Below wA.heap.size wA wB := by rw [← hwB]; exact belowDrewN (Below.refl _ _) _
              have hTB := hTA.below hbB
              have hownB := (HROWS.out.own.below hbB).tight
              have hzy := hbA.size
              have hzB := hbB.size
              have heB : ∀ (i : Nat) (p : Par), 0 ≤ i → L'[i]? = some p → ∃ u, R[i]? = some (p.1, p.2.1, u, p.2.2.2) ∧ OwnB wB wy.heap.size u p.2.2.1 := fun i p _ hp => by
                obtain ⟨u, h1, h2⟩ := HROWS.out.each i p hp
                exact ⟨u, h1, h2.below hbB⟩
              have HEB := Lib.hid heB
              rw [hwB]
              have HL3 := Lib.hid hTy.net.lt
              have HL4 := Lib.hid hTy.ref.lt
              have hzwy := hTy.bel.size
              clear hwB heB r1 hTA hTy
              go_wp2_with fail
              go_loopg [27] L'.length (fun g s27 wz => ∃ (j : Nat), j ≤ L'.length ∧ g = L'.length - j ∧ s27 = .int .i64 (j : Int) ∧ Below wy.heap.size wy wz ∧ Chg (fun q => wy.heap.size ≤ q) wB wz ∧ Own elRaw TP wz (okS (.slice A' L'.length c')) (.slice A' L'.length c') R ∧
                Hid (∀ (i : Nat) (p : Par), j ≤ i → L'[i]? = some p → ∃ u, R[i]? = some (p.1, p.2.1, u, p.2.2.2) ∧ OwnB wz wy.heap.size u p.2.2.1))
              case atStart => exact ⟨0, Nat.zero_le _, rfl, rfl, stepBelow hbA hbB, Chg.refl _ _, hownB, HEB⟩
              case round =>
                obtain ⟨j, hj, hgj, rfl, hbz, hcz, hoz, HEZ⟩ := hrel
                have hTz : Two w wr NoB S3 S4 P' w1.heap.size z v3 (.slice Aq L'.length cq) L' := hTB.chg hcz fun q hq => ⟨by omega, fun hs => by have := HL3.out q hs; omega, fun hs => by have := HL4.out q hs; omega⟩
                by_cases hltj : j < L'.length
                · obtain ⟨p, hp⟩ : ∃ p, L'[j]? = some p := ⟨_, List.getElem?_eq_getElem hltj⟩
                  obtain ⟨u, hu1, hu2⟩ := HEZ.out j p (Nat.le_refl _) hp
                  obtain ⟨Au, cu, rfl, hfu⟩ := OwnB.asFB (w := wy) (w' := wr) hu2 p.2.2.1.length rfl
                  obtain ⟨gx, capx, vsx, ex, _, hgl, hcap, hVx, hcx, _⟩ := hoz.at_ j _ hu1
                  rw [HROWS.out.len] at ex
                  injection ex with ex1 _ ex2
                  subst ex1
                  subst ex2
                  have evs := raw_open hVx
                  subst evs
                  have m0 : wr.cell? ⟨gx, j * 4, none⟩ = some (.int .i64 p.1) := hcx 0 _ rfl
                  have m1 : wr.cell? ⟨gx, j * 4 + 1, none⟩ = some (.int .i64 p.2.1) := hcx 1 _ rfl
                  have m2 : wr.cell? ⟨gx, j * 4 + 2, none⟩ = some (.slice Au p.2.2.1.length cu) := hcx 2 _ rfl
                  have m3 : wr.cell? ⟨gx, j * 4 + 3, none⟩ = some (.bool p.2.2.2) := hcx 3 _ rfl
                  obtain ⟨gq, capq, Bq, nq', cq', eq, hcapq, t0, t1, t2, t3, hncq, hfq, htq, hrq⟩ := rparCells hTz.ref j p hp
                  injection eq with eq1 _ eq2
                  subst eq1
                  subst eq2
                  obtain rfl : nq' = p.2.2.1.length := hrq.len.symm
                  have c1z := hTz.ref.c1
                  have hpl := hsm3 p (List.mem_of_getElem? hp)
                  have hsame := same_calls wr.drew p.1 p.2.1 Au p.2.2.1.length cu p.2.2.2 Bq cq' wy.heap.size p.2.2.1 _ rfl (by omega) (hfu.2.drew) hrq.drew
                  have hltj2 : (j : Int) < (L'.length : Int) := by omega
                  have HFU := Lib.hid hfu
                  clear hu2 hfu hcx hVx hrq
                  go_wp2_with fail
                  go_region_law (first
                    | (go_simp; go_at_call 18; (with_reducible refine hsame.mono ?_); rintro e wz ⟨rfl, hcz2⟩))
                  all_goals
                    have hcz' := hcz2.fromDrew
                    have huL : ∀ q, (Value.slice Au p.2.2.1.length cu).ownBlock = some q → wy.heap.size ≤ q := fun q hq => (HFU.out.2.lt q hq).1
                    have hbz2 : Below wy.heap.size wy wz := hcz'.below hbz hbz.size huL
                    have hcz3 : Chg (fun q => wy.heap.size ≤ q) wB wz := hcz.trans hcz' fun q _ hq => huL q hq
                    have hoz2 := hoz.chg hcz' fun q _ hq hq2 => (HROWS.out.ne j _ q hu1 hq2).2 hq
                    have heZ2 : ∀ (i : Nat) (p : Par), j + 1 ≤ i → L'[i]? = some p → ∃ u, R[i]? = some (p.1, p.2.1, u, p.2.2.2) ∧ OwnB wz wy.heap.size u p.2.2.1 := fun i p' hi hp' => by
                      obtain ⟨u, q1, q2⟩ := HEZ.out i p' (by omega) hp'
                      exact ⟨u, q1, q2.chg hcz' fun q hq hq2 => HROWS.out.dis j i _ _ q (by omega) hu1 q1 hq2 hq⟩
                    have HZ2 := Lib.hid heZ2
                    clear heZ2 hcz2 hcz' hoz
                    go_wp2_with fail
                    go_roundg (L'.length - (j + 1))
                    case measure => omega
                    case rel => exact ⟨j + 1, by omega, rfl, by go_num, hbz2, hcz3, hoz2, HZ2⟩
                · obtain rfl : j = L'.length := by omega
                  have hBz := hTz.both
                  clear hTz hoz hcz hTB hownB
                  go_wp2_with fail
                  go_roundg (n - (k + 1))
                  case measure => omega
                  case rel => exact ⟨k + 1, P', L', by omega, by omega, rfl, by go_num, rfl, hBz, hsm3, hL3⟩
      · obtain rfl : k = 80 := by omega
        have hbF : Below w.heap.size w wq := by obtain ⟨S, S2, v, v2, hT⟩ := hB2; exact hT.bel
        have hlt80i : (80 : Int) < (n : Int) := by omega
        clear hB2
        go_wp2_with fail
        go_ret
        exact ⟨rfl, hbF⟩
    · obtain rfl : n = k := by omega
      have hbF : Below w.heap.size w wq := by obtain ⟨S, S2, v, v2, hT⟩ := hB2; exact hT.bel
      clear hB2
      go_wp2_with fail
      go_ret
      exact ⟨rfl, hbF⟩
theorem netPlays_walk (w : World) (z : Int) (A : Option Addr) (n c : Nat) (os : List Opr) (hr : Rd elOp w (fun k => k < w.heap.size) A n os) (hc : n ≤ c) (hB : ∀ o ∈ os, o.2.2.2.2.length ≤ 1048576) (hn : n ≤ 1048576) :
    Calls Try.prog 4 #[.int .i64 z, .slice A n c] w fun e w' => e = .returned (.bool true) ∧ Below w.heap.size w w' := by
  by_cases h : 1 ≤ z ∧ z ≤ 64
  · exact netPlays_good w z A n c os h.1 h.2 hr hc hB hn
  · exact netPlays_bad w z A n c (by omega)
end Go.Proofs.Ytmkmbnfmmibifaa
