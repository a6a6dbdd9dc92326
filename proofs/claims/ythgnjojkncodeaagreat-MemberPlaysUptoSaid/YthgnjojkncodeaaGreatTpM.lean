/-
  topo.May's walk.
-/
import Derived.Test.YthgnjojkncodeaaGreatTpK
import Derived.Deep.CutBlock
namespace Go.Proofs.YthgnjojkncodeaaGreat
open Go.RowKit
set_option linter.unusedVariables false

def srcOf (flows : List Flw) (fl : Nat) : Int := (flows[fl]?.getD (0, 0, 0, [])).2.2.1
def hopBad (nodes : Int) (up : List Bool) (hops : List (List Ed)) (flows : List Flw) (fl : Nat) (l : List Ed) : Bool :=
  decide (l.length > 128) || !(sortedB l && noAdj l) || l.any (edgeBad nodes up hops fl (srcOf flows fl)) || (orderOf l).isNone
def hopsBad (nodes : Int) (up : List Bool) (hops : List (List Ed)) (flows : List Flw) : Bool := (List.range hops.length).any fun fl => hopBad nodes up hops flows fl (hops[fl]?.getD [])
def mayOk (nodes : Int) (flows : List Flw) (win que ep : Int) (up : List Bool) (hops : List (List Ed)) : Bool :=
  configOk nodes flows win que && !decide (ep < 1) && !decide (ep > 1125899906842624) && ((up.length : Int) == nodes) && ((hops.length : Int) == (flows.length : Int)) && !hopsBad nodes up hops flows
theorem hopsBad_at {nodes : Int} {up : List Bool} {hops : List (List Ed)} {flows : List Flw} {fl : Nat} {l : List Ed} (h : hops[fl]? = some l) (hb : hopBad nodes up hops flows fl l = true) : hopsBad nodes up hops flows = true :=
  List.any_eq_true.2 ⟨fl, List.mem_range.2 (List.getElem?_eq_some_iff.1 h).1, by rw [h]; exact hb⟩
theorem hopsBad_none {nodes : Int} {up : List Bool} {hops : List (List Ed)} {flows : List Flw} (h : ∀ fl l, hops[fl]? = some l → hopBad nodes up hops flows fl l = false) : hopsBad nodes up hops flows = false := by
  unfold hopsBad
  rw [List.any_eq_false]
  intro fl hfl
  have hl := List.mem_range.1 hfl
  rw [List.getElem?_eq_getElem hl]
  simp [h fl hops[fl] (List.getElem?_eq_getElem hl)]
theorem config_nodes {nodes : Int} {flows : List Flw} {win que : Int} (h : configOk nodes flows win que = true) : 1 ≤ nodes ∧ nodes ≤ 64 := by
  unfold configOk at h
  simp only [Bool.and_eq_true] at h
  exact withinB_iff.1 h.1.1.1.1
set_option maxRecDepth 100000 in
set_option maxHeartbeats 8000000 in
theorem may_calls (w : World) (vc vt : Value) (nodes : Int) (flows : List Flw) (win que ep : Int) (up : List Bool) (hops : List (List Ed)) (hC : ConfV w (fun k => k < w.heap.size) vc nodes flows win que)
    (hT : TopoV w (fun k => k < w.heap.size) vt ep up hops) (hf : Few hops) :
    Calls Tryz.prog 34 #[vc, vt] w fun e w' => e = .returned (.bool (mayOk nodes flows win que ep up hops)) ∧ Below w.heap.size w w' := by
  obtain ⟨FA, nF, cF, rfl, hcF, hi1, hi2, hi3, hrF⟩ := hC
  obtain ⟨AU, nU, cU, B, m, d, rfl, h1, h2, h3, h4⟩ := hT
  have hlF := hrF.len
  have hmF := hrF.max
  have hlU := h3.len
  have hmU := h3.max
  have hlm := h4.len
  have hmm := h4.max
  obtain ⟨w2, hw2⟩ : ∃ w2, (w.alloc (.cells #[.int .i64 nodes, .slice FA nF cF, .int .i64 win, .int .i64 que] 24)).alloc (.cells #[.int .u64 ep, .slice AU nU cU, .slice B m d] 38) = w2 := ⟨_, rfl⟩
  have b2 : Below w.heap.size w w2 := by rw [← hw2]; exact ((Below.refl _ _).alloc (Nat.le_refl _) _).alloc (by simp) _
  have hs2 : w2.heap.size = w.heap.size + 2 := by rw [← hw2]; simp
  have e1 : w2.heap[w.heap.size]? = some (.cells #[.int .i64 nodes, .slice FA nF cF, .int .i64 win, .int .i64 que] 24 (0, 0)) := by
    rw [← hw2, Below.heap_alloc _ _ _ (by simp)]
    exact heap_alloc_new w _
  have e2 : w2.heap[w.heap.size + 1]? = some (.cells #[.int .u64 ep, .slice AU nU cU, .slice B m d] 38 (0, 0)) := by
    rw [← hw2]
    have := heap_alloc_new (w.alloc (.cells #[.int .i64 nodes, .slice FA nF cF, .int .i64 win, .int .i64 que] 24)) (.cells #[.int .u64 ep, .slice AU nU cU, .slice B m d] 38)
    simpa using this
  have hT2 : TBox w2 (w.heap.size + 1) AU nU cU B m d ep up hops :=
    ⟨by omega, ⟨by simp [World.cell?, e2], by simp [World.cell?, e2], by simp [World.cell?, e2]⟩, AU, nU, cU, B, m, d, rfl, h1, h2, (h3.below b2).mono fun k hk _ => by omega, (h4.below b2).mono fun k hk _ => by omega⟩
  have hF2 : Rd elFl w2 (fun k => k < w2.heap.size) FA nF flows := (hrF.below b2).mono fun k hk _ => by omega
  have c0 : w2.cell? ⟨w.heap.size, 0, none⟩ = some (.int .i64 nodes) := by simp [World.cell?, e1]
  have c1 : w2.cell? ⟨w.heap.size, 1, none⟩ = some (.slice FA nF cF) := by simp [World.cell?, e1]
  have c2 : w2.cell? ⟨w.heap.size, 2, none⟩ = some (.int .i64 win) := by simp [World.cell?, e1]
  have c3 : w2.cell? ⟨w.heap.size, 3, none⟩ = some (.int .i64 que) := by simp [World.cell?, e1]
  have hcf := config_calls w2 _ nodes flows win que ⟨FA, nF, cF, rfl, hcF, hi1, hi2, hi3, hF2⟩
  obtain ⟨rb, hrb⟩ : ∃ rb, mayOk nodes flows win que ep up hops = rb := ⟨_, rfl⟩
  have hrb2 := hrb
  unfold mayOk at hrb2
  rw [hlU, hlm, hlF] at hrb2
  obtain ⟨bc, hbc⟩ : ∃ bc, configOk nodes flows win que = bc := ⟨_, rfl⟩
  have HBC := Lib.hid hbc
  rw [hbc] at hrb2 hcf
  rw [hrb]
  have HRB := Lib.hid hrb2
  have HW2 := Lib.hid hw2
  have HB2 := Lib.hid b2
  have HT2 := Lib.hid hT2
  have HF2 := Lib.hid hF2
  have HLm := Lib.hid hlm
  have HLF := Lib.hid hlF
  obtain ⟨t0, t1, t2⟩ := hT2.cells
  clear hrb hrb2 hw2 b2 hT2 hF2 hrF h3 h4 e1 e2 hlF hlU hlm hbc hs2
  have hfalse : rb = false → ∀ w', Below w2.heap.size w2 w' → (Ending.returned (.bool false) = .returned (.bool rb) ∧ Below w.heap.size w w') := fun h w' hb => ⟨by rw [h], belowThen HB2.out HB2.out.size hb⟩
  have HFALSE := Lib.hid hfalse
  clear hfalse
  cases bc with
  | false =>
    obtain rfl : rb = false := by rw [← HRB.out]; rfl
    go_enter Tryz.func34, Tryz.ntmps34
    go_upto_region 1 with (fail)
    rw [HW2.out]
    go_wp2_with (go_at_call 29; (with_reducible refine hcf.mono ?_); rintro e w3 ⟨rfl, b3⟩; have B3 := Lib.hid b3; clear b3)
    go_ret
    exact ⟨rfl, belowThen HB2.out HB2.out.size B3.out⟩
  | true =>
    obtain ⟨hn1, hn2⟩ := config_nodes HBC.out
    cases hp1 : decide (ep < 1) with
    | true =>
      obtain rfl : rb = false := by rw [← HRB.out, hp1]; rfl
      go_enter Tryz.func34, Tryz.ntmps34
      go_upto_region 1 with (fail)
      rw [HW2.out]
      go_wp2_with (go_at_call 29; (with_reducible refine hcf.mono ?_); rintro e w3 ⟨rfl, b3⟩; have B3 := Lib.hid b3; have HT3 := Lib.hid (HT2.out.below b3); obtain ⟨t0', t1', t2'⟩ := HT3.out.cells; have c0' := cellBelow b3 c0; have c1' := cellBelow b3 c1; clear b3)
      go_ret
      exact ⟨rfl, belowThen HB2.out HB2.out.size B3.out⟩
    | false =>
      cases hp2 : decide (ep > 1125899906842624) with
      | true =>
        obtain rfl : rb = false := by rw [← HRB.out, hp1, hp2]; rfl
        go_enter Tryz.func34, Tryz.ntmps34
        go_upto_region 1 with (fail)
        rw [HW2.out]
        go_wp2_with (go_at_call 29; (with_reducible refine hcf.mono ?_); rintro e w3 ⟨rfl, b3⟩; have B3 := Lib.hid b3; have HT3 := Lib.hid (HT2.out.below b3); obtain ⟨t0', t1', t2'⟩ := HT3.out.cells; have c0' := cellBelow b3 c0; have c1' := cellBelow b3 c1; clear b3)
        go_ret
        exact ⟨rfl, belowThen HB2.out HB2.out.size B3.out⟩
      | false =>
        cases hp3 : ((nU : Int) == nodes) with
        | false =>
          obtain rfl : rb = false := by rw [← HRB.out, hp1, hp2, hp3]; rfl
          have hb3 : ((nU : Int) != nodes) = true := by simp only [bne, hp3, Bool.not_false]
          go_enter Tryz.func34, Tryz.ntmps34
          go_upto_region 1 with (fail)
          rw [HW2.out]
          go_wp2_with (go_at_call 29; (with_reducible refine hcf.mono ?_); rintro e w3 ⟨rfl, b3⟩; have B3 := Lib.hid b3; have HT3 := Lib.hid (HT2.out.below b3); obtain ⟨t0', t1', t2'⟩ := HT3.out.cells; have c0' := cellBelow b3 c0; have c1' := cellBelow b3 c1; clear b3)
          go_ret
          exact ⟨rfl, belowThen HB2.out HB2.out.size B3.out⟩
        | true =>
          have hb3 : ((nU : Int) != nodes) = false := by simp only [bne, hp3, Bool.not_true]
          have hnU : (nU : Int) = nodes := by simpa using hp3
          cases hp4 : ((m : Int) == (nF : Int)) with
          | false =>
            obtain rfl : rb = false := by rw [← HRB.out, hp1, hp2, hp3, hp4]; rfl
            have hb4 : ((m : Int) != (nF : Int)) = true := by simp only [bne, hp4, Bool.not_false]
            have HNU := Lib.hid hnU
            clear hnU
            go_enter Tryz.func34, Tryz.ntmps34
            go_upto_region 1 with (fail)
            rw [HW2.out]
            go_wp2_with (go_at_call 29; (with_reducible refine hcf.mono ?_); rintro e w3 ⟨rfl, b3⟩; have B3 := Lib.hid b3; have HT3 := Lib.hid (HT2.out.below b3); obtain ⟨t0', t1', t2'⟩ := HT3.out.cells; have c0' := cellBelow b3 c0; have c1' := cellBelow b3 c1; clear b3)
            go_ret
            exact ⟨rfl, belowThen HB2.out HB2.out.size B3.out⟩
          | true =>
            have hb4 : ((m : Int) != (nF : Int)) = false := by simp only [bne, hp4, Bool.not_true]
            have hmF2 : m = nF := by have : (m : Int) = (nF : Int) := by simpa using hp4
                                     omega
            have hrb3 : (!hopsBad nodes up hops flows) = rb := by rw [← HRB.out, hp1, hp2, hp3, hp4]; rfl
            have HRB3 := Lib.hid hrb3
            have HMF := Lib.hid hmF2
            have HNU := Lib.hid hnU
            clear hrb3 hmF2 hnU
            go_enter Tryz.func34, Tryz.ntmps34
            go_upto_region 1 with (fail)
            rw [HW2.out]
            go_upto_region 4 with (go_at_call 29; (with_reducible refine hcf.mono ?_); rintro e w3 ⟨rfl, b3⟩; have B3 := Lib.hid b3; have HT3 := Lib.hid (HT2.out.below b3); obtain ⟨t0', t1', t2'⟩ := HT3.out.cells; have c0' := cellBelow b3 c0; have c1' := cellBelow b3 c1; clear b3)
            obtain ⟨w4, hw4⟩ : ∃ w4, w3.alloc (.cells #[.func (.func 54) #[] #[.pointer (some ⟨w.heap.size, 0, none⟩), .pointer (some ⟨w.heap.size + 1, 0, none⟩)]] 87) = w4 := ⟨_, rfl⟩
            have b4 : Below w3.heap.size w3 w4 := by rw [← hw4]; exact (Below.refl _ _).alloc (Nat.le_refl _) _
            have cUf : w4.cell? ⟨w3.heap.size, 0, none⟩ = some (.func (.func 54) #[] #[.pointer (some ⟨w.heap.size, 0, none⟩), .pointer (some ⟨w.heap.size + 1, 0, none⟩)]) := by rw [← hw4]; simp
            have hU4 : w3.heap.size < w4.heap.size := by rw [← hw4]; simp
            have hB24 := belowThen B3.out B3.out.size b4
            have hT4 := HT3.out.below b4
            have d0 := cellBelow b4 c0'
            have d1 := cellBelow b4 c1'
            have hw2s : w.heap.size < w2.heap.size := by have := HT2.out.lt; omega
            obtain ⟨U, hU⟩ : ∃ U, w3.heap.size = U := ⟨_, rfl⟩
            rw [hw4]
            rw [hU] at cUf hU4 ⊢
            have HT4 := Lib.hid hT4
            have HB24 := Lib.hid hB24
            have eg : ∀ args w, (callFunc 55 args).run Tryz.prog w = .ok (.enter 55 args) w := enters_of Tryz.func55 (by kernel_rfl) rfl
            have HEG := Lib.hid eg
            have HF4 := Lib.hid ((HF2.out.below hB24).mono (ok' := fun k => k < w4.heap.size) fun k hk _ => Nat.lt_of_lt_of_le hk hB24.size)
            obtain ⟨t0, t1, t2⟩ := hT4.cells
            clear hw4 b4 hT4 hB24 hU c0 c1 c2 c3 c0' c1' t0' t1' t2' hcf eg
            go_wp2_with fail
            clear t0 t1 t2
            go_loopg [46] m (fun gg s46 wr => ∃ i : Nat, i ≤ m ∧ m - i ≤ gg ∧ s46 = .int .i64 (i : Int) ∧ Hid (∀ j l, j < i → hops[j]? = some l → hopBad nodes up hops flows j l = false) ∧ Hid (Below w4.heap.size w4 wr))
            case atStart => exact ⟨0, by omega, by omega, rfl, Lib.hid (fun j l hj => by omega), Lib.hid (Below.refl _ _)⟩
            case round =>
              obtain ⟨i, hi, hgi, rfl, HS, HB⟩ := hrel
              by_cases hil : i < m
              · have hili : (i : Int) < (m : Int) := by omega
                have hi0 : (0 : Int) ≤ (i : Int) := by omega
                have HTr := Lib.hid (HT4.out.below HB.out)
                obtain ⟨t0, t1, t2⟩ := HTr.out.cells
                obtain ⟨A', n', c', B', m', d', ee, hh1, hh2, hh3, hh4⟩ := HTr.out.tv
                injection ee with ee
                have e0 := congrArg Array.toList ee
                simp at e0
                obtain ⟨⟨rfl, rfl, rfl⟩, rfl, rfl, rfl⟩ := e0
                obtain ⟨l, hl⟩ : ∃ l, hops[i]? = some l := ⟨_, List.getElem?_eq_getElem (by have := HLm.out; omega)⟩
                obtain ⟨b, o, vs, rfl, _, hbl, ⟨C, p, q, rfl, hpq, hrd⟩, hcl⟩ := hh4.at_ i l hl
                have k0 : wr.cell? ⟨b, o + i, none⟩ = some (.slice C p q) := by have := hcl 0 _ rfl; simpa [El.slice] using this
                obtain ⟨f, hfl⟩ : ∃ f, flows[i]? = some f := ⟨_, List.getElem?_eq_getElem (by have := HLF.out; have := HMF.out; omega)⟩
                have hsrc : srcOf flows i = f.2.2.1 := by unfold srcOf; rw [hfl]; rfl
                have hpl := hrd.len
                have hple : p ≤ 1048576 := by have := hf l (List.mem_of_getElem? hl); omega
                have HLL := Lib.hid hl
                have HFL := Lib.hid hfl
                have HPL := Lib.hid hpl
                have HSRC := Lib.hid hsrc
                have HRD := Lib.hid hrd
                clear hcl hh3 hh4 hl hfl hpl hsrc hrd ee hh1 hh2
                go_upto_region 8 with (fail)
                obtain ⟨wF, hwF⟩ : ∃ wF, wr.alloc (.cells #[.int .i64 (i : Int)] 3) = wF := ⟨_, rfl⟩
                have bF : Below wr.heap.size wr wF := by rw [← hwF]; exact (Below.refl _ _).alloc (Nat.le_refl _) _
                have cFc : wF.cell? ⟨wr.heap.size, 0, none⟩ = some (.int .i64 (i : Int)) := by rw [← hwF]; simp
                have hFl : wr.heap.size < wF.heap.size := by rw [← hwF]; simp
                rw [hwF]
                obtain ⟨F, hFe⟩ : ∃ F, wr.heap.size = F := ⟨_, rfl⟩
                rw [hFe] at cFc hFl ⊢
                have HBF := Lib.hid bF
                have HB4F := Lib.hid (belowThen HB.out HB.out.size bF)
                have HRF := Lib.hid ((HRD.out.below bF).mono (ok' := fun k => k < wF.heap.size) fun k hk _ => Nat.lt_of_lt_of_le hk bF.size)
                clear hwF bF hFe k0 t0 t1 t2
                go_cut [9] (fun s9 wx => s9 = .bool (sortedB l && noAdj l) ∧ Hid (Below wF.heap.size wF wx))
                case first =>
                  have hs := sorted_calls wF C p q l HRF.out
                  cases hsb : sortedB l with
                  | false =>
                    rw [hsb] at hs
                    have HSB := Lib.hid hsb
                    clear hsb
                    go_wp2_with (go_at_call 57; (with_reducible refine hs.mono ?_); rintro e w5 ⟨rfl, b5⟩; have B5 := Lib.hid b5; clear b5)
                    go_meet
                    exact ⟨by rw [HSB.out]; rfl, B5⟩
                  | true =>
                    rw [hsb] at hs
                    have HSB := Lib.hid hsb
                    clear hsb
                    go_wp2_with fail
                    refine hs.mono ?_
                    rintro e w5 ⟨rfl, b5⟩
                    have hce := cloneE_calls w5 (fun k => k < w5.heap.size) C p q l ((HRF.out.below b5).mono fun k hk _ => Nat.lt_of_lt_of_le hk b5.size) (fun k hk => hk) hple
                    have B5 := Lib.hid b5
                    clear hs b5
                    go_wp2_with fail
                    refine hce.mono ?_
                    rintro e w6 ⟨vC, vss, rfl, hq1, hq2, hq3, b6⟩
                    have hown : Own elEd 77 w6 (fun k => vC.ownBlock = some k) vC l := Own.ofParts (ok := fun _ => False) (hq1.flatten_ flat_ed) hq2 (fun k _ h => h.elim) fun g hg => hg
                    have hcc := compactE_calls w6 _ vC l hown (by have := HPL.out; omega)
                    obtain ⟨nb, hnb⟩ : ∃ nb, noAdj l = nb := ⟨_, rfl⟩
                    rw [hnb, HPL.out] at hcc
                    have HNB := Lib.hid hnb
                    have HQ3 := Lib.hid hq3
                    have B6 := Lib.hid b6
                    clear hce hq1 hq2 hq3 b6 hown hnb
                    go_wp2_with fail
                    refine hcc.mono ?_
                    rintro e w7 ⟨A7, m7, c7, rfl, heq, hle7, hch⟩
                    have B57 := Lib.hid (hch.below B6.out B6.out.size fun k hk => HQ3.out k hk)
                    clear hcc hch hle7
                    go_wp2_with fail
                    go_meet
                    exact ⟨by rw [HNB.out, HSB.out]; rfl, Lib.hid (belowThen B5.out B5.out.size B57.out)⟩
                case rest =>
                  obtain ⟨rfl, HX⟩ := hcut
                  obtain ⟨rB, hrB⟩ : ∃ rB, (sortedB l && noAdj l) = rB := ⟨_, rfl⟩
                  rw [hrB]
                  have HRBB := Lib.hid hrB
                  have hB4c := belowThen HB4F.out HB4F.out.size HX.out
                  have HB4C := Lib.hid hB4c
                  have HRC := Lib.hid ((HRF.out.below HX.out).mono (ok' := fun k => k < wc.heap.size) fun k hk _ => Nat.lt_of_lt_of_le hk HX.out.size)
                  have HTc := Lib.hid (HT4.out.below hB4c)
                  have hbadE : ∀ (hb : hopBad nodes up hops flows i l = true), rb = false := fun hb => by rw [← HRB3.out, hopsBad_at HLL.out hb]; rfl
                  have HBAD := Lib.hid hbadE
                  have hend : ∀ w', Below wc.heap.size wc w' → Below w.heap.size w w' := fun w' hb => belowThen HB2.out HB2.out.size (belowThen HB24.out HB24.out.size (belowThen HB4C.out HB4C.out.size hb))
                  have HEND := Lib.hid hend
                  clear hrB hB4c hbadE hend
                  cases hp128 : decide ((p : Int) > 128) with
                  | true =>
                    obtain rfl : rb = false := HBAD.out (by
                      have h1 : (p : Int) > 128 := of_decide_eq_true hp128
                      have h2 : decide (l.length > 128) = true := decide_eq_true (by have := HPL.out; omega)
                      unfold hopBad; rw [h2]; rfl)
                    go_wp2_with fail
                    go_ret
                    exact ⟨rfl, HEND.out _ (Below.refl _ _)⟩
                  | false =>
                    cases rB with
                    | false =>
                      obtain rfl : rb = false := HBAD.out (by unfold hopBad; rw [HRBB.out]; simp)
                      go_wp2_with fail
                      go_ret
                      exact ⟨rfl, HEND.out _ (Below.refl _ _)⟩
                    | true =>
                      have hbg := bad_gives nodes up hops flows i f ep U w.heap.size F (w.heap.size + 1) AU nU cU (some ⟨b, o, none⟩) m d FA nF cF wc hn1 hn2 HNU.out hf HFL.out (by have := HB4C.out.size; omega) (by have := HB4C.out.size; have := HB24.out.size; omega) (by have := HX.out.size; omega)
                        (cellBelow HB4C.out cUf) (cellBelow HB4C.out d0) (cellBelow HB4C.out d1) (cellBelow HX.out cFc) HTc.out ((HF4.out.below HB4C.out).mono fun k hk _ => Nat.lt_of_lt_of_le hk HB4C.out.size)
                      have hcfn := cfunc_calls wc C p q l HRC.out 55 #[.pointer (some ⟨U, 0, none⟩), .pointer (some ⟨w.heap.size, 0, none⟩), .pointer (some ⟨F, 0, none⟩), .pointer (some ⟨w.heap.size + 1, 0, none⟩)] _ HEG.out hbg
                      obtain ⟨ba, hba⟩ : ∃ ba, l.any (edgeBad nodes up hops (i : Int) f.2.2.1) = ba := ⟨_, rfl⟩
                      rw [hba] at hcfn
                      have HBA := Lib.hid hba
                      clear hbg hba
                      cases ba with
                      | true =>
                        obtain rfl : rb = false := HBAD.out (by unfold hopBad; rw [HSRC.out, HBA.out]; simp)
                        go_wp2_with (go_at_call 61; (with_reducible refine hcfn.mono ?_); rintro e w8 ⟨rfl, b8⟩)
                        go_ret
                        exact ⟨rfl, HEND.out _ b8⟩
                      | false =>
                        go_wp2_with fail
                        refine hcfn.mono ?_
                        rintro e w8 ⟨rfl, b8⟩
                        have HT8 := Lib.hid (HTc.out.below b8)
                        obtain ⟨t0, t1, t2⟩ := HT8.out.cells
                        have c8 := cellBelow b8 (cellBelow HX.out cFc)
                        have hor := HT8.out.order hf i l HLL.out
                        have B8 := Lib.hid b8
                        clear hcfn b8
                        cases hro : orderOf l with
                        | none =>
                          obtain rfl : rb = false := HBAD.out (by unfold hopBad; rw [hro]; simp)
                          rw [hro] at hor
                          clear hro
                          go_wp2_with fail
                          refine hor.mono ?_
                          rintro e w9 ⟨rfl, b9⟩
                          have B9 := Lib.hid b9
                          clear hor b9 t0 t1 t2 c8
                          go_wp2_with fail
                          go_ret
                          exact ⟨rfl, HEND.out _ (belowThen B8.out B8.out.size B9.out)⟩
                        | some oo =>
                          have HGOOD : Hid (hopBad nodes up hops flows i l = false) := Lib.hid (by
                            have h2 : decide (l.length > 128) = false := decide_eq_false (by have := HPL.out; have h1 := of_decide_eq_false hp128; omega)
                            unfold hopBad
                            rw [h2, HRBB.out, HSRC.out, HBA.out, hro]; rfl)
                          rw [hro] at hor
                          clear hro
                          go_wp2_with fail
                          refine hor.mono ?_
                          rintro e w9 ⟨v9, rfl, _, b9⟩
                          have B9 := Lib.hid (belowThen B8.out B8.out.size b9)
                          clear hor b9 t0 t1 t2 c8
                          go_wp2_with fail
                          go_roundg (m - (i + 1))
                          case measure => omega
                          case rel => exact ⟨i + 1, by omega, by omega, by go_num, Lib.hid (fun j l2 hj hl2 => by
                            rcases Nat.lt_or_ge j i with h' | h'
                            · exact HS.out j l2 h' hl2
                            · obtain rfl : j = i := by omega
                              have e := HLL.out
                              rw [hl2] at e
                              injection e with e
                              rw [e]; exact HGOOD.out), Lib.hid (belowThen HB4C.out HB4C.out.size B9.out)⟩
              · have hili : ¬ ((i : Int) < (m : Int)) := by omega
                obtain rfl : rb = true := by
                  rw [← HRB3.out, hopsBad_none fun fl l hl => HS.out fl l (by have := (List.getElem?_eq_some_iff.1 hl).1; have := HLm.out; omega) hl]
                  rfl
                go_wp2_with fail
                go_ret
                exact ⟨rfl, belowThen HB2.out HB2.out.size (belowThen HB24.out HB24.out.size HB.out)⟩
end Go.Proofs.YthgnjojkncodeaaGreat
