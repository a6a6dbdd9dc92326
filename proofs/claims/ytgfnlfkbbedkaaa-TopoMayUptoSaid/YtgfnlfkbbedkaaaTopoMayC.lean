/-
  TopoMay: from the four copies on.
-/
import Derived.Test.YtgfnlfkbbedkaaaTopoMayB
import Derived.Deep.CutBlock
namespace Go.Proofs.Ytgfnlfkbbedkaaa
open Go.RowKit
set_option linter.unusedVariables false
set_option linter.unusedSimpArgs false

set_option maxRecDepth 100000 in
set_option maxHeartbeats 16000000 in
noncomputable def cutTMC : PSigma fun p : Nat → Prop => (∀ i, p i) → ∀ j, cutTMB.1 j := by
  apply PSigma.mk
  case snd =>
    intro hCutP jj
    intro jj w A n c l mm ep hc hm hep hln hmx HR qq13 w1 HB1 w2 PU PH qq19 w3 P Q F HCB i0 hz1 hz2 HIZ HZ0 HW1 gk wr u10 u11 u12 rq38 rq39 rq40 rq41 rq42 rq43 rq44 rq45 rq46 rq47
       rq48 rq49 rq50 rq51 rq52 rq53 rq54 rq55 rq56 rq57 rq58 rq59 rq60 rq61 rq62 rq63 rq64 rq65 rq66 rq67 rq68 rq69 rq70 rq71 rq72 rq73 rq74 rq75 rq76 rq77 rq78 rq79 rq80 rq81 rq82
       rq83 rq84 rq85 rq86 rq87 rq88 rq89 rq90 rq91 rq92 rq93 rq94 rq95 rq96 rq97 rq98 rq99 rq100 rq101 rq102 rq103 rq104 qq104 qq105 qq106 qq107 L ha hga HI hlt HFW c1 N1 hc1 hN1
       HC1 hN1le HN1 HTB rq123 HCR HGD HBR HLT HLH rq129 rq130 hlti w4 HT4 HB4 w5 AV nV cV HV dV CV pV qV hH5 w6 P5 w7 HB7 rb rq150 rq151 rq152 rq153 rq154 rq155 rq156 rq157 rq158
       rq159 rq160 rq161 rq162 rq163 rq164 rq165 rq166 rq167 rq168 rq169 rq170 rq171 rq172 rq173 rq174 rq175 rq176 rq177 rq178 rq179 rq180 rq181 rq182 rq183 rq184 rq185 rq186 rq187
       rq188 rq189 rq190 rq191 rq192 rq193 rq194 rq195 rq196 rq197 rq198 rq199 rq200 rq201 rq202 rq203 rq204 rq205 rq206 rq207 rq208 rq209 rq210 rq211 rq212 rq213 rq214 rq215 rq216
       rq217 rq218 rq219 rq220 rq221 rq222 rq223 rq224 rq225 rq226 rq227 rq228 rq229 rq230 rq231 rq232 rq233 rq234 rq235 rq236 rq237 rq238 rq239 rq240 rq241 rq242 rq243 rq244 rq245
       rq246 rq247 rq248 rq249 rq250 rq251 rq252 rq253 rq254 rq255 rq256 rq257 rq258 rq259 rq260 rq261 rq262 rq263 rq264 rq265 rq266 rq267 rq268 rq269 rq270 rq271 rq272 rq273 rq274
       rq275 rq276 rq277 rq278 rq279 rq280 rq281 rq282 rq283 rq284 rq285 rq286 rq287 rq288 rq289 rq290 rq291 rq292 rq293 rq294 rq295 rq296 rq297 rq298 rq299 rq300 rq301 rq302 rq303
       rq304 rq305 rq306 rq307 rq308 rq309 rq310 rq311 rq312 rq313 rq314 rq315 rq316 rq317 rq318 rq319 rq320 rq321 rq322 rq323 rq324 rq325 rq326 rq327 rq328 rq329 rq330 rq331 rq332
       rq333 rq334 rq335 rq336 rq337 rq338 rq339 rq340 rq341 rq342 rq343 rq344 rq345 rq346 rq347 rq348 rq349 rq350 rq351 rq352 rq353 rq354 rq355 rq356 rq357 rq358 rq359 rq360 rq361
       rq362 rq363 rq364 rq365 rq366 rq367 rq368 rq369 rq370 rq371 rq372 rq373 rq374 rq375 rq376 rq377 rq378 rq379 rq380 rq381 rq382 rq383 HBC HTC HCC hp0 hpi hpe k hrem hkp hkpi
       hk0 ua ub hab hb9 rq399 be oe HO HT HRD rq405 rq406 rq407 HUM HU rq410 rq411 wd PE HBD HTD HCD HED HG3 g0 g1 g2 hT0 wc u16 u17 u18 u19 u23 u24 u25 u26 u27 u28 u29 u30 u31 u32
       u33 u34 u35 u36 u37 u38 u39 u40 u41 u42 u43 u44 u45 u46 u47 u48 u49 u50 u51 u52 u53 u54 u55 u56 u57 u58 u59 u60 u61 u62 u63 u64 u65 u66 u67 u68 u69 u70 u71 u72 u73 u74 u75
       u76 u77 u78 u79 u80 u81 u82 u83 u84 u85 u86 u87 u88 u89 u90 u91 u92 u93 u94 u95 u96 u97 u98 u99 u100 u101 u102 u103 u104 u105 u106 u107 u108 u109 u110 u111 u112 u113 u114
       u115 u116 u117 u118 u119 u120 u121 u122 u123 u124 u125 u126 u127 u128 u129 u130 u131 u132 u133 u134 u135 u136 u137 u138 u139 u140 u141 u142 u143 u144 u145 u146 u147 u148 u149
       u150 u151 u152 u153 u154 u155 u156 u157 u158 u159 u160 u161 u162 u163 u164 u165 u166 u167 u168 u169 u170 u171 u172 u173 u174 u175 u176 u177 u178 u179 u180 u181 u182 u183 u184
       u185 u186 u187 u188 u189 u190 u191 u192 u193 u194 u195 u196 u197 u198 u199 u200 u201 u202 u203 u204 u205 u206 u207 u208 u209 u210 u211 u212 u213 u214 u215 u216 u217 u218 u219
       u220 u221 u222 u223 u224 u225 u226 u227 u228 u229 u230 u231 u232 u233 u234 u235 u236 u237 u238 u239 u240 u241 u242 u243 u244 u245 u246 u247 u248 u249 u250 u251 u252 u253 u254
       u255 u256 hcut
    obtain ⟨⟨L0, U0, P0, AU0, nU0, cU0, H0, d0, C0, p0, q0⟩, ⟨L1, U1, P1, AU1, nU1, cU1, H1, d1, C1, p1, q1⟩, ⟨L2, U2, P2, AU2, nU2, cU2, H2, d2, C2, p2, q2⟩, ⟨L3, U3, P3, AU3, nU3, cU3, H3, d3, C3, p3, q3⟩, h16, h17, h18, h19, HBX, HX0, HX1, HX2, HX3, HAP⟩ := hcut
    dsimp only at h16 h17 h18 h19
    subst h16 h17 h18 h19
    have hNL := HN1.out
    have hme : L.length ≤ 9223372036854775807 := by omega
    have hLp : 0 < L.length := by omega
    clear g0 g1 g2 hT0
    have ap01 : Hid ((U0 ≤ L1 ∨ U1 ≤ L0) ∧ P0 ≠ P1 ∧ ¬ (L0 ≤ P1 ∧ P1 < U0) ∧ ¬ (L1 ≤ P0 ∧ P0 < U1)) := Lib.hid HAP.out.1
    have ap02 : Hid ((U0 ≤ L2 ∨ U2 ≤ L0) ∧ P0 ≠ P2 ∧ ¬ (L0 ≤ P2 ∧ P2 < U0) ∧ ¬ (L2 ≤ P0 ∧ P0 < U2)) := Lib.hid HAP.out.2.1
    have ap03 : Hid ((U0 ≤ L3 ∨ U3 ≤ L0) ∧ P0 ≠ P3 ∧ ¬ (L0 ≤ P3 ∧ P3 < U0) ∧ ¬ (L3 ≤ P0 ∧ P0 < U3)) := Lib.hid HAP.out.2.2.1
    have ap12 : Hid ((U1 ≤ L2 ∨ U2 ≤ L1) ∧ P1 ≠ P2 ∧ ¬ (L1 ≤ P2 ∧ P2 < U1) ∧ ¬ (L2 ≤ P1 ∧ P1 < U2)) := Lib.hid HAP.out.2.2.2.1
    have ap13 : Hid ((U1 ≤ L3 ∨ U3 ≤ L1) ∧ P1 ≠ P3 ∧ ¬ (L1 ≤ P3 ∧ P3 < U1) ∧ ¬ (L3 ≤ P1 ∧ P1 < U3)) := Lib.hid HAP.out.2.2.2.2.1
    have ap23 : Hid ((U2 ≤ L3 ∨ U3 ≤ L2) ∧ P2 ≠ P3 ∧ ¬ (L2 ≤ P3 ∧ P3 < U2) ∧ ¬ (L3 ≤ P2 ∧ P2 < U3)) := Lib.hid HAP.out.2.2.2.2.2
    clear HAP
    obtain ⟨⟨l0, l1, l2⟩, le, lf, hpL, hpq0, hLH, hHU, hPH, hHl, hPl, hbL, hbP, hUw, hrd0⟩ := HX0.out.facts hme
    obtain rfl : N1 = p0 := by omega
    have hkf : decide ((N1 : Int) ≤ (k : Int)) = false := decide_eq_false (by omega)
    have hA2 : C0 = none → N1 = 0 := fun e => by
      obtain ⟨b, o, e2, _⟩ := hrd0.2.2 hp0
      rw [e] at e2; cases e2
    obtain ⟨D1, hD1, hN1', hR1⟩ := cutFullR (P := Try.prog) elEd 39 rfl (fun W => rfl) C0 N1 q0 k (by omega) hpq0 hA2
    obtain ⟨D2, hD2, hR2⟩ := cutFromR (P := Try.prog) elEd 39 rfl (fun W => rfl) C0 N1 q0 (k + 1) (by omega) hpq0
    have hD2' : ∀ (kl : IntKind) (W' : World), (Instr.slice 39 (.slice C0 N1 q0) (some (.int kl ((k : Int) + 1))) none none).run Try.prog W' = .ok (.slice D2 (N1 - (k + 1)) (q0 - (k + 1))) W' := fun kl W' => hD2 kl W'
    have hw3 : IntKind.i64.wrap ((k : Int) + 1) = (k : Int) + 1 := IntWalk.i64_in _ ⟨by omega, by omega⟩
    have hre := hrd0.below (Below.refl _ wc).drew
    obtain ⟨A5, c5, w5, hrun, hc5, hA5, hr5, hb5⟩ := run_app_full (E := elEd) (P := Try.prog) (W := wc.drew) 39 39 i0 _ 16 Try.underlying39 HIZ.out HZ0.out hz1 hz2 rfl (by decide) D1 k (hR1 _ _ _ hre) hN1' D2 (N1 - (k + 1)) (q0 - (k + 1)) (hR2 _ _ _ hre) (by unfold maxLen; omega) (by omega)
    have hb45 : Below wc.heap.size wc w5 := stepB1 hb5
    obtain ⟨fs, hfs⟩ : ∃ fs, L.take k ++ L.drop (k + 1) = fs := ⟨_, rfl⟩
    obtain ⟨M, hM⟩ : ∃ M, k + (N1 - (k + 1)) = M := ⟨_, rfl⟩
    rw [hM] at hrun hc5 hr5
    rw [hfs] at hr5
    obtain ⟨V0, xe, xf, x2, y2⟩ := HX0.out.lay (D := NoB) (K := fun x => (L0 ≤ x ∧ x < U0) ∨ (wc.heap.size ≤ x ∧ x < w5.heap.size)) (by decide) (Chg.ofBelow hb45) (fun _ e => e.elim) hc5 (fun x h1 h2 => .inl ⟨h1, h2⟩) (hr5.mono fun x hx hl => by
      rcases hx with hx | hx
      · exact ⟨.inl ⟨hx.1, hx.2.1⟩, hx.2.2⟩
      · have h4 : wc.drew.heap.size = wc.heap.size := rfl
        exact ⟨.inr ⟨by omega, hl⟩, by omega⟩)
    obtain ⟨w6, hw6⟩ : ∃ w6, w5.setCell ⟨H0, 0, none⟩ (.slice A5 M c5) = w6 := ⟨_, rfl⟩
    have hch6 : Chg (fun x => x = H0) wc w6 := by rw [← hw6]; exact (Chg.ofBelow hb45).trans (Chg.set w5 ⟨H0, 0, none⟩ _) fun _ _ h => h
    have hw5s := hb45.size
    have hw56 : w6.heap.size = w5.heap.size := by rw [← hw6]; simp [World.setCell]
    have hwdc := HBX.out.size
    have HB6 : Hid (Below wd.heap.size wd w6) := Lib.hid (hch6.below HBX.out HBX.out.size fun x hx => by omega)
    have HY1 := Lib.hid (HX1.out.chg hch6 fun x hx => (show x ≠ P1 ∧ ¬ (L1 ≤ x ∧ x < U1) from by have := ap01.out; omega))
    have HY2 := Lib.hid (HX2.out.chg hch6 fun x hx => (show x ≠ P2 ∧ ¬ (L2 ≤ x ∧ x < U2) from by have := ap02.out; omega))
    have HY3 := Lib.hid (HX3.out.chg hch6 fun x hx => (show x ≠ P3 ∧ ¬ (L3 ≤ x ∧ x < U3) from by have := ap03.out; omega))
    rw [hw6] at V0
    have hPEl := (Array.getElem?_eq_some_iff.1 HED.out).1
    have HE6 : Hid (w6.heap[PE]? = some (.cells #[.int .i64 (ua : Int), .int .i64 (ub : Int)] 42 (0, 0))) := Lib.hid ((HB6.out.block PE hPEl).trans HED.out)
    obtain ⟨W5, hW5⟩ : ∃ W5, wc.heap.size = W5 := ⟨_, rfl⟩
    rw [hW5] at V0
    have HU1w : Hid (U1 ≤ W5 ∧ P1 < W5 ∧ U2 ≤ W5 ∧ P2 < W5 ∧ U3 ≤ W5 ∧ P3 < W5 ∧ U0 ≤ W5 ∧ P0 < W5 ∧ wd.heap.size ≤ P0 ∧ L0 ≤ H0 ∧ H0 < U0) := Lib.hid (by
      have a1 : U1 ≤ wc.heap.size ∧ P1 < wc.heap.size := HX1.out.lo.2.2
      have a2 : U2 ≤ wc.heap.size ∧ P2 < wc.heap.size := HX2.out.lo.2.2
      have a3 : U3 ≤ wc.heap.size ∧ P3 < wc.heap.size := HX3.out.lo.2.2
      omega)
    have HW56 : Hid (w6.heap.size = w5.heap.size ∧ W5 ≤ w5.heap.size) := Lib.hid ⟨hw56, by omega⟩
    have HW6 := Lib.hid hw6
    have HFS := Lib.hid hfs
    have HRUN := Lib.hid hrun
    have HB5 := Lib.hid hb45
    have HV0 := Lib.hid V0
    clear hw6 hch6 hw5s hw56 hwdc hPEl hW5
    have HM : Hid (M ≤ 111) := Lib.hid (by omega)
    clear hpL hNL hLp hfs hrun hb45 V0 hM hR1 hR2 hre hr5 hb5 hrd0 hD2 l0 l1
    go_wp2_with fail
    go_cut [172] (fun s172 wx => wx = w6)
    case first =>
      refine wp_region_held_drew (S := fun w' => w'.cell? ⟨P0, 2, none⟩ = some (.slice (some ⟨H0, 0, none⟩) 1 d0)) (by kernel_rfl) (l2) (fun hHeld => ?_)
      refine wpAnyH_take (i := 0) (v := ?_) rfl (by kernel_rfl) (by kernel_rfl) (by kernel_rfl) (fun _ _ _ h => h) (Or.inl ⟨by rfl, ?_⟩) (by assumption) ?_
      rotate_left
      · (intro w hSw; (try dsimp only at hSw); go_simp; try with_reducible rfl)
      try simp only [Act.put, List.setIfInBounds_toArray, List.set_cons_zero, List.set_cons_succ]
      refine wpAnyH_take (i := 1) (v := ?_) rfl (by kernel_rfl) (by kernel_rfl) (by kernel_rfl) (fun _ _ _ h => h) (Or.inl ⟨by rfl, ?_⟩) (by assumption) ?_
      rotate_left
      · (intro w hSw; (try dsimp only at hSw); go_simp; try with_reducible rfl)
      try simp only [Act.put, List.setIfInBounds_toArray, List.set_cons_zero, List.set_cons_succ]
      refine wpAnyH_take (i := 2) (v := ?_) rfl (by kernel_rfl) (by kernel_rfl) (by kernel_rfl) (fun _ _ _ h => h) (Or.inl ⟨by rfl, ?_⟩) (by assumption) ?_
      rotate_left
      · (intro w hSw; (try dsimp only at hSw); go_simp; try with_reducible rfl)
      try simp only [Act.put, List.setIfInBounds_toArray, List.set_cons_zero, List.set_cons_succ]
      refine wpAnyH_take (i := 3) (v := ?_) rfl (by kernel_rfl) (by kernel_rfl) (by kernel_rfl) (fun _ _ _ h => h) (Or.inl ⟨by rfl, ?_⟩) (by assumption) ?_
      rotate_left
      · (intro w hSw; (try dsimp only at hSw); go_simp; try with_reducible rfl)
      try simp only [Act.put, List.setIfInBounds_toArray, List.set_cons_zero, List.set_cons_succ]
      refine wpAnyH_take (i := 4) (v := ?_) rfl (by kernel_rfl) (by kernel_rfl) (by kernel_rfl) (fun _ _ _ h => h) (Or.inl ⟨by rfl, ?_⟩) (by assumption) ?_
      rotate_left
      · (intro w hSw; (try dsimp only at hSw); go_simp; try with_reducible rfl)
      try simp only [Act.put, List.setIfInBounds_toArray, List.set_cons_zero, List.set_cons_succ]
      refine wpAnyH_take (i := 6) (v := ?_) rfl (by kernel_rfl) (by kernel_rfl) (by kernel_rfl) (fun _ _ _ h => h) (Or.inl ⟨by rfl, ?_⟩) (by assumption) ?_
      rotate_left
      · (intro w hSw; (try dsimp only at hSw); go_simp; try with_reducible rfl)
      try simp only [Act.put, List.setIfInBounds_toArray, List.set_cons_zero, List.set_cons_succ]
      refine wpAnyH_take (i := 7) (v := ?_) rfl (by kernel_rfl) (by kernel_rfl) (by kernel_rfl) (fun _ _ _ h => h) (Or.inl ⟨by rfl, ?_⟩) (by assumption) ?_
      rotate_left
      · (intro w hSw; (try dsimp only at hSw); go_simp; try with_reducible rfl)
      try simp only [Act.put, List.setIfInBounds_toArray, List.set_cons_zero, List.set_cons_succ]
      refine wpAnyH_take (i := 9) (v := ?_) rfl (by kernel_rfl) (by kernel_rfl) (by kernel_rfl) (fun _ _ _ h => h) (Or.inl ⟨by rfl, ?_⟩) (by assumption) ?_
      rotate_left
      · (intro w hSw; (try dsimp only at hSw); go_simp; try with_reducible rfl)
      try simp only [Act.put, List.setIfInBounds_toArray, List.set_cons_zero, List.set_cons_succ]
      refine wpAnyH_take (i := 10) (v := ?_) rfl (by kernel_rfl) (by kernel_rfl) (by kernel_rfl) (fun _ _ _ h => h) (Or.inl ⟨by rfl, ?_⟩) (by assumption) ?_
      rotate_left
      · (intro w hSw; (try dsimp only at hSw); go_simp; try with_reducible rfl)
      try simp only [Act.put, List.setIfInBounds_toArray, List.set_cons_zero, List.set_cons_succ]
      refine wpAnyH_take (i := 11) (v := ?_) rfl (by kernel_rfl) (by kernel_rfl) (by kernel_rfl) (fun _ _ _ h => h) (Or.inl ⟨by rfl, ?_⟩) (by assumption) ?_
      rotate_left
      · (intro w hSw; (try dsimp only at hSw); go_simp; try with_reducible rfl)
      try simp only [Act.put, List.setIfInBounds_toArray, List.set_cons_zero, List.set_cons_succ]
      refine wpAnyH_take (i := 13) (v := ?_) rfl (by kernel_rfl) (by kernel_rfl) (by kernel_rfl) (fun _ _ _ h => h) (Or.inl ⟨by rfl, ?_⟩) (by assumption) ?_
      rotate_left
      · (intro w hSw; (try dsimp only at hSw); go_simp; try with_reducible rfl)
      try simp only [Act.put, List.setIfInBounds_toArray, List.set_cons_zero, List.set_cons_succ]
      refine wpAnyH_take (i := 14) (v := ?_) rfl (by kernel_rfl) (by kernel_rfl) (by kernel_rfl) (fun _ _ _ h => h) (Or.inl ⟨by rfl, ?_⟩) (by assumption) ?_
      rotate_left
      · (intro w hSw; (try dsimp only at hSw); go_simp; try with_reducible rfl)
      try simp only [Act.put, List.setIfInBounds_toArray, List.set_cons_zero, List.set_cons_succ]
      refine wpAnyH_ready (rs := [5, 12]) (by kernel_rfl) (by simp) ?_
      refine (AllReadyH.cons rfl (fun K hK => ?_) (AllReadyH.cons rfl (fun K hK => ?_) AllReadyH.nil))
      · go_simp
        refine hK.out _ _ (l2) (fun hHeld => ?_)
        clear hK K
        try simp only [Act.put, List.setIfInBounds_toArray, List.set_cons_zero, List.set_cons_succ]
        refine wpAnyH_take (i := 8) (v := ?_) rfl (by kernel_rfl) (by kernel_rfl) (by kernel_rfl) (fun _ _ _ h => h) (Or.inl ⟨by rfl, ?_⟩) (by assumption) ?_
        rotate_left
        · (intro w hSw; (try dsimp only at hSw); go_simp; try with_reducible rfl)
        try simp only [Act.put, List.setIfInBounds_toArray, List.set_cons_zero, List.set_cons_succ]
        refine wpAnyH_ready (rs := [12]) (by kernel_rfl) (by simp) ?_
        refine (AllReadyH.cons rfl (fun K hK => ?_) AllReadyH.nil)
        go_simp
        refine hK.out _ _ (l2) (fun hHeld => ?_)
        clear hK K
        try simp only [Act.put, List.setIfInBounds_toArray, List.set_cons_zero, List.set_cons_succ]
        refine wpAnyH_take (i := 15) (v := ?_) rfl (by kernel_rfl) (by kernel_rfl) (by kernel_rfl) (fun _ _ _ h => h) (Or.inl ⟨by rfl, ?_⟩) (by assumption) ?_
        rotate_left
        · (intro w hSw; (try dsimp only at hSw); go_simp; try with_reducible rfl)
        try simp only [Act.put, List.setIfInBounds_toArray, List.set_cons_zero, List.set_cons_succ]
        refine wpAnyH_ready (rs := [16]) (by kernel_rfl) (by simp) ?_
        refine (AllReadyH.cons rfl (fun K hK => ?_) AllReadyH.nil)
        refine stepRunL (by rfl) _ _ 39 (by rfl) (.slice D1 k k) (.slice D2 (N1 - (k + 1)) (q0 - (k + 1))) (.slice A5 M c5) (by go_simp) (by go_simp) HRUN.out ?_
        refine hK.out _ _ (x2) (fun hHeld => ?_)
        clear hK K
        try simp only [Act.put, List.setIfInBounds_toArray, List.set_cons_zero, List.set_cons_succ]
        refine wpAnyH_ready (rs := [17]) (by kernel_rfl) (by simp) ?_
        refine (AllReadyH.cons rfl (fun K hK => ?_) AllReadyH.nil)
        go_simp
        refine hK.out _ _ (x2) (fun hHeld => ?_)
        clear hK K
        try simp only [Act.put, List.setIfInBounds_toArray, List.set_cons_zero, List.set_cons_succ]
        refine wpAnyH_ready (rs := [18]) (by kernel_rfl) (by simp) ?_
        refine (AllReadyH.cons rfl (fun K hK => ?_) AllReadyH.nil)
        go_simp
        refine hK.out _ _ (y2) (fun hHeld => ?_)
        clear hK K
        try simp only [Act.put, List.setIfInBounds_toArray, List.set_cons_zero, List.set_cons_succ]
        refine wpAnyH_done (by kernel_rfl) ?_ _
        go_wp2_with fail
        go_meet
        exact HW6.out
      · go_simp
        refine hK.out _ _ (l2) (fun hHeld => ?_)
        clear hK K
        try simp only [Act.put, List.setIfInBounds_toArray, List.set_cons_zero, List.set_cons_succ]
        refine wpAnyH_take (i := 15) (v := ?_) rfl (by kernel_rfl) (by kernel_rfl) (by kernel_rfl) (fun _ _ _ h => h) (Or.inl ⟨by rfl, ?_⟩) (by assumption) ?_
        rotate_left
        · (intro w hSw; (try dsimp only at hSw); go_simp; try with_reducible rfl)
        try simp only [Act.put, List.setIfInBounds_toArray, List.set_cons_zero, List.set_cons_succ]
        refine wpAnyH_ready (rs := [5]) (by kernel_rfl) (by simp) ?_
        refine (AllReadyH.cons rfl (fun K hK => ?_) AllReadyH.nil)
        go_simp
        refine hK.out _ _ (l2) (fun hHeld => ?_)
        clear hK K
        try simp only [Act.put, List.setIfInBounds_toArray, List.set_cons_zero, List.set_cons_succ]
        refine wpAnyH_take (i := 8) (v := ?_) rfl (by kernel_rfl) (by kernel_rfl) (by kernel_rfl) (fun _ _ _ h => h) (Or.inl ⟨by rfl, ?_⟩) (by assumption) ?_
        rotate_left
        · (intro w hSw; (try dsimp only at hSw); go_simp; try with_reducible rfl)
        try simp only [Act.put, List.setIfInBounds_toArray, List.set_cons_zero, List.set_cons_succ]
        refine wpAnyH_ready (rs := [16]) (by kernel_rfl) (by simp) ?_
        refine (AllReadyH.cons rfl (fun K hK => ?_) AllReadyH.nil)
        refine stepRunL (by rfl) _ _ 39 (by rfl) (.slice D1 k k) (.slice D2 (N1 - (k + 1)) (q0 - (k + 1))) (.slice A5 M c5) (by go_simp) (by go_simp) HRUN.out ?_
        refine hK.out _ _ (x2) (fun hHeld => ?_)
        clear hK K
        try simp only [Act.put, List.setIfInBounds_toArray, List.set_cons_zero, List.set_cons_succ]
        refine wpAnyH_ready (rs := [17]) (by kernel_rfl) (by simp) ?_
        refine (AllReadyH.cons rfl (fun K hK => ?_) AllReadyH.nil)
        go_simp
        refine hK.out _ _ (x2) (fun hHeld => ?_)
        clear hK K
        try simp only [Act.put, List.setIfInBounds_toArray, List.set_cons_zero, List.set_cons_succ]
        refine wpAnyH_ready (rs := [18]) (by kernel_rfl) (by simp) ?_
        refine (AllReadyH.cons rfl (fun K hK => ?_) AllReadyH.nil)
        go_simp
        refine hK.out _ _ (y2) (fun hHeld => ?_)
        clear hK K
        try simp only [Act.put, List.setIfInBounds_toArray, List.set_cons_zero, List.set_cons_succ]
        refine wpAnyH_done (by kernel_rfl) ?_ _
        go_wp2_with fail
        go_meet
        exact HW6.out
    case rest =>
      subst hcut
      clear xe xf x2 y2 l2 le lf hD1 hN1' hD2' hw3 HRUN HW6 hA2 hA5 hkf
      obtain ⟨⟨m0, m1, m2⟩, me, mf, hpL1, hpq1, hLH1, hHU1, hPH1, hHl1, hPl1, hbL1, hbP1, hUw1, hrd1⟩ := HY1.out.facts hme
      have hub : ub < up10.length := by show ub < 10; omega
      obtain ⟨G1, rfl, hnU1, n0x, n1, hLG, hGU, V1⟩ := HY1.out.down (by decide) hme ub hub
      have hnU1' : nU1 = 10 := hnU1
      subst hnU1'
      have pe1 : wc.cell? ⟨PE, 1, none⟩ = some (.int .i64 (ub : Int)) := by have := HE6.out; simp [World.cell?, this]
      have hub1 : (ub : Int) < 10 := by omega
      have hub0 : (0 : Int) ≤ (ub : Int) := by omega
      have HV1 := Lib.hid V1
      obtain ⟨bz, n0⟩ : ∃ bz, wc.cell? ⟨G1, ub, none⟩ = some (.bool bz) := ⟨_, n0x⟩
      clear n0x
      clear hpL1 hrd1 hnU1 V1 hub me mf m0 m2
      go_upto_region 32 with (fail)
      obtain ⟨w7, hw7⟩ : ∃ w7, wc.setCell ⟨G1, ub, none⟩ (.bool false) = w7 := ⟨_, rfl⟩
      have hch7 : Chg (fun x => x = G1) wc w7 := by rw [← hw7]; exact Chg.set wc ⟨G1, ub, none⟩ _
      have hs7 : w7.heap.size = wc.heap.size := by rw [← hw7]; simp [World.setCell]
      have hu1w := HU1w.out
      rw [hw7] at HV1 ⊢
      have HB7 : Hid (Below wd.heap.size wd w7) := Lib.hid (hch7.below HB6.out HB6.out.size fun x hx => by omega)
      have HV0' := Lib.hid (HV0.out.chg hch7 (by have := ap01.out; omega) fun x hx => by have := ap01.out; omega)
      have HZ2 := Lib.hid (HY2.out.chg hch7 fun x hx => (show x ≠ P2 ∧ ¬ (L2 ≤ x ∧ x < U2) from by have := ap12.out; omega))
      have HZ3 := Lib.hid (HY3.out.chg hch7 fun x hx => (show x ≠ P3 ∧ ¬ (L3 ≤ x ∧ x < U3) from by have := ap13.out; omega))
      have HS7 : Hid (w7.heap.size = wc.heap.size) := Lib.hid hs7
      have HG1 : Hid (L1 ≤ G1 ∧ G1 < U1) := Lib.hid ⟨hLG, hGU⟩
      clear hw7 hch7 hs7 n0 n1 pe1 hu1w hpq1 hLH1 hHU1 hPH1 hHl1 hPl1 hbL1 hbP1 hUw1 hLG hGU m1 HV0 HY1 HY2 HY3 HX0 HX1 HX2 HX3 hub1 hub0
      obtain ⟨⟨l0, l1, l2⟩, le, lf, hpL, hpq2, hLH2, hHU2, hPH2, hHl2, hPl2, hbL2, hbP2, hUw2, hrd2⟩ := HZ2.out.facts hme
      have hNL := HN1.out
      obtain rfl : N1 = p2 := by omega
      have hA3 : C2 = none → N1 = 0 := fun e => by
        obtain ⟨b, o, e2, _⟩ := hrd2.2.2 hp0
        rw [e] at e2; cases e2
      have t2 := (HB7.out.cell (p := ⟨P, 2, none⟩) HTD.out.lt).trans HTD.out.cells.2.2
      have t3 := (HB7.out.cell (p := ⟨PH, 0, none⟩) (Nat.lt_of_lt_of_le HLH.out HBD.out.size)).trans HG3.out
      have hNc : N1 ≤ c1 := HC1.out
      obtain ⟨D3, hD3, hN3, hR3⟩ := cutFullR (P := Try.prog) elEd 39 rfl (fun W => rfl) C2 N1 q2 (k + 1) (by omega) hpq2 hA3
      obtain ⟨D4, hD4, hR4⟩ := cutFromR (P := Try.prog) elEd 39 rfl (fun W => rfl) (some ⟨be, oe, none⟩) N1 c1 k (by omega) hNc
      have HD4 := Lib.hid hD4
      have hD3' : ∀ (kl km : IntKind) (W' : World), (Instr.slice 39 (.slice C2 N1 q2) none (some (.int kl ((k : Int) + 1))) (some (.int km ((k : Int) + 1)))).run Try.prog W' = .ok (.slice D3 (k + 1) (k + 1)) W' := fun kl km W' => hD3 kl km W'
      have hw3 : IntKind.i64.wrap ((k : Int) + 1) = (k : Int) + 1 := IntWalk.i64_in _ ⟨by omega, by omega⟩
      have hwdr : wr.heap.size ≤ wd.heap.size := HBD.out.size
      have hwd7 : wd.heap.size ≤ w7.heap.size := HB7.out.size
      have hrt0 := ((HRD.out.below HBD.out).below HB7.out).below (Below.refl _ w7).drew
      have hre2 := hrd2.below (Below.refl _ w7).drew
      obtain ⟨A8, c8, w8, hrun8, hc8, hA8, hr8, hb8⟩ := run_app_full (E := elEd) (ok := fun x => (L2 ≤ x ∧ x < U2 ∧ x ≠ H2) ∨ x < wr.heap.size) (P := Try.prog) (W := w7.drew) 39 39 i0 _ 16 Try.underlying39 HIZ.out HZ0.out hz1 hz2 rfl (by decide) D3 (k + 1) (hR3 _ _ _ (hre2.mono fun x hx _ => .inl hx)) hN3 D4 (N1 - k) (c1 - k) (hR4 _ _ _ (hrt0.mono fun x hx _ => .inr hx.2)) (by unfold maxLen; omega) (by omega)
      have hb78 : Below w7.heap.size w7 w8 := stepB1 hb8
      have hw78 := hb78.size
      have hu1w := HU1w.out
      have hw56 := HW56.out
      have hs7c := HS7.out
      obtain ⟨M8, hM8⟩ : ∃ M8, k + 1 + (N1 - k) = M8 := ⟨_, rfl⟩
      rw [hM8] at hrun8 hc8 hr8
      obtain ⟨V2, xe, xf, x2, y2⟩ := HZ2.out.lay (D := NoB) (K := fun x => (L2 ≤ x ∧ x < U2) ∨ x < wr.heap.size ∨ (w7.heap.size ≤ x ∧ x < w8.heap.size)) (by decide) (Chg.ofBelow hb78) (fun _ e => e.elim) hc8 (fun x h1 h2 => .inl ⟨h1, h2⟩) (hr8.mono fun x hx hl => by
        rcases hx with (hx | hx) | hx
        · exact ⟨.inl ⟨hx.1, hx.2.1⟩, hx.2.2⟩
        · exact ⟨.inr (.inl hx), by omega⟩
        · have h4 : w7.drew.heap.size = w7.heap.size := rfl
          exact ⟨.inr (.inr ⟨by omega, hl⟩), by omega⟩)
      obtain ⟨w9, hw9⟩ : ∃ w9, w8.setCell ⟨H2, 0, none⟩ (.slice A8 M8 c8) = w9 := ⟨_, rfl⟩
      have hch9 : Chg (fun x => x = H2) w7 w9 := by rw [← hw9]; exact (Chg.ofBelow hb78).trans (Chg.set w8 ⟨H2, 0, none⟩ _) fun _ _ h => h
      have hw89 : w9.heap.size = w8.heap.size := by rw [← hw9]; simp [World.setCell]
      have HB9 : Hid (Below wd.heap.size wd w9) := Lib.hid (hch9.below HB7.out HB7.out.size fun x hx => by omega)
      have HV0b := Lib.hid (HV0'.out.chg hch9 (by have := ap02.out; omega) fun x hx => by have := ap02.out; omega)
      have HV1b := Lib.hid (HV1.out.chg hch9 (by have := ap12.out; omega) fun x hx => by have := ap12.out; omega)
      have HQ3 := Lib.hid (HZ3.out.chg hch9 fun x hx => (show x ≠ P3 ∧ ¬ (L3 ≤ x ∧ x < U3) from by have := ap23.out; omega))
      rw [hw9] at V2
      have HV2 := Lib.hid V2
      have hPlt : P < w7.heap.size := Nat.lt_of_lt_of_le HTD.out.lt HB7.out.size
      have hPHlt : PH < w7.heap.size := Nat.lt_of_lt_of_le (Nat.lt_of_lt_of_le HLH.out HBD.out.size) HB7.out.size
      have hPH2 : PH ≠ H2 := by have := HLH.out; omega
      have hPP2 : P ≠ H2 := by have := HTD.out.lt; omega
      have BX78 := Lib.hid fun (h : w7.cell? ⟨P, 2, none⟩ = some (.slice (some ⟨PH, 0, none⟩) 1 1)) => cellBelow hb78 h
      have BX79 := Lib.hid fun (h : w7.cell? ⟨PH, 0, none⟩ = some (.slice (some ⟨be, oe, none⟩) N1 c1)) => cellBelow hb78 h
      have BY78 := Lib.hid fun (h : w7.cell? ⟨P, 2, none⟩ = some (.slice (some ⟨PH, 0, none⟩) 1 1)) => (Chg.set w8 ⟨H2, 0, none⟩ (.slice A8 M8 c8)).cell (cellBelow hb78 h) hPP2
      have BY79 := Lib.hid fun (h : w7.cell? ⟨PH, 0, none⟩ = some (.slice (some ⟨be, oe, none⟩) N1 c1)) => (Chg.set w8 ⟨H2, 0, none⟩ (.slice A8 M8 c8)).cell (cellBelow hb78 h) hPH2
      have HW9 := Lib.hid hw9
      have HRUN8 := Lib.hid hrun8
      have HSZ9 : Hid (w7.heap.size ≤ w8.heap.size ∧ w9.heap.size = w8.heap.size ∧ W5 ≤ w7.heap.size ∧ wr.heap.size ≤ wd.heap.size ∧ wd.heap.size ≤ L2) := Lib.hid ⟨hw78, hw89, by omega, hwdr, hbL2⟩
      clear hrun8 hb8 hb78 hM8 hr8 V2 hw9 hch9 hw89 hw78 hu1w hw56 hs7c hre2 hrt0 hR3 hR4 hrd2 hD4 hpL hNL hwdr hwd7 HV0' HV1 HZ3 l0 l1
      have hD4' : ∀ (kl : IntKind) (W' : World), (Instr.slice 39 (.slice (some ⟨be, oe, none⟩) N1 c1) (some (.int kl (k : Int))) none none).run Try.prog W' = .ok (.slice D4 (N1 - k) (c1 - k)) W' := HD4.out
      go_wp2_with fail
      go_cut [196] (fun s196 wx => wx = w9)
      case first =>
        have x3 := BX78.out t2
        have x4 := BX79.out t3
        have y3 := BY78.out t2
        have y4 := BY79.out t3
        refine wp_region_held_drew (S := fun w' => w'.cell? ⟨P2, 2, none⟩ = some (.slice (some ⟨H2, 0, none⟩) 1 d2) ∧ w'.cell? ⟨P, 2, none⟩ = some (.slice (some ⟨PH, 0, none⟩) 1 1) ∧ w'.cell? ⟨PH, 0, none⟩ = some (.slice (some ⟨be, oe, none⟩) N1 c1)) (by kernel_rfl) (⟨l2, t2, t3⟩) (fun hHeld => ?_)
        refine wpAnyH_take (i := 0) (v := ?_) rfl (by kernel_rfl) (by kernel_rfl) (by kernel_rfl) (fun _ _ _ h => h) (Or.inl ⟨by rfl, ?_⟩) (by assumption) ?_
        rotate_left
        · (intro w hSw; (try dsimp only at hSw); go_simp; try with_reducible rfl)
        try simp only [Act.put, List.setIfInBounds_toArray, List.set_cons_zero, List.set_cons_succ]
        refine wpAnyH_take (i := 1) (v := ?_) rfl (by kernel_rfl) (by kernel_rfl) (by kernel_rfl) (fun _ _ _ h => h) (Or.inl ⟨by rfl, ?_⟩) (by assumption) ?_
        rotate_left
        · (intro w hSw; (try dsimp only at hSw); go_simp; try with_reducible rfl)
        try simp only [Act.put, List.setIfInBounds_toArray, List.set_cons_zero, List.set_cons_succ]
        refine wpAnyH_take (i := 2) (v := ?_) rfl (by kernel_rfl) (by kernel_rfl) (by kernel_rfl) (fun _ _ _ h => h) (Or.inl ⟨by rfl, ?_⟩) (by assumption) ?_
        rotate_left
        · (intro w hSw; (try dsimp only at hSw); go_simp; try with_reducible rfl)
        try simp only [Act.put, List.setIfInBounds_toArray, List.set_cons_zero, List.set_cons_succ]
        refine wpAnyH_take (i := 3) (v := ?_) rfl (by kernel_rfl) (by kernel_rfl) (by kernel_rfl) (fun _ _ _ h => h) (Or.inl ⟨by rfl, ?_⟩) (by assumption) ?_
        rotate_left
        · (intro w hSw; (try dsimp only at hSw); go_simp; try with_reducible rfl)
        try simp only [Act.put, List.setIfInBounds_toArray, List.set_cons_zero, List.set_cons_succ]
        refine wpAnyH_take (i := 4) (v := ?_) rfl (by kernel_rfl) (by kernel_rfl) (by kernel_rfl) (fun _ _ _ h => h) (Or.inl ⟨by rfl, ?_⟩) (by assumption) ?_
        rotate_left
        · (intro w hSw; (try dsimp only at hSw); go_simp; try with_reducible rfl)
        try simp only [Act.put, List.setIfInBounds_toArray, List.set_cons_zero, List.set_cons_succ]
        refine wpAnyH_take (i := 6) (v := ?_) rfl (by kernel_rfl) (by kernel_rfl) (by kernel_rfl) (fun _ _ _ h => h) (Or.inl ⟨by rfl, ?_⟩) (by assumption) ?_
        rotate_left
        · (intro w hSw; (try dsimp only at hSw); go_simp; try with_reducible rfl)
        try simp only [Act.put, List.setIfInBounds_toArray, List.set_cons_zero, List.set_cons_succ]
        refine wpAnyH_take (i := 7) (v := ?_) rfl (by kernel_rfl) (by kernel_rfl) (by kernel_rfl) (fun _ _ _ h => h) (Or.inl ⟨by rfl, ?_⟩) (by assumption) ?_
        rotate_left
        · (intro w hSw; (try dsimp only at hSw); go_simp; try with_reducible rfl)
        try simp only [Act.put, List.setIfInBounds_toArray, List.set_cons_zero, List.set_cons_succ]
        refine wpAnyH_take (i := 8) (v := ?_) rfl (by kernel_rfl) (by kernel_rfl) (by kernel_rfl) (fun _ _ _ h => h) (Or.inl ⟨by rfl, ?_⟩) (by assumption) ?_
        rotate_left
        · (intro w hSw; (try dsimp only at hSw); go_simp; try with_reducible rfl)
        try simp only [Act.put, List.setIfInBounds_toArray, List.set_cons_zero, List.set_cons_succ]
        refine wpAnyH_take (i := 9) (v := ?_) rfl (by kernel_rfl) (by kernel_rfl) (by kernel_rfl) (fun _ _ _ h => h) (Or.inl ⟨by rfl, ?_⟩) (by assumption) ?_
        rotate_left
        · (intro w hSw; (try dsimp only at hSw); go_simp; try with_reducible rfl)
        try simp only [Act.put, List.setIfInBounds_toArray, List.set_cons_zero, List.set_cons_succ]
        refine wpAnyH_take (i := 11) (v := ?_) rfl (by kernel_rfl) (by kernel_rfl) (by kernel_rfl) (fun _ _ _ h => h) (Or.inl ⟨by rfl, ?_⟩) (by assumption) ?_
        rotate_left
        · (intro w hSw; (try dsimp only at hSw); go_simp; try with_reducible rfl)
        try simp only [Act.put, List.setIfInBounds_toArray, List.set_cons_zero, List.set_cons_succ]
        refine wpAnyH_take (i := 12) (v := ?_) rfl (by kernel_rfl) (by kernel_rfl) (by kernel_rfl) (fun _ _ _ h => h) (Or.inl ⟨by rfl, ?_⟩) (by assumption) ?_
        rotate_left
        · (intro w hSw; (try dsimp only at hSw); go_simp; try with_reducible rfl)
        try simp only [Act.put, List.setIfInBounds_toArray, List.set_cons_zero, List.set_cons_succ]
        refine wpAnyH_take (i := 13) (v := ?_) rfl (by kernel_rfl) (by kernel_rfl) (by kernel_rfl) (fun _ _ _ h => h) (Or.inl ⟨by rfl, ?_⟩) (by assumption) ?_
        rotate_left
        · (intro w hSw; (try dsimp only at hSw); go_simp; try with_reducible rfl)
        try simp only [Act.put, List.setIfInBounds_toArray, List.set_cons_zero, List.set_cons_succ]
        refine wpAnyH_take (i := 14) (v := ?_) rfl (by kernel_rfl) (by kernel_rfl) (by kernel_rfl) (fun _ _ _ h => h) (Or.inl ⟨by rfl, ?_⟩) (by assumption) ?_
        rotate_left
        · (intro w hSw; (try dsimp only at hSw); go_simp; try with_reducible rfl)
        try simp only [Act.put, List.setIfInBounds_toArray, List.set_cons_zero, List.set_cons_succ]
        refine wpAnyH_take (i := 15) (v := ?_) rfl (by kernel_rfl) (by kernel_rfl) (by kernel_rfl) (fun _ _ _ h => h) (Or.inl ⟨by rfl, ?_⟩) (by assumption) ?_
        rotate_left
        · (intro w hSw; (try dsimp only at hSw); go_simp; try with_reducible rfl)
        try simp only [Act.put, List.setIfInBounds_toArray, List.set_cons_zero, List.set_cons_succ]
        refine wpAnyH_take (i := 16) (v := ?_) rfl (by kernel_rfl) (by kernel_rfl) (by kernel_rfl) (fun _ _ _ h => h) (Or.inl ⟨by rfl, ?_⟩) (by assumption) ?_
        rotate_left
        · (intro w hSw; (try dsimp only at hSw); go_simp; try with_reducible rfl)
        try simp only [Act.put, List.setIfInBounds_toArray, List.set_cons_zero, List.set_cons_succ]
        refine wpAnyH_ready (rs := [5]) (by kernel_rfl) (by simp) ?_
        refine (AllReadyH.cons rfl (fun K hK => ?_) AllReadyH.nil)
        go_simp
        refine hK.out _ _ (⟨l2, t2, t3⟩) (fun hHeld => ?_)
        clear hK K
        try simp only [Act.put, List.setIfInBounds_toArray, List.set_cons_zero, List.set_cons_succ]
        refine wpAnyH_take (i := 10) (v := ?_) rfl (by kernel_rfl) (by kernel_rfl) (by kernel_rfl) (fun _ _ _ h => h) (Or.inl ⟨by rfl, ?_⟩) (by assumption) ?_
        rotate_left
        · (intro w hSw; (try dsimp only at hSw); go_simp; try with_reducible rfl)
        try simp only [Act.put, List.setIfInBounds_toArray, List.set_cons_zero, List.set_cons_succ]
        refine wpAnyH_ready (rs := [17]) (by kernel_rfl) (by simp) ?_
        refine (AllReadyH.cons rfl (fun K hK => ?_) AllReadyH.nil)
        refine stepRunL (by rfl) _ _ 39 (by rfl) (.slice D3 (k + 1) (k + 1)) (.slice D4 (N1 - k) (c1 - k)) (.slice A8 M8 c8) (by go_simp) (by go_simp) HRUN8.out ?_
        refine hK.out _ _ (⟨x2, x3, x4⟩) (fun hHeld => ?_)
        clear hK K
        try simp only [Act.put, List.setIfInBounds_toArray, List.set_cons_zero, List.set_cons_succ]
        refine wpAnyH_ready (rs := [18]) (by kernel_rfl) (by simp) ?_
        refine (AllReadyH.cons rfl (fun K hK => ?_) AllReadyH.nil)
        go_simp
        refine hK.out _ _ (⟨x2, x3, x4⟩) (fun hHeld => ?_)
        clear hK K
        try simp only [Act.put, List.setIfInBounds_toArray, List.set_cons_zero, List.set_cons_succ]
        refine wpAnyH_ready (rs := [19]) (by kernel_rfl) (by simp) ?_
        refine (AllReadyH.cons rfl (fun K hK => ?_) AllReadyH.nil)
        go_simp
        refine hK.out _ _ (⟨y2, y3, y4⟩) (fun hHeld => ?_)
        clear hK K
        try simp only [Act.put, List.setIfInBounds_toArray, List.set_cons_zero, List.set_cons_succ]
        refine wpAnyH_done (by kernel_rfl) ?_ _
        go_wp2_with fail
        go_meet
        exact HW9.out
      case rest =>
        obtain ⟨ci, hci⟩ : ∃ ci : Nat, ci = 0 := ⟨_, rfl⟩
        clear hci
        rename_i sq1 sq136 sq148 sq149 sq418 sq419 sq420 sq421 sq422 sq423 sq424 sq425 sq426 sq427 sq428 sq429 sq430 sq431 sq432 sq433 sq434 sq435 sq436 sq437 sq438 sq439 sq440
           sq441 sq442 sq443 sq444 sq445 sq446 sq447 sq448 sq449 sq450 sq451 sq452 sq453 sq454 sq455 sq456 sq457 sq458 sq459 sq460 sq461 sq462 sq463 sq464 sq465 sq466 sq467 sq468
           sq469 sq470 sq471 sq472 sq473 sq474 sq475 sq476 sq477 sq478 sq479 sq480 sq481 sq482 sq483 sq484 sq485 sq486 sq487 sq488 sq489 sq490 sq491 sq492 sq493 sq494 sq495 sq496
           sq497 sq498 sq499 sq500 sq501 sq502 sq503 sq504 sq505 sq506 sq507 sq508 sq509 sq510 sq511 sq512 sq513 sq514 sq515 sq516 sq517 sq518 sq519 sq520 sq521 sq522 sq523 sq524
           sq525 sq526 sq527 sq528 sq529 sq530 sq531 sq532 sq533 sq534 sq535 sq536 sq537 sq538 sq539 sq540 sq541 sq542 sq543 sq544 sq545 sq546 sq547 sq548 sq549 sq550 sq551 sq552
           sq553 sq554 sq555 sq556 sq557 sq558 sq559 sq560 sq561 sq562 sq563 sq564 sq565 sq566 sq567 sq568 sq569 sq570 sq571 sq572 sq573 sq574 sq575 sq576 sq577 sq578 sq579 sq580
           sq581 sq582 sq583 sq584 sq585 sq586 sq587 sq588 sq589 sq590 sq591 sq592 sq593 sq594 sq595 sq596 sq597 sq598 sq599 sq600 sq601 sq602 sq603 sq604 sq605 sq606 sq607 sq608
           sq609 sq610 sq611 sq612 sq613 sq614 sq615 sq616 sq617 sq618 sq619 sq620 sq621 sq622 sq623 sq624 sq625 sq626 sq627 sq628 sq629 sq630 sq631 sq632 sq633 sq634 sq635 sq636
           sq637 sq638 sq639 sq640 sq641 sq642 sq643 sq644 sq645 sq646 sq647 sq648 sq649 sq650 sq651 sq652 sq723 sq724 sq725 sq726 sq727 sq728 sq729 sq730 sq731 sq732 sq733 sq734
           sq735 sq736 sq737 sq738 sq739 sq740 sq741 sq742 sq743 sq744 sq745 sq746 sq747 sq748 sq749 sq750 sq751 sq752 sq753 sq754 sq755 sq756 sq757 sq758 sq759 sq760 sq761 sq762
           sq763 sq764 sq765 sq766 sq767 sq768 sq769 sq770 sq771 sq772 sq773 sq774 sq775 sq776 sq777 sq778 sq779 sq780 sq781 sq782 sq783 sq784 sq785 sq786 sq787 sq788 sq789 sq790
           sq791 sq792 sq793 sq794 sq795 sq796 sq797 sq798 sq799 sq800 sq801 sq802 sq803 sq804 sq805 sq806 sq807 sq808 sq809 sq810 sq811 sq812 sq813 sq814 sq815 sq816 sq817 sq818
           sq819 sq820 sq821 sq822 sq823 sq824 sq825 sq826 sq827 sq828 sq829 sq830 sq831 sq832 sq833 sq834 sq835 sq836 sq837 sq838 sq839 sq840 sq841 sq842 sq843 sq844 sq845 sq846
           sq847 sq848 sq849 sq850 sq851 sq852 sq853 sq854 sq855 sq856 sq857 sq858 sq859 sq860 sq861 sq862 sq863 sq864 sq865 sq866 sq867 sq868 sq869 sq870 sq871 sq872 sq873 sq874
           sq875 sq876 sq877 sq878 sq879 sq880 sq881 sq882 sq883 sq884 sq885 sq886 sq887 sq888 sq889 sq890 sq891 sq892 sq893 sq894 sq895 sq896 sq897 sq898 sq899 sq900 sq901 sq902
           sq903 sq904 sq905 sq906 sq907 sq908 sq909 sq910 sq911 sq912 sq913 sq914 sq915 sq916 sq917 sq918 sq919 sq920 sq921 sq922 sq923 sq924 sq925 sq926 sq927 sq928 sq929 sq930
           sq931 sq932 sq933 sq934 sq935 sq936 sq937 sq938 sq939 sq940 sq941 sq942 sq943 sq944 sq945 sq946 sq947 sq948 sq949 sq950 sq951 sq952 sq953 sq954 sq955 sq956 sq957 sq958
           sq964 sq965 sq974
        revert sq1 jj w A n c l mm ep hc hm hep hln hmx HR qq13 w1 HB1 w2 PU PH qq19 w3 P Q F HCB i0 hz1 hz2 HIZ HZ0 HW1 gk wr u10 u11 u12 rq38 rq39 rq40 rq41 rq42 rq43 rq44 rq45
           rq46 rq47 rq48 rq49 rq50 rq51 rq52 rq53 rq54 rq55 rq56 rq57 rq58 rq59 rq60 rq61 rq62 rq63 rq64 rq65 rq66 rq67 rq68 rq69 rq70 rq71 rq72 rq73 rq74 rq75 rq76 rq77 rq78 rq79
           rq80 rq81 rq82 rq83 rq84 rq85 rq86 rq87 rq88 rq89 rq90 rq91 rq92 rq93 rq94 rq95 rq96 rq97 rq98 rq99 rq100 rq101 rq102 rq103 rq104 qq104 qq105 qq106 qq107 L ha hga HI hlt
           HFW c1 N1 hc1 hN1 HC1 hN1le HN1 HTB rq123 HCR HGD HBR HLT HLH rq129 rq130 hlti w4 HT4 HB4 sq136 AV nV cV HV dV CV pV qV hH5 w6 P5 sq148 sq149 rb rq150 rq151 rq152 rq153
           rq154 rq155 rq156 rq157 rq158 rq159 rq160 rq161 rq162 rq163 rq164 rq165 rq166 rq167 rq168 rq169 rq170 rq171 rq172 rq173 rq174 rq175 rq176 rq177 rq178 rq179 rq180 rq181
           rq182 rq183 rq184 rq185 rq186 rq187 rq188 rq189 rq190 rq191 rq192 rq193 rq194 rq195 rq196 rq197 rq198 rq199 rq200 rq201 rq202 rq203 rq204 rq205 rq206 rq207 rq208 rq209
           rq210 rq211 rq212 rq213 rq214 rq215 rq216 rq217 rq218 rq219 rq220 rq221 rq222 rq223 rq224 rq225 rq226 rq227 rq228 rq229 rq230 rq231 rq232 rq233 rq234 rq235 rq236 rq237
           rq238 rq239 rq240 rq241 rq242 rq243 rq244 rq245 rq246 rq247 rq248 rq249 rq250 rq251 rq252 rq253 rq254 rq255 rq256 rq257 rq258 rq259 rq260 rq261 rq262 rq263 rq264 rq265
           rq266 rq267 rq268 rq269 rq270 rq271 rq272 rq273 rq274 rq275 rq276 rq277 rq278 rq279 rq280 rq281 rq282 rq283 rq284 rq285 rq286 rq287 rq288 rq289 rq290 rq291 rq292 rq293
           rq294 rq295 rq296 rq297 rq298 rq299 rq300 rq301 rq302 rq303 rq304 rq305 rq306 rq307 rq308 rq309 rq310 rq311 rq312 rq313 rq314 rq315 rq316 rq317 rq318 rq319 rq320 rq321
           rq322 rq323 rq324 rq325 rq326 rq327 rq328 rq329 rq330 rq331 rq332 rq333 rq334 rq335 rq336 rq337 rq338 rq339 rq340 rq341 rq342 rq343 rq344 rq345 rq346 rq347 rq348 rq349
           rq350 rq351 rq352 rq353 rq354 rq355 rq356 rq357 rq358 rq359 rq360 rq361 rq362 rq363 rq364 rq365 rq366 rq367 rq368 rq369 rq370 rq371 rq372 rq373 rq374 rq375 rq376 rq377
           rq378 rq379 rq380 rq381 rq382 rq383 HBC HTC HCC hp0 hpi hpe k hrem hkp hkpi hk0 ua ub hab hb9 rq399 be oe HO HT HRD rq405 rq406 rq407 HUM HU wd PE HBD HTD HCD HED HG3
           sq418 sq419 sq420 sq421 sq422 sq423 sq424 sq425 sq426 sq427 sq428 sq429 sq430 sq431 sq432 sq433 sq434 sq435 sq436 sq437 sq438 sq439 sq440 sq441 sq442 sq443 sq444 sq445
           sq446 sq447 sq448 sq449 sq450 sq451 sq452 sq453 sq454 sq455 sq456 sq457 sq458 sq459 sq460 sq461 sq462 sq463 sq464 sq465 sq466 sq467 sq468 sq469 sq470 sq471 sq472 sq473
           sq474 sq475 sq476 sq477 sq478 sq479 sq480 sq481 sq482 sq483 sq484 sq485 sq486 sq487 sq488 sq489 sq490 sq491 sq492 sq493 sq494 sq495 sq496 sq497 sq498 sq499 sq500 sq501
           sq502 sq503 sq504 sq505 sq506 sq507 sq508 sq509 sq510 sq511 sq512 sq513 sq514 sq515 sq516 sq517 sq518 sq519 sq520 sq521 sq522 sq523 sq524 sq525 sq526 sq527 sq528 sq529
           sq530 sq531 sq532 sq533 sq534 sq535 sq536 sq537 sq538 sq539 sq540 sq541 sq542 sq543 sq544 sq545 sq546 sq547 sq548 sq549 sq550 sq551 sq552 sq553 sq554 sq555 sq556 sq557
           sq558 sq559 sq560 sq561 sq562 sq563 sq564 sq565 sq566 sq567 sq568 sq569 sq570 sq571 sq572 sq573 sq574 sq575 sq576 sq577 sq578 sq579 sq580 sq581 sq582 sq583 sq584 sq585
           sq586 sq587 sq588 sq589 sq590 sq591 sq592 sq593 sq594 sq595 sq596 sq597 sq598 sq599 sq600 sq601 sq602 sq603 sq604 sq605 sq606 sq607 sq608 sq609 sq610 sq611 sq612 sq613
           sq614 sq615 sq616 sq617 sq618 sq619 sq620 sq621 sq622 sq623 sq624 sq625 sq626 sq627 sq628 sq629 sq630 sq631 sq632 sq633 sq634 sq635 sq636 sq637 sq638 sq639 sq640 sq641
           sq642 sq643 sq644 sq645 sq646 sq647 sq648 sq649 sq650 sq651 sq652 L0 U0 P0 AU0 nU0 cU0 H0 d0 C0 q0 L1 U1 P1 cU1 H1 d1 C1 p1 q1 L2 U2 P2 AU2 nU2 cU2 H2 d2 C2 q2 L3 U3 P3
           AU3 nU3 cU3 H3 d3 C3 p3 q3 HBX hme ap01 ap02 ap03 ap12 ap13 ap23 hLH hHU hPH hHl hPl hbL hbP hUw hpq0 D1 D2 A5 c5 w5 fs M hc5 W5 HU1w HFS HB5 HM sq723 sq724 sq725 sq726
           sq727 sq728 sq729 sq730 sq731 sq732 sq733 sq734 sq735 sq736 sq737 sq738 sq739 sq740 sq741 sq742 sq743 sq744 sq745 sq746 sq747 sq748 sq749 sq750 sq751 sq752 sq753 sq754
           sq755 sq756 sq757 sq758 sq759 sq760 sq761 sq762 sq763 sq764 sq765 sq766 sq767 sq768 sq769 sq770 sq771 sq772 sq773 sq774 sq775 sq776 sq777 sq778 sq779 sq780 sq781 sq782
           sq783 sq784 sq785 sq786 sq787 sq788 sq789 sq790 sq791 sq792 sq793 sq794 sq795 sq796 sq797 sq798 sq799 sq800 sq801 sq802 sq803 sq804 sq805 sq806 sq807 sq808 sq809 sq810
           sq811 sq812 sq813 sq814 sq815 sq816 sq817 sq818 sq819 sq820 sq821 sq822 sq823 sq824 sq825 sq826 sq827 sq828 sq829 sq830 sq831 sq832 sq833 sq834 sq835 sq836 sq837 sq838
           sq839 sq840 sq841 sq842 sq843 sq844 sq845 sq846 sq847 sq848 sq849 sq850 sq851 sq852 sq853 sq854 sq855 sq856 sq857 sq858 sq859 sq860 sq861 sq862 sq863 sq864 sq865 sq866
           sq867 sq868 sq869 sq870 sq871 sq872 sq873 sq874 sq875 sq876 sq877 sq878 sq879 sq880 sq881 sq882 sq883 sq884 sq885 sq886 sq887 sq888 sq889 sq890 sq891 sq892 sq893 sq894
           sq895 sq896 sq897 sq898 sq899 sq900 sq901 sq902 sq903 sq904 sq905 sq906 sq907 sq908 sq909 sq910 sq911 sq912 sq913 sq914 sq915 sq916 sq917 sq918 sq919 sq920 sq921 sq922
           sq923 sq924 sq925 sq926 sq927 sq928 sq929 sq930 sq931 sq932 sq933 sq934 sq935 sq936 sq937 sq938 sq939 sq940 sq941 sq942 sq943 sq944 sq945 sq946 sq947 sq948 sq949 sq950
           sq951 sq952 sq953 sq954 sq955 sq956 sq957 sq958 HB6 HE6 HW56 G1 bz sq964 sq965 w7 HB7 HS7 HG1 l2 lf hLH2 hHU2 sq974 hHl2 hPl2 hbL2 hbP2 hUw2 HZ2 le hpq2 hA3 t2 t3 hNc D3
           hD3 hN3 D4 HD4 hD3' hw3 A8 c8 w8 hA8 M8 hc8 xe xf x2 y2 w9 HB9 HV0b HV1b HQ3 HV2 hPlt hPHlt hPH2 hPP2 BX78 BX79 BY78 BY79 HW9 HRUN8 HSZ9 hD4' wc u23 u24 u25 u26 u27 u28
           u29 u30 u31 u32 u33 u34 u35 u36 u37 u38 u39 u40 u41 u42 u43 u44 u45 u46 u47 u48 u49 u50 u51 u52 u53 u54 u55 u56 u57 u58 u59 u60 u61 u62 u63 u64 u65 u66 u67 u68 u69 u70
           u71 u72 u73 u74 u75 u76 u77 u78 u79 u80 u81 u82 u83 u84 u85 u86 u87 u88 u89 u90 u91 u92 u93 u94 u95 u96 u97 u98 u99 u100 u101 u102 u103 u104 u105 u106 u107 u108 u109 u110
           u111 u112 u113 u114 u115 u116 u117 u118 u119 u120 u121 u122 u123 u124 u125 u126 u127 u128 u129 u130 u131 u132 u133 u134 u135 u136 u137 u138 u139 u140 u141 u142 u143 u144
           u145 u146 u147 u148 u149 u150 u151 u152 u153 u154 u155 u156 u157 u158 u159 u160 u161 u162 u163 u164 u165 u166 u167 u168 u169 u170 u171 u172 u173 u174 u175 u176 u177 u178
           u179 u180 u181 u182 u183 u184 u185 u186 u187 u188 u189 u190 u191 u192 u193 u194 u195 u196 u197 u198 u199 u200 u201 u202 u203 u204 u205 u206 u207 u208 u209 u210 u211 u212
           u213 u214 u215 u216 u217 u218 u219 u220 u221 u222 u223 u224 u225 u226 u227 u228 u229 u230 u231 u232 u233 u234 u235 u236 u237 u238 u239 u240 u241 u242 u243 u244 u245 u246
           u247 u248 u249 u250 u251 u252 u253 u254 u255 u256 hcut
        exact hCutP ci
end Go.Proofs.Ytgfnlfkbbedkaaa
