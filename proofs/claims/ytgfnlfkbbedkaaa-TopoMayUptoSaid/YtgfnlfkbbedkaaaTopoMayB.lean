/-
  TopoMay: behind the loops, up to the four copies.
-/
import Derived.Test.YtgfnlfkbbedkaaaTopoMayA
import Derived.Deep.CutBlock
namespace Go.Proofs.Ytgfnlfkbbedkaaa
open Go.RowKit
set_option linter.unusedVariables false
set_option linter.unusedSimpArgs false

set_option maxRecDepth 100000 in
set_option maxHeartbeats 16000000 in
noncomputable def cutTMB : PSigma fun p : Nat → Prop => (∀ i, p i) → ∀ j, cutTMA.1 j := by
  apply PSigma.mk
  case snd =>
    intro hCutP jj
    intro w A n c l mm ep hc hm hep hln hmx HR qq13 w1 HB1 w2 PU PH qq19 qq20 w3 P Q F HCB i0 hz1 hz2 HIZ HZ0 HW1 gk wr u10 u11 u12 u28 u29 u30 u31 u32 u33 u34 u35 u36 u37 u38 u39
       u40 u41 u42 u43 u44 u45 u46 u47 u48 u49 u50 u51 u52 u53 u54 u55 u56 u57 u58 u59 u60 u61 u62 u63 u64 u65 u66 u67 u68 u69 u70 u71 u72 u73 u74 u75 u76 u77 u78 u79 u80 u81 u82
       u83 u84 u85 u86 u87 u88 u89 u90 u91 u92 u93 u94 qq104 qq105 qq106 qq107 a ev L ha hga HT HO HI hlt hlti
    obtain rfl : a = 10 := by omega
    have hL := HI.out.len
    have HFW : Hid (Few [L]) := Lib.hid (few_one (by omega))
    obtain ⟨A1, c1, e1, hc1, hR1⟩ := HO.out.rd (by omega)
    obtain ⟨N1, hN1⟩ : ∃ N1, L.length = N1 := ⟨_, rfl⟩
    rw [hN1] at e1 hc1 hR1
    subst e1
    have HC1 := Lib.hid hc1
    have hN1le : N1 ≤ 111 := by omega
    have HN1 := Lib.hid hN1
    have HRD := Lib.hid (hR1.mono (ok' := fun k => w1.heap.size ≤ k ∧ k < wr.heap.size) fun k hk hl => ⟨hk.1, hl⟩)
    have hTB := HT.out.box (upN_len 10 (by omega)) hc1 hR1
    rw [upN_ten] at hTB
    have HTB := Lib.hid hTB
    obtain ⟨f0, f1, f2, f3, f4, _⟩ := HT.out.facts
    have hCBr := HCB.out.below HT.out.bel
    have HCR := Lib.hid hCBr
    obtain ⟨c0, c1', c2, c3⟩ := hCBr.cells
    have hgd := HI.out.good (by omega)
    have hm1 := hCBr.may hTB HFW.out (r := true) (by rw [may_good hgd, HI.out.order]; decide)
    have HGD := Lib.hid hgd
    have HBR := Lib.hid (belowThen HB1.out HB1.out.size HT.out.bel)
    have HLT := Lib.hid (Array.getElem?_eq_some_iff.1 HT.out.bt).1
    have HLH := Lib.hid (Array.getElem?_eq_some_iff.1 HT.out.bh).1
    clear hR1 hTB hCBr hgd hL
    go_wp2_with fail
    refine hm1.mono ?_
    rintro e w4 ⟨rfl, b4⟩
    have HT4 := Lib.hid (HTB.out.below b4)
    have HB4 := Lib.hid b4
    have hcp := copy_calls w4 _ 1 _ [L] HT4.out.tv HFW.out (by decide) (by simp)
    obtain ⟨t0, t1, t2⟩ := HT4.out.cells
    clear hm1 f0 f1 f2 c0 c1' c2 c3 b4
    go_upto_region 20 with (go_at_call 17; (with_reducible refine hcp.mono ?_); rintro e w5 ⟨v5, rfl, hT5, b5⟩; obtain ⟨AV, nV, cV, HV, dV, CV, pV, qV, rfl, hL5, hE5, hU5, hH5⟩ := T1.made hT5 (by decide) (by have := HN1.out; omega); have HB5 := Lib.hid b5; have HL5 := Lib.hid hL5; have HE5 := Lib.hid hE5; have HU5 := Lib.hid hU5; clear hT5 b5 hL5 hE5 hU5 hcp)
    obtain ⟨w6, hw6⟩ : ∃ w6, w5.alloc (.cells #[.int .u64 1, .slice AV nV cV, .slice (some ⟨HV, 0, none⟩) 1 dV] 27) = w6 := ⟨_, rfl⟩
    have b6 : Below w5.heap.size w5 w6 := by rw [← hw6]; exact (Below.refl _ _).alloc (Nat.le_refl _) _
    have e6 : w6.heap[w5.heap.size]? = some (.cells #[.int .u64 1, .slice AV nV cV, .slice (some ⟨HV, 0, none⟩) 1 dV] 27 (0, 0)) := by rw [← hw6]; exact heap_alloc_new w5 _
    have hb46 : Below w4.heap.size w4 w6 := belowThen HB5.out HB5.out.size b6
    have hs45 := HB5.out.size
    rw [hw6] at HL5 HE5 HU5 ⊢
    obtain ⟨P5, hP5⟩ : ∃ P5, w5.heap.size = P5 := ⟨_, rfl⟩
    rw [hP5] at HL5 HE5 HU5 e6 ⊢
    have hL7 := HL5.out.epoch HU5.out HE5.out (by decide) (by have := HN1.out; omega) (fun k hk => ⟨by omega, hk.2.2.1⟩) (fun k hk => ⟨by omega, hk.2.2.1⟩) (ep : Int)
    have hb47 : Below w4.heap.size w4 (w6.setCell ⟨P5, 0, none⟩ (.int .u64 (ep : Int))) := hb46.setCell (p := ⟨P5, 0, none⟩) (by show w4.heap.size ≤ P5; omega) _
    have z6 : w6.frozen? ⟨P5, 0, none⟩ = false := by simp [World.frozen?, e6]
    have z7 : w6.cell? ⟨P5, 0, none⟩ = some (.int .u64 1) := by simp [World.cell?, e6]
    have hb4r := HB4.out.size
    clear e6 hw6 b6 hb46 HL5 HE5 HU5 t0 t1 t2 HB5
    go_upto_region 21 with (fail)
    obtain ⟨w7, hw7⟩ : ∃ w7, w6.setCell ⟨P5, 0, none⟩ (.int .u64 (ep : Int)) = w7 := ⟨_, rfl⟩
    rw [hw7] at hL7 hb47 ⊢
    have hbr7 := belowThen HB4.out HB4.out.size hb47
    have HB7 := Lib.hid hbr7
    have hC7 := HCR.out.below hbr7
    obtain ⟨c0, c1', c2, c3⟩ := hC7.cells
    obtain ⟨t0, t1, t2⟩ := hL7.cells
    obtain ⟨rb, hrb⟩ : ∃ rb, mayOk 10 fl9 4 4 (ep : Int) up10 [L] = rb := ⟨_, rfl⟩
    have hm2 := hC7.may hL7.box HFW.out hrb
    rw [may_good HGD.out, HI.out.order] at hrb
    have HRB := Lib.hid hrb
    have HM2 := Lib.hid hm2
    clear hrb hm2 hC7 hL7 hb47 hbr7 z6 z7 hw7 hs45 hP5 hb4r
    go_cut [112] (fun s112 wx => s112 = .bool false ∧ Hid (Below w7.heap.size w7 wx))
    case first =>
      have hm2 := HM2.out
      have hrb := HRB.out
      obtain ⟨d1, hd1⟩ : ∃ d1, decide ((ep : Int) ≥ 1) = d1 := ⟨_, rfl⟩
      obtain ⟨d2, hd2⟩ : ∃ d2, decide ((ep : Int) ≤ 1125899906842624) = d2 := ⟨_, rfl⟩
      have hd1' : decide (1 ≤ (ep : Int)) = d1 := hd1
      rw [hd1', hd2] at hrb
      cases d1 <;> cases d2
      all_goals
        obtain rfl := hrb.symm
        clear hrb hd1'
        go_wp2_with fail
        refine hm2.mono ?_
        rintro e w8 ⟨rfl, b8⟩
        have B8 := Lib.hid b8
        clear hm2 b8
        go_wp2_with fail
        go_meet
        exact ⟨rfl, B8⟩
    case rest =>
      obtain ⟨rfl, HX⟩ := hcut
      have hbrc := belowThen HB7.out HB7.out.size HX.out
      have HBC := Lib.hid hbrc
      have HTC := Lib.hid (HTB.out.below hbrc)
      have HCC := Lib.hid (HCR.out.below hbrc)
      obtain ⟨g0, g1, g2⟩ := HTC.out.cells
      have g3 := (hbrc.cell (p := ⟨PH, 0, none⟩) HLH.out).trans f3
      clear t0 t1 t2 c0 c1' c2 c3 HM2 HRB hbrc HX f3 f4
      rcases Nat.eq_zero_or_pos N1 with hp0 | hp0
      · subst hp0
        have hwk := wakes_calls wc
        go_wp2_with fail
        refine hwk.mono ?_
        rintro e w8 ⟨rfl, b8⟩
        have HB8 := Lib.hid (belowThen (belowThen HBR.out HBR.out.size HBC.out) (by have := HBR.out.size; have := HBC.out.size; omega) b8)
        clear hwk b8
        go_wp2_with fail
        go_ret
        exact ⟨rfl, HB8.out⟩
      · have hpi : (N1 : Int) > 0 := by omega
        have hpe : ((N1 : Int) == 0) = false := by rw [beq_eq_false_iff_ne]; omega
        have hrem : (mm : Int) % (N1 : Int) = ((mm % N1 : Nat) : Int) := by omega
        obtain ⟨k, hk⟩ : ∃ k, mm % N1 = k := ⟨_, rfl⟩
        have hkp : k < N1 := by rw [← hk]; exact Nat.mod_lt _ hp0
        rw [hk] at hrem
        have hkpi : (k : Int) < (N1 : Int) := by omega
        have hk0 : (0 : Int) ≤ (k : Int) := by omega
        have hrdc := HRD.out.below HBC.out
        have hNL := HN1.out
        obtain ⟨u, hu⟩ : ∃ u, L[k]? = some u := ⟨_, List.getElem?_eq_getElem (by omega)⟩
        obtain ⟨ua, ub, rfl, hab, hb9, _⟩ := HI.out.in_ u (List.mem_of_getElem? hu)
        obtain ⟨be, oe, vse, rfl, hbe, _, hVe, hcle⟩ := hrdc.at_ k _ hu
        obtain ⟨rfl, _, _⟩ := ed_open hVe
        have e0 : wc.cell? ⟨be, oe + k * 2, none⟩ = some (.int .i64 (ua : Int)) := hcle 0 _ rfl
        have e1 : wc.cell? ⟨be, oe + k * 2 + 1, none⟩ = some (.int .i64 (ub : Int)) := hcle 1 _ rfl
        have HUM := Lib.hid (List.mem_of_getElem? hu)
        have HU := Lib.hid hu
        clear hk hrdc hNL hu hVe hcle hbe
        go_upto_region 27 with (fail)
        obtain ⟨wd, hwd⟩ : ∃ wd, wc.alloc (.cells #[.int .i64 (ua : Int), .int .i64 (ub : Int)] 42) = wd := ⟨_, rfl⟩
        have bd : Below wc.heap.size wc wd := by rw [← hwd]; exact (Below.refl _ _).alloc (Nat.le_refl _) _
        have ed : wd.heap[wc.heap.size]? = some (.cells #[.int .i64 (ua : Int), .int .i64 (ub : Int)] 42 (0, 0)) := by rw [← hwd]; exact heap_alloc_new wc _
        rw [hwd]
        obtain ⟨PE, hPE⟩ : ∃ PE, wc.heap.size = PE := ⟨_, rfl⟩
        rw [hPE] at ed ⊢
        rw [hrem]
        have HBD := Lib.hid (belowThen HBC.out HBC.out.size bd)
        have HTD := Lib.hid (HTC.out.below bd)
        have HCD := Lib.hid (HCC.out.below bd)
        have HED := Lib.hid ed
        have HG3 := Lib.hid ((bd.cell (p := ⟨PH, 0, none⟩) (Nat.lt_of_lt_of_le HLH.out HBC.out.size)).trans g3)
        clear g0 g1 g2 g3 e0 e1 ed hwd bd hPE
        obtain ⟨g0, g1, g2⟩ := HTD.out.cells
        have hT0 := HTD.out.drew.tv
        go_cut [16, 17, 18, 19] (fun s16 s17 s18 s19 wx => ∃ x0 x1 x2 x3 : Dat, s16 = .pointer (some ⟨x0.P, 0, none⟩) ∧ s17 = .pointer (some ⟨x1.P, 0, none⟩) ∧ s18 = .pointer (some ⟨x2.P, 0, none⟩) ∧ s19 = .pointer (some ⟨x3.P, 0, none⟩) ∧ Hid (Below wd.heap.size wd wx) ∧ Hid (Bx wd.heap.size wx x0 up10 L) ∧ Hid (Bx wd.heap.size wx x1 up10 L) ∧ Hid (Bx wd.heap.size wx x2 up10 L) ∧ Hid (Bx wd.heap.size wx x3 up10 L) ∧ Hid (apart2 x0 x1 ∧ apart2 x0 x2 ∧ apart2 x0 x3 ∧ apart2 x1 x2 ∧ apart2 x1 x3 ∧ apart2 x2 x3))
        case first =>
          refine wp_region_held_drew (S := fun w' => w'.cell? ⟨P, 0, none⟩ = some (.int .u64 1) ∧ w'.cell? ⟨P, 1, none⟩ = some (.slice (some ⟨PU, 0, none⟩) 10 10) ∧ w'.cell? ⟨P, 2, none⟩ = some (.slice (some ⟨PH, 0, none⟩) 1 1)) (by kernel_rfl) (⟨g0, g1, g2⟩) (fun hHeld => ?_)
          refine wpAnyH_take (i := 0) (v := ?_) rfl (by kernel_rfl) (by kernel_rfl) (by kernel_rfl) (fun _ _ _ h => h) (Or.inl ⟨by rfl, ?_⟩) (by assumption) ?_
          rotate_left
          · (intro w hSw; (try dsimp only at hSw); go_simp; try with_reducible rfl)
          try simp only [Act.put, List.setIfInBounds_toArray, List.set_cons_zero, List.set_cons_succ]
          refine wpAnyH_take (i := 2) (v := ?_) rfl (by kernel_rfl) (by kernel_rfl) (by kernel_rfl) (fun _ _ _ h => h) (Or.inl ⟨by rfl, ?_⟩) (by assumption) ?_
          rotate_left
          · (intro w hSw; (try dsimp only at hSw); go_simp; try with_reducible rfl)
          try simp only [Act.put, List.setIfInBounds_toArray, List.set_cons_zero, List.set_cons_succ]
          refine wpAnyH_take (i := 4) (v := ?_) rfl (by kernel_rfl) (by kernel_rfl) (by kernel_rfl) (fun _ _ _ h => h) (Or.inl ⟨by rfl, ?_⟩) (by assumption) ?_
          rotate_left
          · (intro w hSw; (try dsimp only at hSw); go_simp; try with_reducible rfl)
          try simp only [Act.put, List.setIfInBounds_toArray, List.set_cons_zero, List.set_cons_succ]
          refine wpAnyH_take (i := 6) (v := ?_) rfl (by kernel_rfl) (by kernel_rfl) (by kernel_rfl) (fun _ _ _ h => h) (Or.inl ⟨by rfl, ?_⟩) (by assumption) ?_
          rotate_left
          · (intro w hSw; (try dsimp only at hSw); go_simp; try with_reducible rfl)
          try simp only [Act.put, List.setIfInBounds_toArray, List.set_cons_zero, List.set_cons_succ]
          refine four_boxes wd.drew (.agg #[.int .u64 1, .slice (some ⟨PU, 0, none⟩) 10 10, .slice (some ⟨PH, 0, none⟩) 1 1]) up10 L hT0 HFW.out (by decide) (by have := HN1.out; omega) _ rfl ?_ ?_ ?_ ?_ ?_ (by kernel_rfl) (by kernel_rfl) (by kernel_rfl) (by kernel_rfl) (by kernel_rfl) ?_ ?_
          · intro k hk
            match k, hk with
            | 0, _ | 1, _ | 2, _ | 3, _ => exact ⟨_, rfl, rfl, rfl, rfl⟩
          · intro k h4 hk
            match k, h4, hk with
            | 4, _, _ | 5, _, _ | 6, _, _ | 7, _, _ => exact ⟨_, rfl, rfl, rfl, rfl⟩
          · intro k hk
            match k, hk with
            | 0, _ | 1, _ | 2, _ | 3, _ => exact ⟨_, rfl, rfl, rfl, rfl⟩
          · intro k hk
            match k, hk with
            | 0, _ | 1, _ | 2, _ | 3, _ => rfl
          · intro d hd
            obtain ⟨h1, h2, h3⟩ := hd
            unfold lstB rdL
            generalize d 0 = b0 at h1 h2 h3 ⊢
            generalize d 1 = b1 at h1 h2 h3 ⊢
            generalize d 2 = b2 at h1 h2 h3 ⊢
            generalize d 3 = b3 at h1 h2 h3 ⊢
            generalize d 4 = b4
            generalize d 5 = b5
            generalize d 6 = b6
            generalize d 7 = b7
            cases b0 <;> cases b1 <;> cases b2 <;> cases b3
            all_goals first
              | (exfalso; revert h1 h2 h3; decide)
              | (cases b4 <;> cases b5 <;> cases b6 <;> cases b7 <;> kernel_rfl)
          · intro w' hb
            exact ⟨(hb.cell (p := ⟨P, 0, none⟩) HTD.out.lt).trans g0, (hb.cell (p := ⟨P, 1, none⟩) HTD.out.lt).trans g1, (hb.cell (p := ⟨P, 2, none⟩) HTD.out.lt).trans g2⟩
          · intro w' x0 x1 x2 x3 hbx hx0 hx1 hx2 hx3 a01 a02 a03 a12 a13 a23
            have HBX : Hid (Below wd.heap.size wd w') := Lib.hid (stepB1 hbx)
            have HX0 := Lib.hid hx0
            have HX1 := Lib.hid hx1
            have HX2 := Lib.hid hx2
            have HX3 := Lib.hid hx3
            have HAP := Lib.hid (And.intro a01 (And.intro a02 (And.intro a03 (And.intro a12 (And.intro a13 a23)))))
            clear hbx hx0 hx1 hx2 hx3 a01 a02 a03 a12 a13 a23 hHeld
            try simp only [Act.put, List.setIfInBounds_toArray, List.set_cons_zero, List.set_cons_succ]
            go_wp2_with fail
            go_meet
            exact ⟨x0, x1, x2, x3, rfl, rfl, rfl, rfl, HBX, HX0, HX1, HX2, HX3, HAP⟩
        case rest =>
          obtain ⟨ci, hci⟩ : ∃ ci : Nat, ci = 0 := ⟨_, rfl⟩
          clear hci
          rename_i rq38 rq39 rq40 rq41 rq42 rq43 rq44 rq45 rq46 rq47 rq48 rq49 rq50 rq51 rq52 rq53 rq54 rq55 rq56 rq57 rq58 rq59 rq60 rq61 rq62 rq63 rq64 rq65 rq66 rq67 rq68 rq69
             rq70 rq71 rq72 rq73 rq74 rq75 rq76 rq77 rq78 rq79 rq80 rq81 rq82 rq83 rq84 rq85 rq86 rq87 rq88 rq89 rq90 rq91 rq92 rq93 rq94 rq95 rq96 rq97 rq98 rq99 rq100 rq101 rq102
             rq103 rq104 rq123 rq129 rq130 rq150 rq151 rq152 rq153 rq154 rq155 rq156 rq157 rq158 rq159 rq160 rq161 rq162 rq163 rq164 rq165 rq166 rq167 rq168 rq169 rq170 rq171 rq172
             rq173 rq174 rq175 rq176 rq177 rq178 rq179 rq180 rq181 rq182 rq183 rq184 rq185 rq186 rq187 rq188 rq189 rq190 rq191 rq192 rq193 rq194 rq195 rq196 rq197 rq198 rq199 rq200
             rq201 rq202 rq203 rq204 rq205 rq206 rq207 rq208 rq209 rq210 rq211 rq212 rq213 rq214 rq215 rq216 rq217 rq218 rq219 rq220 rq221 rq222 rq223 rq224 rq225 rq226 rq227 rq228
             rq229 rq230 rq231 rq232 rq233 rq234 rq235 rq236 rq237 rq238 rq239 rq240 rq241 rq242 rq243 rq244 rq245 rq246 rq247 rq248 rq249 rq250 rq251 rq252 rq253 rq254 rq255 rq256
             rq257 rq258 rq259 rq260 rq261 rq262 rq263 rq264 rq265 rq266 rq267 rq268 rq269 rq270 rq271 rq272 rq273 rq274 rq275 rq276 rq277 rq278 rq279 rq280 rq281 rq282 rq283 rq284
             rq285 rq286 rq287 rq288 rq289 rq290 rq291 rq292 rq293 rq294 rq295 rq296 rq297 rq298 rq299 rq300 rq301 rq302 rq303 rq304 rq305 rq306 rq307 rq308 rq309 rq310 rq311 rq312
             rq313 rq314 rq315 rq316 rq317 rq318 rq319 rq320 rq321 rq322 rq323 rq324 rq325 rq326 rq327 rq328 rq329 rq330 rq331 rq332 rq333 rq334 rq335 rq336 rq337 rq338 rq339 rq340
             rq341 rq342 rq343 rq344 rq345 rq346 rq347 rq348 rq349 rq350 rq351 rq352 rq353 rq354 rq355 rq356 rq357 rq358 rq359 rq360 rq361 rq362 rq363 rq364 rq365 rq366 rq367 rq368
             rq369 rq370 rq371 rq372 rq373 rq374 rq375 rq376 rq377 rq378 rq379 rq380 rq381 rq382 rq383 rq399 rq405 rq406 rq407 rq410 rq411
          revert jj w A n c l mm ep hc hm hep hln hmx HR qq13 w1 HB1 w2 PU PH qq19 w3 P Q F HCB i0 hz1 hz2 HIZ HZ0 HW1 gk wr u10 u11 u12 rq38 rq39 rq40 rq41 rq42 rq43 rq44 rq45 rq46
             rq47 rq48 rq49 rq50 rq51 rq52 rq53 rq54 rq55 rq56 rq57 rq58 rq59 rq60 rq61 rq62 rq63 rq64 rq65 rq66 rq67 rq68 rq69 rq70 rq71 rq72 rq73 rq74 rq75 rq76 rq77 rq78 rq79
             rq80 rq81 rq82 rq83 rq84 rq85 rq86 rq87 rq88 rq89 rq90 rq91 rq92 rq93 rq94 rq95 rq96 rq97 rq98 rq99 rq100 rq101 rq102 rq103 rq104 qq104 qq105 qq106 qq107 L ha hga HI
             hlt HFW c1 N1 hc1 hN1 HC1 hN1le HN1 HTB rq123 HCR HGD HBR HLT HLH rq129 rq130 hlti w4 HT4 HB4 w5 AV nV cV HV dV CV pV qV hH5 w6 P5 w7 HB7 rb rq150 rq151 rq152 rq153
             rq154 rq155 rq156 rq157 rq158 rq159 rq160 rq161 rq162 rq163 rq164 rq165 rq166 rq167 rq168 rq169 rq170 rq171 rq172 rq173 rq174 rq175 rq176 rq177 rq178 rq179 rq180 rq181
             rq182 rq183 rq184 rq185 rq186 rq187 rq188 rq189 rq190 rq191 rq192 rq193 rq194 rq195 rq196 rq197 rq198 rq199 rq200 rq201 rq202 rq203 rq204 rq205 rq206 rq207 rq208 rq209
             rq210 rq211 rq212 rq213 rq214 rq215 rq216 rq217 rq218 rq219 rq220 rq221 rq222 rq223 rq224 rq225 rq226 rq227 rq228 rq229 rq230 rq231 rq232 rq233 rq234 rq235 rq236 rq237
             rq238 rq239 rq240 rq241 rq242 rq243 rq244 rq245 rq246 rq247 rq248 rq249 rq250 rq251 rq252 rq253 rq254 rq255 rq256 rq257 rq258 rq259 rq260 rq261 rq262 rq263 rq264 rq265
             rq266 rq267 rq268 rq269 rq270 rq271 rq272 rq273 rq274 rq275 rq276 rq277 rq278 rq279 rq280 rq281 rq282 rq283 rq284 rq285 rq286 rq287 rq288 rq289 rq290 rq291 rq292 rq293
             rq294 rq295 rq296 rq297 rq298 rq299 rq300 rq301 rq302 rq303 rq304 rq305 rq306 rq307 rq308 rq309 rq310 rq311 rq312 rq313 rq314 rq315 rq316 rq317 rq318 rq319 rq320 rq321
             rq322 rq323 rq324 rq325 rq326 rq327 rq328 rq329 rq330 rq331 rq332 rq333 rq334 rq335 rq336 rq337 rq338 rq339 rq340 rq341 rq342 rq343 rq344 rq345 rq346 rq347 rq348 rq349
             rq350 rq351 rq352 rq353 rq354 rq355 rq356 rq357 rq358 rq359 rq360 rq361 rq362 rq363 rq364 rq365 rq366 rq367 rq368 rq369 rq370 rq371 rq372 rq373 rq374 rq375 rq376 rq377
             rq378 rq379 rq380 rq381 rq382 rq383 HBC HTC HCC hp0 hpi hpe k hrem hkp hkpi hk0 ua ub hab hb9 rq399 be oe HO HT HRD rq405 rq406 rq407 HUM HU rq410 rq411 wd PE HBD HTD
             HCD HED HG3 g0 g1 g2 hT0 wc u16 u17 u18 u19 u23 u24 u25 u26 u27 u28 u29 u30 u31 u32 u33 u34 u35 u36 u37 u38 u39 u40 u41 u42 u43 u44 u45 u46 u47 u48 u49 u50 u51 u52 u53
             u54 u55 u56 u57 u58 u59 u60 u61 u62 u63 u64 u65 u66 u67 u68 u69 u70 u71 u72 u73 u74 u75 u76 u77 u78 u79 u80 u81 u82 u83 u84 u85 u86 u87 u88 u89 u90 u91 u92 u93 u94 u95
             u96 u97 u98 u99 u100 u101 u102 u103 u104 u105 u106 u107 u108 u109 u110 u111 u112 u113 u114 u115 u116 u117 u118 u119 u120 u121 u122 u123 u124 u125 u126 u127 u128 u129
             u130 u131 u132 u133 u134 u135 u136 u137 u138 u139 u140 u141 u142 u143 u144 u145 u146 u147 u148 u149 u150 u151 u152 u153 u154 u155 u156 u157 u158 u159 u160 u161 u162
             u163 u164 u165 u166 u167 u168 u169 u170 u171 u172 u173 u174 u175 u176 u177 u178 u179 u180 u181 u182 u183 u184 u185 u186 u187 u188 u189 u190 u191 u192 u193 u194 u195
             u196 u197 u198 u199 u200 u201 u202 u203 u204 u205 u206 u207 u208 u209 u210 u211 u212 u213 u214 u215 u216 u217 u218 u219 u220 u221 u222 u223 u224 u225 u226 u227 u228
             u229 u230 u231 u232 u233 u234 u235 u236 u237 u238 u239 u240 u241 u242 u243 u244 u245 u246 u247 u248 u249 u250 u251 u252 u253 u254 u255 u256 hcut
          exact hCutP ci
end Go.Proofs.Ytgfnlfkbbedkaaa
