/-
  The walk of TopoMay, joined.
-/
import Derived.Test.YtgfnlfkbbedkaaaTopoMayC
import Derived.Deep.CutBlock
namespace Go.Proofs.Ytgfnlfkbbedkaaa
open Go.RowKit
set_option linter.unusedVariables false
set_option linter.unusedSimpArgs false

set_option maxRecDepth 100000 in
set_option maxHeartbeats 16000000 in
theorem topoMay_leaf : ∀ j, cutTMC.1 j := by
  intro jj
  intro sq1 jj w A n c l mm ep hc hm hep hln hmx HR qq13 w1 HB1 w2 PU PH qq19 w3 P Q F HCB i0 hz1 hz2 HIZ HZ0 HW1 gk wr u10 u11 u12 rq38 rq39 rq40 rq41 rq42 rq43 rq44 rq45 rq46 rq47
     rq48 rq49 rq50 rq51 rq52 rq53 rq54 rq55 rq56 rq57 rq58 rq59 rq60 rq61 rq62 rq63 rq64 rq65 rq66 rq67 rq68 rq69 rq70 rq71 rq72 rq73 rq74 rq75 rq76 rq77 rq78 rq79 rq80 rq81 rq82
     rq83 rq84 rq85 rq86 rq87 rq88 rq89 rq90 rq91 rq92 rq93 rq94 rq95 rq96 rq97 rq98 rq99 rq100 rq101 rq102 rq103 rq104 qq104 qq105 qq106 qq107 L ha hga HI hlt HFW c1 N1 hc1 hN1 HC1
     hN1le HN1 HTB rq123 HCR HGD HBR HLT HLH rq129 rq130 hlti w4 HT4 HB4 sq136 AV nV cV HV dV CV pV qV hH5 w6 P5 sq148 sq149 rb rq150 rq151 rq152 rq153 rq154 rq155 rq156 rq157 rq158
     rq159 rq160 rq161 rq162 rq163 rq164 rq165 rq166 rq167 rq168 rq169 rq170 rq171 rq172 rq173 rq174 rq175 rq176 rq177 rq178 rq179 rq180 rq181 rq182 rq183 rq184 rq185 rq186 rq187
     rq188 rq189 rq190 rq191 rq192 rq193 rq194 rq195 rq196 rq197 rq198 rq199 rq200 rq201 rq202 rq203 rq204 rq205 rq206 rq207 rq208 rq209 rq210 rq211 rq212 rq213 rq214 rq215 rq216
     rq217 rq218 rq219 rq220 rq221 rq222 rq223 rq224 rq225 rq226 rq227 rq228 rq229 rq230 rq231 rq232 rq233 rq234 rq235 rq236 rq237 rq238 rq239 rq240 rq241 rq242 rq243 rq244 rq245
     rq246 rq247 rq248 rq249 rq250 rq251 rq252 rq253 rq254 rq255 rq256 rq257 rq258 rq259 rq260 rq261 rq262 rq263 rq264 rq265 rq266 rq267 rq268 rq269 rq270 rq271 rq272 rq273 rq274
     rq275 rq276 rq277 rq278 rq279 rq280 rq281 rq282 rq283 rq284 rq285 rq286 rq287 rq288 rq289 rq290 rq291 rq292 rq293 rq294 rq295 rq296 rq297 rq298 rq299 rq300 rq301 rq302 rq303
     rq304 rq305 rq306 rq307 rq308 rq309 rq310 rq311 rq312 rq313 rq314 rq315 rq316 rq317 rq318 rq319 rq320 rq321 rq322 rq323 rq324 rq325 rq326 rq327 rq328 rq329 rq330 rq331 rq332
     rq333 rq334 rq335 rq336 rq337 rq338 rq339 rq340 rq341 rq342 rq343 rq344 rq345 rq346 rq347 rq348 rq349 rq350 rq351 rq352 rq353 rq354 rq355 rq356 rq357 rq358 rq359 rq360 rq361
     rq362 rq363 rq364 rq365 rq366 rq367 rq368 rq369 rq370 rq371 rq372 rq373 rq374 rq375 rq376 rq377 rq378 rq379 rq380 rq381 rq382 rq383 HBC HTC HCC hp0 hpi hpe k hrem hkp hkpi hk0
     ua ub hab hb9 rq399 be oe HO HT HRD rq405 rq406 rq407 HUM HU wd PE HBD HTD HCD HED HG3 sq418 sq419 sq420 sq421 sq422 sq423 sq424 sq425 sq426 sq427 sq428 sq429 sq430 sq431 sq432
     sq433 sq434 sq435 sq436 sq437 sq438 sq439 sq440 sq441 sq442 sq443 sq444 sq445 sq446 sq447 sq448 sq449 sq450 sq451 sq452 sq453 sq454 sq455 sq456 sq457 sq458 sq459 sq460 sq461
     sq462 sq463 sq464 sq465 sq466 sq467 sq468 sq469 sq470 sq471 sq472 sq473 sq474 sq475 sq476 sq477 sq478 sq479 sq480 sq481 sq482 sq483 sq484 sq485 sq486 sq487 sq488 sq489 sq490
     sq491 sq492 sq493 sq494 sq495 sq496 sq497 sq498 sq499 sq500 sq501 sq502 sq503 sq504 sq505 sq506 sq507 sq508 sq509 sq510 sq511 sq512 sq513 sq514 sq515 sq516 sq517 sq518 sq519
     sq520 sq521 sq522 sq523 sq524 sq525 sq526 sq527 sq528 sq529 sq530 sq531 sq532 sq533 sq534 sq535 sq536 sq537 sq538 sq539 sq540 sq541 sq542 sq543 sq544 sq545 sq546 sq547 sq548
     sq549 sq550 sq551 sq552 sq553 sq554 sq555 sq556 sq557 sq558 sq559 sq560 sq561 sq562 sq563 sq564 sq565 sq566 sq567 sq568 sq569 sq570 sq571 sq572 sq573 sq574 sq575 sq576 sq577
     sq578 sq579 sq580 sq581 sq582 sq583 sq584 sq585 sq586 sq587 sq588 sq589 sq590 sq591 sq592 sq593 sq594 sq595 sq596 sq597 sq598 sq599 sq600 sq601 sq602 sq603 sq604 sq605 sq606
     sq607 sq608 sq609 sq610 sq611 sq612 sq613 sq614 sq615 sq616 sq617 sq618 sq619 sq620 sq621 sq622 sq623 sq624 sq625 sq626 sq627 sq628 sq629 sq630 sq631 sq632 sq633 sq634 sq635
     sq636 sq637 sq638 sq639 sq640 sq641 sq642 sq643 sq644 sq645 sq646 sq647 sq648 sq649 sq650 sq651 sq652 L0 U0 P0 AU0 nU0 cU0 H0 d0 C0 q0 L1 U1 P1 cU1 H1 d1 C1 p1 q1 L2 U2 P2 AU2
     nU2 cU2 H2 d2 C2 q2 L3 U3 P3 AU3 nU3 cU3 H3 d3 C3 p3 q3 HBX hme ap01 ap02 ap03 ap12 ap13 ap23 hLH hHU hPH hHl hPl hbL hbP hUw hpq0 D1 D2 A5 c5 w5 fs M hc5 W5 HU1w HFS HB5 HM
     sq723 sq724 sq725 sq726 sq727 sq728 sq729 sq730 sq731 sq732 sq733 sq734 sq735 sq736 sq737 sq738 sq739 sq740 sq741 sq742 sq743 sq744 sq745 sq746 sq747 sq748 sq749 sq750 sq751
     sq752 sq753 sq754 sq755 sq756 sq757 sq758 sq759 sq760 sq761 sq762 sq763 sq764 sq765 sq766 sq767 sq768 sq769 sq770 sq771 sq772 sq773 sq774 sq775 sq776 sq777 sq778 sq779 sq780
     sq781 sq782 sq783 sq784 sq785 sq786 sq787 sq788 sq789 sq790 sq791 sq792 sq793 sq794 sq795 sq796 sq797 sq798 sq799 sq800 sq801 sq802 sq803 sq804 sq805 sq806 sq807 sq808 sq809
     sq810 sq811 sq812 sq813 sq814 sq815 sq816 sq817 sq818 sq819 sq820 sq821 sq822 sq823 sq824 sq825 sq826 sq827 sq828 sq829 sq830 sq831 sq832 sq833 sq834 sq835 sq836 sq837 sq838
     sq839 sq840 sq841 sq842 sq843 sq844 sq845 sq846 sq847 sq848 sq849 sq850 sq851 sq852 sq853 sq854 sq855 sq856 sq857 sq858 sq859 sq860 sq861 sq862 sq863 sq864 sq865 sq866 sq867
     sq868 sq869 sq870 sq871 sq872 sq873 sq874 sq875 sq876 sq877 sq878 sq879 sq880 sq881 sq882 sq883 sq884 sq885 sq886 sq887 sq888 sq889 sq890 sq891 sq892 sq893 sq894 sq895 sq896
     sq897 sq898 sq899 sq900 sq901 sq902 sq903 sq904 sq905 sq906 sq907 sq908 sq909 sq910 sq911 sq912 sq913 sq914 sq915 sq916 sq917 sq918 sq919 sq920 sq921 sq922 sq923 sq924 sq925
     sq926 sq927 sq928 sq929 sq930 sq931 sq932 sq933 sq934 sq935 sq936 sq937 sq938 sq939 sq940 sq941 sq942 sq943 sq944 sq945 sq946 sq947 sq948 sq949 sq950 sq951 sq952 sq953 sq954
     sq955 sq956 sq957 sq958 HB6 HE6 HW56 G1 bz sq964 sq965 w7 HB7 HS7 HG1 l2 lf hLH2 hHU2 sq974 hHl2 hPl2 hbL2 hbP2 hUw2 HZ2 le hpq2 hA3 t2 t3 hNc D3 hD3 hN3 D4 HD4 hD3' hw3 A8 c8
     w8 hA8 M8 hc8 xe xf x2 y2 w9 HB9 HV0b HV1b HQ3 HV2 hPlt hPHlt hPH2 hPP2 BX78 BX79 BY78 BY79 HW9 HRUN8 HSZ9 hD4' wc u23 u24 u25 u26 u27 u28 u29 u30 u31 u32 u33 u34 u35 u36 u37
     u38 u39 u40 u41 u42 u43 u44 u45 u46 u47 u48 u49 u50 u51 u52 u53 u54 u55 u56 u57 u58 u59 u60 u61 u62 u63 u64 u65 u66 u67 u68 u69 u70 u71 u72 u73 u74 u75 u76 u77 u78 u79 u80 u81
     u82 u83 u84 u85 u86 u87 u88 u89 u90 u91 u92 u93 u94 u95 u96 u97 u98 u99 u100 u101 u102 u103 u104 u105 u106 u107 u108 u109 u110 u111 u112 u113 u114 u115 u116 u117 u118 u119 u120
     u121 u122 u123 u124 u125 u126 u127 u128 u129 u130 u131 u132 u133 u134 u135 u136 u137 u138 u139 u140 u141 u142 u143 u144 u145 u146 u147 u148 u149 u150 u151 u152 u153 u154 u155
     u156 u157 u158 u159 u160 u161 u162 u163 u164 u165 u166 u167 u168 u169 u170 u171 u172 u173 u174 u175 u176 u177 u178 u179 u180 u181 u182 u183 u184 u185 u186 u187 u188 u189 u190
     u191 u192 u193 u194 u195 u196 u197 u198 u199 u200 u201 u202 u203 u204 u205 u206 u207 u208 u209 u210 u211 u212 u213 u214 u215 u216 u217 u218 u219 u220 u221 u222 u223 u224 u225
     u226 u227 u228 u229 u230 u231 u232 u233 u234 u235 u236 u237 u238 u239 u240 u241 u242 u243 u244 u245 u246 u247 u248 u249 u250 u251 u252 u253 u254 u255 u256 hcut
  subst hcut
  clear xe xf x2 y2 l2 le lf t2 t3 hD3 hN3 hD3' hD4' hw3 HRUN8 HW9 hA3 hA8 HD4
  obtain ⟨⟨l0, l1, l2⟩, le, lf, hpL, hpq3, hLH3, hHU3, hPH3, hHl3, hPl3, hbL3, hbP3, hUw3, _⟩ := HQ3.out.facts hme
  have hNL := HN1.out
  obtain rfl : N1 = p3 := by omega
  have hOE : Own elEd 42 wc (fun x => L3 ≤ x ∧ x < U3 ∧ x ≠ H3 ∧ (Value.slice AU3 nU3 cU3).ownBlock ≠ some x) (.slice C3 N1 q3) L := HQ3.out.pt.oE
  have hout3 : ¬ (L3 ≤ P3 ∧ P3 < U3) := HQ3.out.out
  obtain ⟨W, hW⟩ : ∃ W, (wc.alloc (.cells #[.int .i64 9, .int .i64 0] 42)).drew = W := ⟨_, rfl⟩
  have hbW : Below wc.heap.size wc W := by rw [← hW]; exact ((Below.refl _ _).alloc (Nat.le_refl _) _).drew
  have hsW : W.heap.size = wc.heap.size + 1 := by rw [← hW]; show (wc.alloc _).heap.size = _; simp
  have hcW : ∀ j u, [Value.int .i64 9, .int .i64 0][j]? = some u → W.cell? ((⟨wc.heap.size, 0, none⟩ : Addr).add j) = some u := by rw [← hW]; exact newCells wc #[.int .i64 9, .int .i64 0] 42 (0, 0)
  obtain ⟨v12, w12, hrun2, ho12, hg12, hv12⟩ := Own.app (E := elEd) (P := Try.prog) 39 39 i0 _ 16 Try.underlying39 HIZ.out HZ0.out hz1 hz2 rfl (by decide) (hOE.below hbW) ⟨wc.heap.size, 0, none⟩ _ ((9 : Int), (0 : Int)) (ed_mk _ _ (by decide) (by decide)) hcW (by unfold maxLen; omega) (by omega) 1
  have hel := hOE.lt
  have hD : Chg (fun x => some x = (Value.slice C3 N1 q3).ownBlock) wc w12 := (Chg.ofBelow (S := fun x => some x = (Value.slice C3 N1 q3).ownBlock) hbW).trans (Chg.ofGrown hg12) fun _ _ h => h
  obtain ⟨A12, c12, e12, hc12, hr12⟩ := ho12.rd (by rw [List.length_append, List.length_singleton]; omega)
  obtain ⟨N12, hN12⟩ : ∃ N12, (L ++ [((9 : Int), (0 : Int))]).length = N12 := ⟨_, rfl⟩
  rw [hN12] at e12 hc12 hr12
  subst e12
  have hDP : ∀ x, some x = (Value.slice C3 N1 q3).ownBlock → L3 ≤ x ∧ x < U3 ∧ x ≠ H3 ∧ (Value.slice AU3 nU3 cU3).ownBlock ≠ some x := fun x hx => (hel x hx.symm).1
  obtain ⟨V3, xe, xf, x2, y2⟩ := HQ3.out.lay (D := fun x => some x = (Value.slice C3 N1 q3).ownBlock) (K := fun x => (L3 ≤ x ∧ x < U3) ∨ (wc.heap.size ≤ x ∧ x < w12.heap.size)) (by decide) hD (fun x hx => by
    have h1 := hDP x hx
    exact (show x ≠ P3 ∧ x ≠ H3 ∧ (Value.slice AU3 nU3 cU3).ownBlock ≠ some x from ⟨fun e => hout3 (by rw [← e]; exact ⟨h1.1, h1.2.1⟩), h1.2.2.1, h1.2.2.2⟩)) hc12 (fun x h1 h2 => .inl ⟨h1, h2⟩) (hr12.mono fun x hx hl => by
    rcases hx with hx | hx
    · exact ⟨.inl ⟨hx.1, hx.2.1⟩, hx.2.2.1⟩
    · exact ⟨.inr ⟨by omega, hl⟩, by omega⟩)
  obtain ⟨wv, hwv⟩ : ∃ wv, w12.setCell ⟨H3, 0, none⟩ (.slice A12 N12 c12) = wv := ⟨_, rfl⟩
  have hchv : Chg (fun x => L3 ≤ x ∧ x < U3) wc wv := by
    rw [← hwv]
    exact (hD.mono fun x _ hx => ⟨(hDP x hx).1, (hDP x hx).2.1⟩).trans (Chg.set w12 ⟨H3, 0, none⟩ _) fun x _ hx => by
      have e : x = H3 := hx
      exact ⟨by omega, by omega⟩
  have hu1w := HU1w.out
  have hsz9 := HSZ9.out
  have HBV : Hid (Below wd.heap.size wd wv) := Lib.hid (hchv.below HB9.out HB9.out.size fun x hx => by omega)
  have HV0c := Lib.hid (HV0b.out.chg hchv (by have := ap03.out; omega) fun x hx => by have := ap03.out; omega)
  have HV1c := Lib.hid (HV1b.out.chg hchv (by have := ap13.out; omega) fun x hx => by have := ap13.out; omega)
  have HV2c := Lib.hid (HV2.out.chg hchv (by have := ap23.out; omega) fun x hx => by have := ap23.out; omega)
  rw [hwv] at V3
  have HV3 := Lib.hid V3
  have HWV := Lib.hid hwv
  have HWW := Lib.hid hW
  have HRUN2 := Lib.hid hrun2
  have F2 := cellBelow hbW l2
  have hPx := hPl3
  have hHx := hHl3
  clear hpL hNL hOE hout3 hW hsW hcW hrun2 ho12 hg12 hv12 hel hD hr12 hN12 hDP V3 hwv hchv hu1w hsz9 l0 l1 HV0b HV1b HV2 HQ3
  go_wp2_with fail
  go_cut [206] (fun s206 wx => wx = wv)
  case first =>
    refine wp_region_held_drew (S := fun w' => w'.cell? ⟨P3, 2, none⟩ = some (.slice (some ⟨H3, 0, none⟩) 1 d3)) (by kernel_rfl) (l2) (fun hHeld => ?_)
    refine wpAnyH_take (i := 0) (v := ?_) rfl (by kernel_rfl) (by kernel_rfl) (by kernel_rfl) (fun _ _ _ h => h) (Or.inl ⟨by rfl, ?_⟩) (by assumption) ?_
    rotate_left
    · (intro w hSw; (try dsimp only at hSw); go_simp; try with_reducible rfl)
    try simp only [Act.put, List.setIfInBounds_toArray, List.set_cons_zero, List.set_cons_succ]
    refine wpAnyH_take (i := 1) (v := ?_) rfl (by kernel_rfl) (by kernel_rfl) (by kernel_rfl) (fun _ _ _ h => h) (Or.inl ⟨by rfl, ?_⟩) (by assumption) ?_
    rotate_left
    · (intro w hSw; (try dsimp only at hSw); go_simp; try with_reducible rfl)
    try simp only [Act.put, List.setIfInBounds_toArray, List.set_cons_zero, List.set_cons_succ]
    refine wpAnyH_take (i := 2) (v := ?_) rfl (by kernel_rfl) (by kernel_rfl) (by kernel_rfl) (fun _ _ _ h => h) (Or.inl ⟨by rfl, ?_⟩) (by assumption) ?_
    rotate_left
    · (intro w hSw; (try dsimp only at hSw); go_simp; try with_reducible rfl)
    try simp only [Act.put, List.setIfInBounds_toArray, List.set_cons_zero, List.set_cons_succ]
    refine wpAnyH_take (i := 3) (v := ?_) rfl (by kernel_rfl) (by kernel_rfl) (by kernel_rfl) (fun _ _ _ h => h) (Or.inl ⟨by rfl, ?_⟩) (by assumption) ?_
    rotate_left
    · (intro w hSw; (try dsimp only at hSw); go_simp; try with_reducible rfl)
    try simp only [Act.put, List.setIfInBounds_toArray, List.set_cons_zero, List.set_cons_succ]
    refine wpAnyH_take (i := 4) (v := ?_) rfl (by kernel_rfl) (by kernel_rfl) (by kernel_rfl) (fun _ _ _ h => h) (Or.inl ⟨by rfl, ?_⟩) (by assumption) ?_
    rotate_left
    · (intro w hSw; (try dsimp only at hSw); go_simp; try with_reducible rfl)
    try simp only [Act.put, List.setIfInBounds_toArray, List.set_cons_zero, List.set_cons_succ]
    refine wpAnyH_take (i := 6) (v := ?_) rfl (by kernel_rfl) (by kernel_rfl) (by kernel_rfl) (fun _ _ _ h => h) (Or.inl ⟨by rfl, ?_⟩) (by assumption) ?_
    rotate_left
    · (intro w hSw; (try dsimp only at hSw); go_simp; try with_reducible rfl)
    try simp only [Act.put, List.setIfInBounds_toArray, List.set_cons_zero, List.set_cons_succ]
    refine wpAnyH_ready (rs := [5, 7]) (by kernel_rfl) (by simp) ?_
    refine (AllReadyH.cons rfl (fun K hK => ?_) (AllReadyH.cons rfl (fun K hK => ?_) AllReadyH.nil))
    · go_simp
      refine hK.out _ _ (l2) (fun hHeld => ?_)
      clear hK K
      try simp only [Act.put, List.setIfInBounds_toArray, List.set_cons_zero, List.set_cons_succ]
      refine wpAnyH_ready (rs := [7]) (by kernel_rfl) (by simp) ?_
      refine (AllReadyH.cons rfl (fun K hK => ?_) AllReadyH.nil)
      go_simp
      refine hK.out _ _ (by rw [HWW.out]; exact F2) (fun hHeld => ?_)
      clear hK K
      try simp only [Act.put, List.setIfInBounds_toArray, List.set_cons_zero, List.set_cons_succ]
      refine wpAnyH_ready (rs := [8]) (by kernel_rfl) (by simp) ?_
      refine (AllReadyH.cons rfl (fun K hK => ?_) AllReadyH.nil)
      refine stepRunL (by rfl) _ _ 39 (by rfl) (.slice C3 N1 q3) (.slice (some ⟨wc.heap.size, 0, none⟩) 1 1) (.slice A12 N12 c12) (by go_simp) (by go_simp) (by rw [HWW.out]; exact HRUN2.out) ?_
      refine hK.out _ _ (x2) (fun hHeld => ?_)
      clear hK K
      try simp only [Act.put, List.setIfInBounds_toArray, List.set_cons_zero, List.set_cons_succ]
      refine wpAnyH_ready (rs := [9]) (by kernel_rfl) (by simp) ?_
      refine (AllReadyH.cons rfl (fun K hK => ?_) AllReadyH.nil)
      go_simp
      refine hK.out _ _ (x2) (fun hHeld => ?_)
      clear hK K
      try simp only [Act.put, List.setIfInBounds_toArray, List.set_cons_zero, List.set_cons_succ]
      refine wpAnyH_ready (rs := [10]) (by kernel_rfl) (by simp) ?_
      refine (AllReadyH.cons rfl (fun K hK => ?_) AllReadyH.nil)
      go_simp
      refine hK.out _ _ (y2) (fun hHeld => ?_)
      clear hK K
      try simp only [Act.put, List.setIfInBounds_toArray, List.set_cons_zero, List.set_cons_succ]
      refine wpAnyH_done (by kernel_rfl) ?_ _
      go_wp2_with fail
      go_meet
      exact HWV.out
    · go_simp
      refine hK.out _ _ (by rw [HWW.out]; exact F2) (fun hHeld => ?_)
      clear hK K
      try simp only [Act.put, List.setIfInBounds_toArray, List.set_cons_zero, List.set_cons_succ]
      refine wpAnyH_ready (rs := [5]) (by kernel_rfl) (by simp) ?_
      refine (AllReadyH.cons rfl (fun K hK => ?_) AllReadyH.nil)
      go_simp
      refine hK.out _ _ (by rw [HWW.out]; exact F2) (fun hHeld => ?_)
      clear hK K
      try simp only [Act.put, List.setIfInBounds_toArray, List.set_cons_zero, List.set_cons_succ]
      refine wpAnyH_ready (rs := [8]) (by kernel_rfl) (by simp) ?_
      refine (AllReadyH.cons rfl (fun K hK => ?_) AllReadyH.nil)
      refine stepRunL (by rfl) _ _ 39 (by rfl) (.slice C3 N1 q3) (.slice (some ⟨wc.heap.size, 0, none⟩) 1 1) (.slice A12 N12 c12) (by go_simp) (by go_simp) (by rw [HWW.out]; exact HRUN2.out) ?_
      refine hK.out _ _ (x2) (fun hHeld => ?_)
      clear hK K
      try simp only [Act.put, List.setIfInBounds_toArray, List.set_cons_zero, List.set_cons_succ]
      refine wpAnyH_ready (rs := [9]) (by kernel_rfl) (by simp) ?_
      refine (AllReadyH.cons rfl (fun K hK => ?_) AllReadyH.nil)
      go_simp
      refine hK.out _ _ (x2) (fun hHeld => ?_)
      clear hK K
      try simp only [Act.put, List.setIfInBounds_toArray, List.set_cons_zero, List.set_cons_succ]
      refine wpAnyH_ready (rs := [10]) (by kernel_rfl) (by simp) ?_
      refine (AllReadyH.cons rfl (fun K hK => ?_) AllReadyH.nil)
      go_simp
      refine hK.out _ _ (y2) (fun hHeld => ?_)
      clear hK K
      try simp only [Act.put, List.setIfInBounds_toArray, List.set_cons_zero, List.set_cons_succ]
      refine wpAnyH_done (by kernel_rfl) ?_ _
      go_wp2_with fail
      go_meet
      exact HWV.out
  case rest =>
    subst hcut
    clear xe xf x2 y2 l2 le lf F2 HRUN2 HWW HWV hPx hHx
    have HTv := Lib.hid (HTD.out.below HBV.out)
    obtain ⟨t0, t1, t2⟩ := HTv.out.cells
    have hcp := copy_calls wc _ 1 _ [L] HTv.out.tv HFW.out (by decide) (by simp)
    go_upto_region 35 with (go_at_call 17; (with_reducible refine hcp.mono ?_); rintro e wf ⟨vf, rfl, hTf, bf⟩; obtain ⟨AW, nW, cW, HX, dX, CX, pX, qX, rfl, hLX, hEX, hUX, hHX⟩ := T1.made hTf (by decide) (by have := HN1.out; omega); have HBf := Lib.hid bf; have HLX := Lib.hid hLX; have HEX := Lib.hid hEX; have HUX := Lib.hid hUX; clear hTf bf hLX hEX hUX hcp)
    obtain ⟨wg, hwg⟩ : ∃ wg, wf.alloc (.cells #[.int .u64 1, .slice AW nW cW, .slice (some ⟨HX, 0, none⟩) 1 dX] 27) = wg := ⟨_, rfl⟩
    have bg : Below wf.heap.size wf wg := by rw [← hwg]; exact (Below.refl _ _).alloc (Nat.le_refl _) _
    have hsg : wg.heap.size = wf.heap.size + 1 := by rw [← hwg]; simp
    have hsf := HBf.out.size
    have hbcg := belowThen HBf.out HBf.out.size bg
    rw [hwg] at HLX HEX HUX ⊢
    obtain ⟨PX, hPX⟩ : ∃ PX, wf.heap.size = PX := ⟨_, rfl⟩
    rw [hPX] at HLX HEX HUX ⊢
    have hNL := HN1.out
    have hcL := HLX.out.re.len
    obtain rfl : N1 = pX := by omega
    obtain ⟨l0, l1, l2⟩ := HLX.out.cells
    have le := HLX.out.edge
    have lf := HLX.out.free
    have hne := HLX.out.hne
    have hPl := HLX.out.lt
    have hHl := HLX.out.hlt
    obtain ⟨W, hW⟩ : ∃ W, (wg.alloc (.cells #[.int .i64 9, .int .i64 8] 42)).drew = W := ⟨_, rfl⟩
    have hbW : Below wg.heap.size wg W := by rw [← hW]; exact ((Below.refl _ _).alloc (Nat.le_refl _) _).drew
    have hsW : W.heap.size = wg.heap.size + 1 := by rw [← hW]; show (wg.alloc _).heap.size = _; simp
    have hcW : ∀ j u, [Value.int .i64 9, .int .i64 8][j]? = some u → W.cell? ((⟨wg.heap.size, 0, none⟩ : Addr).add j) = some u := by rw [← hW]; exact newCells wg #[.int .i64 9, .int .i64 8] 42 (0, 0)
    obtain ⟨vh, wh, hrun2, hoh, hgh, hvh⟩ := Own.app (E := elEd) (P := Try.prog) 39 39 i0 _ 16 Try.underlying39 HIZ.out HZ0.out hz1 hz2 rfl (by decide) (HEX.out.below hbW) ⟨wg.heap.size, 0, none⟩ _ ((9 : Int), (8 : Int)) (ed_mk _ _ (by decide) (by decide)) hcW (by unfold maxLen; omega) (by omega) 1
    have hel := HEX.out.lt
    have hD : Chg (fun x => some x = (Value.slice CX N1 qX).ownBlock) wg wh := (Chg.ofBelow (S := fun x => some x = (Value.slice CX N1 qX).ownBlock) hbW).trans (Chg.ofGrown hgh) fun _ _ h => h
    obtain ⟨Ah, ch, eh, hch, hrh⟩ := hoh.rd (by rw [List.length_append, List.length_singleton]; omega)
    obtain ⟨Nh, hNh⟩ : ∃ Nh, (L ++ [((9 : Int), (8 : Int))]).length = Nh := ⟨_, rfl⟩
    rw [hNh] at eh hch hrh
    subst eh
    have hDP : ∀ x, some x = (Value.slice CX N1 qX).ownBlock → x ≠ PX ∧ x ≠ HX ∧ ¬ (wc.heap.size ≤ x ∧ x < PX ∧ x ≠ HX ∧ (Value.slice AW nW cW).ownBlock = some x) := fun x hx => by
      have h1 := (hel x hx.symm).1
      exact ⟨by omega, h1.2.2.1, fun hh => h1.2.2.2 hh.2.2.2⟩
    have hG : T1 (wh.setCell ⟨HX, 0, none⟩ (.slice Ah Nh ch)) PX AW nW cW HX dX Ah Nh ch 1 up10 (L ++ [((9 : Int), (8 : Int))]) :=
      HLX.out.chg HUX.out (fun x hx => hx.2.2.1) (by decide) hD hDP hch (hrh.mono fun x hx hl => by
        rcases hx with hx | hx
        · exact ⟨hl, hx.2.2.1⟩
        · exact ⟨hl, by omega⟩)
    obtain ⟨x0, x1, x2'⟩ := hG.cells
    have x2 : wh.cell? ⟨PX, 2, none⟩ = some (.slice (some ⟨HX, 0, none⟩) 1 dX) := hD.cell l2 fun hx => (hDP PX hx).1 rfl
    have xe : wh.cell? ⟨HX, 0, none⟩ = some (.slice CX N1 qX) := hD.cell le fun hx => (hDP HX hx).2.1 rfl
    have xf : wh.frozen? ⟨HX, 0, none⟩ = false := by
      unfold World.frozen? at lf ⊢
      rw [hD.block HX hHl fun hx => (hDP HX hx).2.1 rfl]
      exact lf
    have y2 := x2'
    obtain ⟨wj, hwj⟩ : ∃ wj, wh.setCell ⟨HX, 0, none⟩ (.slice Ah Nh ch) = wj := ⟨_, rfl⟩
    have hbcj : Below wc.heap.size wc wj := by
      rw [← hwj]
      exact (hD.below hbcg hbcg.size fun x hx => by have := (hel x hx.symm).1.1; omega).setCell (p := ⟨HX, 0, none⟩) (by show wc.heap.size ≤ HX; omega) _
    rw [hwj] at hG
    have HG := Lib.hid hG
    have HBJ := Lib.hid hbcj
    have HWJ := Lib.hid hwj
    have HWW := Lib.hid hW
    have HRUN2 := Lib.hid hrun2
    have F2 := cellBelow hbW l2
    clear hG hwj hW hrun2 hNL hcL l0 l1 x0 x1 x2' hbcj hbcg bg hwg hPX hDP hD hrh hNh hoh hgh hvh hel hcW hbW hsW hsg hsf t0 t1 t2
    go_cut [218] (fun s218 wx => wx = wj)
    case first =>
      go_wp2_with fail
      refine wp_region_held_drew (S := fun w' => w'.cell? ⟨PX, 2, none⟩ = some (.slice (some ⟨HX, 0, none⟩) 1 dX)) (by kernel_rfl) (l2) (fun hHeld => ?_)
      refine wpAnyH_take (i := 0) (v := ?_) rfl (by kernel_rfl) (by kernel_rfl) (by kernel_rfl) (fun _ _ _ h => h) (Or.inl ⟨by rfl, ?_⟩) (by assumption) ?_
      rotate_left
      · (intro w hSw; (try dsimp only at hSw); go_simp; try with_reducible rfl)
      try simp only [Act.put, List.setIfInBounds_toArray, List.set_cons_zero, List.set_cons_succ]
      refine wpAnyH_take (i := 1) (v := ?_) rfl (by kernel_rfl) (by kernel_rfl) (by kernel_rfl) (fun _ _ _ h => h) (Or.inl ⟨by rfl, ?_⟩) (by assumption) ?_
      rotate_left
      · (intro w hSw; (try dsimp only at hSw); go_simp; try with_reducible rfl)
      try simp only [Act.put, List.setIfInBounds_toArray, List.set_cons_zero, List.set_cons_succ]
      refine wpAnyH_take (i := 2) (v := ?_) rfl (by kernel_rfl) (by kernel_rfl) (by kernel_rfl) (fun _ _ _ h => h) (Or.inl ⟨by rfl, ?_⟩) (by assumption) ?_
      rotate_left
      · (intro w hSw; (try dsimp only at hSw); go_simp; try with_reducible rfl)
      try simp only [Act.put, List.setIfInBounds_toArray, List.set_cons_zero, List.set_cons_succ]
      refine wpAnyH_take (i := 3) (v := ?_) rfl (by kernel_rfl) (by kernel_rfl) (by kernel_rfl) (fun _ _ _ h => h) (Or.inl ⟨by rfl, ?_⟩) (by assumption) ?_
      rotate_left
      · (intro w hSw; (try dsimp only at hSw); go_simp; try with_reducible rfl)
      try simp only [Act.put, List.setIfInBounds_toArray, List.set_cons_zero, List.set_cons_succ]
      refine wpAnyH_take (i := 4) (v := ?_) rfl (by kernel_rfl) (by kernel_rfl) (by kernel_rfl) (fun _ _ _ h => h) (Or.inl ⟨by rfl, ?_⟩) (by assumption) ?_
      rotate_left
      · (intro w hSw; (try dsimp only at hSw); go_simp; try with_reducible rfl)
      try simp only [Act.put, List.setIfInBounds_toArray, List.set_cons_zero, List.set_cons_succ]
      refine wpAnyH_take (i := 6) (v := ?_) rfl (by kernel_rfl) (by kernel_rfl) (by kernel_rfl) (fun _ _ _ h => h) (Or.inl ⟨by rfl, ?_⟩) (by assumption) ?_
      rotate_left
      · (intro w hSw; (try dsimp only at hSw); go_simp; try with_reducible rfl)
      try simp only [Act.put, List.setIfInBounds_toArray, List.set_cons_zero, List.set_cons_succ]
      refine wpAnyH_ready (rs := [5, 7]) (by kernel_rfl) (by simp) ?_
      refine (AllReadyH.cons rfl (fun K hK => ?_) (AllReadyH.cons rfl (fun K hK => ?_) AllReadyH.nil))
      · go_simp
        refine hK.out _ _ (l2) (fun hHeld => ?_)
        clear hK K
        try simp only [Act.put, List.setIfInBounds_toArray, List.set_cons_zero, List.set_cons_succ]
        refine wpAnyH_ready (rs := [7]) (by kernel_rfl) (by simp) ?_
        refine (AllReadyH.cons rfl (fun K hK => ?_) AllReadyH.nil)
        go_simp
        refine hK.out _ _ (by rw [HWW.out]; exact F2) (fun hHeld => ?_)
        clear hK K
        try simp only [Act.put, List.setIfInBounds_toArray, List.set_cons_zero, List.set_cons_succ]
        refine wpAnyH_ready (rs := [8]) (by kernel_rfl) (by simp) ?_
        refine (AllReadyH.cons rfl (fun K hK => ?_) AllReadyH.nil)
        refine stepRunL (by rfl) _ _ 39 (by rfl) (.slice CX N1 qX) (.slice (some ⟨wg.heap.size, 0, none⟩) 1 1) (.slice Ah Nh ch) (by go_simp) (by go_simp) (by rw [HWW.out]; exact HRUN2.out) ?_
        refine hK.out _ _ (x2) (fun hHeld => ?_)
        clear hK K
        try simp only [Act.put, List.setIfInBounds_toArray, List.set_cons_zero, List.set_cons_succ]
        refine wpAnyH_ready (rs := [9]) (by kernel_rfl) (by simp) ?_
        refine (AllReadyH.cons rfl (fun K hK => ?_) AllReadyH.nil)
        go_simp
        refine hK.out _ _ (x2) (fun hHeld => ?_)
        clear hK K
        try simp only [Act.put, List.setIfInBounds_toArray, List.set_cons_zero, List.set_cons_succ]
        refine wpAnyH_ready (rs := [10]) (by kernel_rfl) (by simp) ?_
        refine (AllReadyH.cons rfl (fun K hK => ?_) AllReadyH.nil)
        go_simp
        refine hK.out _ _ (y2) (fun hHeld => ?_)
        clear hK K
        try simp only [Act.put, List.setIfInBounds_toArray, List.set_cons_zero, List.set_cons_succ]
        refine wpAnyH_done (by kernel_rfl) ?_ _
        go_wp2_with fail
        go_meet
        exact HWJ.out
      · go_simp
        refine hK.out _ _ (by rw [HWW.out]; exact F2) (fun hHeld => ?_)
        clear hK K
        try simp only [Act.put, List.setIfInBounds_toArray, List.set_cons_zero, List.set_cons_succ]
        refine wpAnyH_ready (rs := [5]) (by kernel_rfl) (by simp) ?_
        refine (AllReadyH.cons rfl (fun K hK => ?_) AllReadyH.nil)
        go_simp
        refine hK.out _ _ (by rw [HWW.out]; exact F2) (fun hHeld => ?_)
        clear hK K
        try simp only [Act.put, List.setIfInBounds_toArray, List.set_cons_zero, List.set_cons_succ]
        refine wpAnyH_ready (rs := [8]) (by kernel_rfl) (by simp) ?_
        refine (AllReadyH.cons rfl (fun K hK => ?_) AllReadyH.nil)
        refine stepRunL (by rfl) _ _ 39 (by rfl) (.slice CX N1 qX) (.slice (some ⟨wg.heap.size, 0, none⟩) 1 1) (.slice Ah Nh ch) (by go_simp) (by go_simp) (by rw [HWW.out]; exact HRUN2.out) ?_
        refine hK.out _ _ (x2) (fun hHeld => ?_)
        clear hK K
        try simp only [Act.put, List.setIfInBounds_toArray, List.set_cons_zero, List.set_cons_succ]
        refine wpAnyH_ready (rs := [9]) (by kernel_rfl) (by simp) ?_
        refine (AllReadyH.cons rfl (fun K hK => ?_) AllReadyH.nil)
        go_simp
        refine hK.out _ _ (x2) (fun hHeld => ?_)
        clear hK K
        try simp only [Act.put, List.setIfInBounds_toArray, List.set_cons_zero, List.set_cons_succ]
        refine wpAnyH_ready (rs := [10]) (by kernel_rfl) (by simp) ?_
        refine (AllReadyH.cons rfl (fun K hK => ?_) AllReadyH.nil)
        go_simp
        refine hK.out _ _ (y2) (fun hHeld => ?_)
        clear hK K
        try simp only [Act.put, List.setIfInBounds_toArray, List.set_cons_zero, List.set_cons_succ]
        refine wpAnyH_done (by kernel_rfl) ?_ _
        go_wp2_with fail
        go_meet
        exact HWJ.out
    case rest =>
      subst hcut
      clear xe xf x2 y2 l2 le lf F2 HRUN2 HWW HWJ hPl hHl HLX HEX HUX
      have HBA := Lib.hid (belowThen HBV.out HBV.out.size HBJ.out)
      have HCA := Lib.hid (HCD.out.below HBA.out)
      have HA0 := Lib.hid (HV0c.out.below HBJ.out).tbox
      have HA1 := Lib.hid (HV1c.out.below HBJ.out).tbox
      have HA2 := Lib.hid (HV2c.out.below HBJ.out).tbox
      have HA3 := Lib.hid (HV3.out.below HBJ.out).tbox
      have HA4 := Lib.hid HG.out.box
      have hNL := HN1.out
      have HF0 : Hid (Few [fs]) := Lib.hid (few_one (by rw [← HFS.out, List.length_append, List.length_take, List.length_drop]; omega))
      have HF2 : Hid (Few [L.take (k + 1) ++ L.drop k]) := Lib.hid (few_one (by rw [List.length_append, List.length_take, List.length_drop]; omega))
      have HF3 : Hid (Few [L ++ [((9 : Int), (0 : Int))]]) := Lib.hid (few_one (by rw [List.length_append, List.length_singleton]; omega))
      have HF4 : Hid (Few [L ++ [((9 : Int), (8 : Int))]]) := Lib.hid (few_one (by rw [List.length_append, List.length_singleton]; omega))
      have HKL : Hid (k < L.length) := Lib.hid (by omega)
      clear hNL
      obtain ⟨rf, hrf⟩ : ∃ rf, orderOf (L ++ [((9 : Int), (8 : Int))]) = rf := ⟨_, rfl⟩
      have HRF := Lib.hid hrf
      obtain ⟨t0, t1, t2⟩ := HA4.out.cells
      have hox := HA4.out.orderX HF4.out rf hrf
      clear hrf
      go_wp2_with fail
      refine hox.mono ?_
      rintro e wk ⟨Ak, Nk, ck, rfl, hRk, bk⟩
      obtain ⟨xk, hxk⟩ : ∃ xk, errOf rf = xk := ⟨_, rfl⟩
      rw [hxk]
      have HXK := Lib.hid hxk
      have HBK := Lib.hid bk
      clear hox t0 t1 t2 hRk bk hxk
      have HCk := Lib.hid (HCA.out.below HBK.out)
      have HK0 := Lib.hid (HA0.out.below HBK.out)
      obtain ⟨c0, c1', c2, c3⟩ := HCk.out.cells
      obtain ⟨t0, t1, t2⟩ := HK0.out.cells
      have hmq := HCk.out.may HK0.out HF0.out (r := true) (by rw [← HFS.out, may_good (HGD.out.less k), HI.out.less k]; decide)
      go_wp2_with fail
      refine hmq.mono ?_
      rintro e wl ⟨rfl, bq⟩
      have HBwl := Lib.hid bq
      clear hmq c0 c1' c2 c3 t0 t1 t2 bq
      have HCl := Lib.hid (HCk.out.below HBwl.out)
      have HK1 := Lib.hid ((HA1.out.below HBK.out).below HBwl.out)
      obtain ⟨c0, c1', c2, c3⟩ := HCl.out.cells
      obtain ⟨t0, t1, t2⟩ := HK1.out.cells
      have hmq := HCl.out.may HK1.out HFW.out (r := false) (may_down HUM.out _)
      go_wp2_with fail
      refine hmq.mono ?_
      rintro e wm ⟨rfl, bq⟩
      have HBwm := Lib.hid bq
      clear hmq c0 c1' c2 c3 t0 t1 t2 bq
      have HCm := Lib.hid (HCl.out.below HBwm.out)
      have HK2 := Lib.hid (((HA2.out.below HBK.out).below HBwl.out).below HBwm.out)
      obtain ⟨c0, c1', c2, c3⟩ := HCm.out.cells
      obtain ⟨t0, t1, t2⟩ := HK2.out.cells
      have hmq := HCm.out.may HK2.out HF2.out (r := false) (may_twice HKL.out _)
      go_wp2_with fail
      refine hmq.mono ?_
      rintro e wn ⟨rfl, bq⟩
      have HBwn := Lib.hid bq
      clear hmq c0 c1' c2 c3 t0 t1 t2 bq
      have HCn := Lib.hid (HCm.out.below HBwn.out)
      have HK3 := Lib.hid ((((HA3.out.below HBK.out).below HBwl.out).below HBwm.out).below HBwn.out)
      obtain ⟨c0, c1', c2, c3⟩ := HCn.out.cells
      obtain ⟨t0, t1, t2⟩ := HK3.out.cells
      have hmq := HCn.out.may HK3.out HF3.out (r := false) (may_into L _)
      go_wp2_with fail
      refine hmq.mono ?_
      rintro e wo ⟨rfl, bq⟩
      have HBwo := Lib.hid bq
      clear hmq c0 c1' c2 c3 t0 t1 t2 bq
      have HCo := Lib.hid (HCn.out.below HBwo.out)
      have HK4 := Lib.hid (((((HA4.out.below HBK.out).below HBwl.out).below HBwm.out).below HBwn.out).below HBwo.out)
      obtain ⟨rb, hrb⟩ : ∃ rb, rf.isSome = rb := ⟨_, rfl⟩
      have hxr : (xk = 0 ∧ rb = true) ∨ (xk = 1 ∧ rb = false) := by
        have := HXK.out
        cases rf with
        | none => exact .inr ⟨this.symm, hrb.symm⟩
        | some o => exact .inl ⟨this.symm, hrb.symm⟩
      have HRB2 := Lib.hid hrb
      clear hrb
      obtain ⟨c0, c1', c2, c3⟩ := HCo.out.cells
      obtain ⟨t0, t1, t2⟩ := HK4.out.cells
      have hmq := HCo.out.may HK4.out HF4.out (r := rb) (by rw [may_good (HI.out.back (by omega)), HRF.out, HRB2.out]; simp)
      go_wp2_with fail
      refine hmq.mono ?_
      rintro e wp ⟨rfl, bq⟩
      have HBwp := Lib.hid bq
      clear hmq c0 c1' c2 c3 t0 t1 t2 bq
      have hwk := wakes_calls wp
      rcases hxr with ⟨rfl, rfl⟩ | ⟨rfl, rfl⟩
      all_goals
        go_wp2_with fail
        refine hwk.mono ?_
        rintro e wq ⟨rfl, bq⟩
        have HBq := Lib.hid bq
        go_wp2_with fail
        go_ret
        have z1 := belowThen HBR.out HBR.out.size HBD.out
        have z2 := belowThen z1 z1.size HBA.out
        have z3 := belowThen z2 z2.size HBK.out
        have z4 := belowThen z3 z3.size HBwl.out
        have z5 := belowThen z4 z4.size HBwm.out
        have z6 := belowThen z5 z5.size HBwn.out
        have z7 := belowThen z6 z6.size HBwo.out
        have z8 := belowThen z7 z7.size HBwp.out
        exact ⟨rfl, belowThen z8 z8.size HBq.out⟩
theorem topoMay_walk (w : World) (A : Option Addr) (n c : Nat) (l : List (Nat × Nat)) (mm ep : Nat) (hr : Rd elU2 w (fun k => k < w.heap.size) A n l) (hc : n ≤ c) (hm : mm ≤ 255) (hep : ep ≤ 18446744073709551615) :
    Calls Try.prog 7 #[.slice A n c, .int .u8 (mm : Int), .int .u64 (ep : Int)] w fun e w' => e = .returned (.bool true) ∧ Below w.heap.size w w' :=
  cutTMA.2 (cutTMB.2 (cutTMC.2 topoMay_leaf)) w A n c l mm ep hr hc hm hep
end Go.Proofs.Ytgfnlfkbbedkaaa
