/-
  NetTrue's round: the cases 23, 24, 25.
-/
import Derived.Test.YtmkmbnfmmibifaaNetCutA
namespace Go.Proofs.Ytmkmbnfmmibifaa
open Go.RowKit

set_option maxRecDepth 100000 in
set_option maxHeartbeats 16000000 in
theorem trueLeaf23 : cutTrue.1 23 := by
  intro w n c os hc hnm i0 hi0 hz0 hz1 hz2 qQ w1 qK3 qa4 gk u2 u7 u8 u9 u10 u11 u12 u13 u20 u21 u22 u23 u24 u25 u26 u27 u28 u29 u30 u31 u32 u33 u34 u35 u36 u37 u38 u39 u40 u41 u42 u43 u44 u45 u46 u47 u48 u49 u50 u51 u52 u53 u54 u55 u56 u57 u58 u59 u60 u61 u62 u63 u64 u65 u66 u67 u68 u69 u70 u71 u72 u73 u74 u75 u76 u77 u78 u79 u80 u81 u82 u83 u84 u85 u86 u87 u88 u89 u90 u91 u92 u93 u94 u95 u96 u97 u98 u99 u100 u101 u102 u103 u104 u105 u106 u107 u108 u109 u110 u111 u112 u113 u114 u115 u116 u117 u118 u119 u120 u121 u122 u123 u124 u125 u126 u127 u128 u129 u130 u131 u132 u133 u134 u135 u136 u137 u138 u139 u140 u141 u142 u143 u144 u145 u146 u147 u148 u149 u150 u151 u152 u153 u154 u155 u156 u157 u158 u159 u160 u161 u162 u163 u164 u165 u166 u167 u168 u169 u170 u171 u172 u173 u174 u175 u176 u177 u178 u179 u180 u181 u182 u183 u184 u185 u186 u187 u188 u189 u190 u191 u192 u193 u194 u195 u196 u197 u198 u199 u200 u201 u202 u203 u204 u205 u206 u207 u208 u209 u210 u211 u212 u213 u214 u215 u216 u217 u218 u219 u220 u221 u222 u223 u224 u225 u226 u227 u228 u229 u230 u231 u232 u233 u234 qJ qK2 qa3 k K S v L T hkn hk80 hgk hsm hLk wq hlt hlt80 wh fr tn pos xs b off hbw qleft Ab nb cb hncb hi1 hi2 hi3 hi4 hr qa2 hi80 f3 hf3 t3 ht3 qK1 qa1 qK0 qa0 wM hbox hrM K2 hxK hbel hT80 A5 c5 hc5 hA5 hrT hLM q0 q1 q2 q3 q4 HWM hLm hTl1 hTl2 HLT0 hci
  obtain ⟨hwx, hpx⟩ := caseOf_wh (a := 2) (c := 3) hci (by decide)
  clear hci
  have hw3 : wh = 3 := whOf_eq hwx (by decide)
  have hw0 : ¬ wh = 0 := by omega
  have hw1 : ¬ wh = 1 := by omega
  have hw2 : ¬ wh = 2 := by omega
  obtain ⟨hpg, hpb⟩ := posOf_there hpx
  clear hwx hpx
  obtain ⟨ka, rfl, hka, t, ht⟩ : ∃ ka : Nat, pos = (ka : Int) ∧ ka < T.length ∧ ∃ t, T[ka]? = some t := ⟨pos.toNat, by omega, by omega, _, List.getElem?_eq_getElem (by omega)⟩
  clear hpg hpb
  have hka2 : (ka : Int) < (T.length : Int) := by omega
  have e0 : (wh == 0) = false := by rw [beq_eq_false_iff_ne]; omega
  have e1 : (wh == 1) = false := by rw [beq_eq_false_iff_ne]; omega
  have e2 : (wh == 2) = false := by rw [beq_eq_false_iff_ne]; omega
  have e3 : (wh == 3) = true := by rw [beq_iff_eq]; omega
  clear hw0 hw1 hw2 hw3
  obtain ⟨⟨ta, tf, tt, tp, tys⟩, tzs, tw⟩ := t
  cases tw
  · have hpar : L[ka]? = some (tf, tt, tzs, false) := by rw [HLT0.out, List.getElem?_map, ht]; rfl
    have hcall := Deliver_calls wM S w.heap.size 4 v L hLM.net.net (by decide) hsm (by omega) ka _ hpar
    go_wp2_with fail
    refine hcall.mono ?_
    rintro e w4 ⟨A4, n4, c4, S9, v9, rfl, hfb4, h4n, h4c, h4s, h4d⟩
    obtain rfl : n4 = tzs.length := hfb4.1.symm
    obtain ⟨⟨S4, v4, hL4⟩, hc4⟩ := hLM.next ⟨S9, v9, h4n, h4c, h4s⟩
    obtain ⟨wa, hwa⟩ : ∃ wa, w4.alloc (.cells #[.int .i64 tf, .int .i64 tt, .slice A4 tzs.length c4, .bool false] TP) = wa := ⟨_, rfl⟩
    obtain ⟨ka1, xa, _⟩ := boxT _ _ _ _ _ _ _ hwa
    have hLa := hL4.below ka1
    have hrTa := (hrT.chg hc4 fun q _ hq hn => hn hq).below ka1
    have hbxa := (hbox.chg hc4 (fun hn => hn hxK)).below ka1
    have hfba := hfb4.below ka1
    obtain ⟨b7, o7, vs7, e7, _, _, hV7, hcl7⟩ := hrTa.at_ ka _ ht
    obtain ⟨A8, n8, c8, B8, m8, d8, rfl, _, _, _, _, _, _, hr8, hr9⟩ := tr_open hV7
    have m0 : wa.cell? ⟨b7, o7 + ka * 7, none⟩ = some (.int .i64 ta) := hcl7 0 _ rfl
    have m1 : wa.cell? ⟨b7, o7 + ka * 7 + 1, none⟩ = some (.int .i64 tf) := hcl7 1 _ rfl
    have m2 : wa.cell? ⟨b7, o7 + ka * 7 + 2, none⟩ = some (.int .i64 tt) := hcl7 2 _ rfl
    have m3 : wa.cell? ⟨b7, o7 + ka * 7 + 3, none⟩ = some (.int .i64 tp) := hcl7 3 _ rfl
    have m4 : wa.cell? ⟨b7, o7 + ka * 7 + 4, none⟩ = some (.slice A8 n8 c8) := hcl7 4 _ rfl
    have m5 : wa.cell? ⟨b7, o7 + ka * 7 + 5, none⟩ = some (.slice B8 m8 d8) := hcl7 5 _ rfl
    have m6 : wa.cell? ⟨b7, o7 + ka * 7 + 6, none⟩ = some (.bool false) := hcl7 6 _ rfl
    obtain ⟨wb, hwb⟩ : ∃ wb, wa.alloc (.cells #[.int .i64 ta, .int .i64 tf, .int .i64 tt, .int .i64 tp, .slice A8 n8 c8, .slice B8 m8 d8, .bool false] 33) = wb := ⟨_, rfl⟩
    have hbb : Below wa.heap.size wa wb := by rw [← hwb]; exact allocBelow' _ _
    have hxv : BoxV wb wa.heap.size ta tf tt tp (.slice A8 n8 c8) (.slice B8 m8 d8) false := by rw [← hwb]; exact BoxV.made _ _ _ _ _ _ _ _
    have hLb := hLa.below hbb
    have hrT4 := hrTa.below hbb
    obtain ⟨z0, z1, z2, z3, z4, z5, z6⟩ := hxv.cells
    have hwas : wa.heap.size = w4.heap.size + 1 := by rw [← hwa]; simp
    rw [hwas] at z0 z1 z2 z3 z4 z5 z6
    clear hwas
    obtain ⟨x0, x1, x2, x3, _⟩ := (xa.below hbb).cells
    obtain ⟨y0, y1, y2, y3, y4⟩ := (hbxa.below hbb).cells
    obtain ⟨u0, u1, u2, u3, u4⟩ := hbxa.cells
    have s4 := conv_string (hfba.below hbb).rd.1 c4
    have s8 := conv_string (hr9.below hbb) d8
    have hL4l : (L.eraseIdx ka).length ≤ 80 := by have := List.length_eraseIdx_le L ka; omega
    have HWA := Lib.hid hwa
    have HWB := Lib.hid hwb
    have HT := Lib.hid ht
    clear hwa hwb hcl7 hV7 hr8 hr9 hfb4 hfba hbxa xa hxv hrT hLM hL4 hLa h4n h4c h4s h4d hcall hrTa hc4 hpar ht
    subst e7
    go_upto_region 23 with (fail)
    rw [HWA.out]
    go_upto_region 27 with (fail)
    rw [HWB.out]
    clear m0 m1 m2 m3 m4 m5 m6 u0 u1 u2 u3 u4 HWA HWB
    obtain ⟨C1, hC1, hN1, hR1⟩ := cutFullR (P := Try.prog) elTr 27 rfl (fun W => rfl) (some ⟨b7, o7, none⟩) T.length c5 ka (by omega) hc5 hA5
    obtain ⟨C2, hC2, hR2⟩ := cutFromR (P := Try.prog) elTr 27 rfl (fun W => rfl) (some ⟨b7, o7, none⟩) T.length c5 (ka + 1) (by omega) hc5
    have hC2' : ∀ (kl : IntKind) (W' : World), (Instr.slice 27 (.slice (some ⟨b7, o7, none⟩) T.length c5) (some (.int kl ((ka : Int) + 1))) none none).run Try.prog W' = .ok (.slice C2 (T.length - (ka + 1)) (c5 - (ka + 1))) W' := fun kl W' => hC2 kl W'
    have hw3 : IntKind.i64.wrap ((ka : Int) + 1) = (ka : Int) + 1 := IntWalk.i64_in _ ⟨by omega, by omega⟩
    have hrA := (hR1 _ _ _ hrT4).keep (w' := wb.drew) (Nat.le_refl _) fun _ _ _ => rfl
    have hrB := (hR2 _ _ _ hrT4).keep (w' := wb.drew) (Nat.le_refl _) fun _ _ _ => rfl
    have hm1 : ka + (T.length - (ka + 1)) ≤ maxLen := by unfold maxLen; omega
    have hb1 : (ka + (T.length - (ka + 1))) * 88 ≤ 140737488355328 := by omega
    have hB4 : w.heap.size ≤ wb.drew.heap.size := hLb.net.bel.size
    obtain ⟨T5, hT5⟩ : ∃ T5, T.take ka ++ T.drop (ka + 1) = T5 := ⟨_, rfl⟩
    have hLT5 : L.eraseIdx ka = T5.map parOf := by rw [← hT5, HLT0.out]; exact par_erase T ka
    have hsm5 : Small (L.eraseIdx ka) := hsm.erase ka
    have hT5l : T5.length ≤ 80 := by rw [← hT5, List.length_append, List.length_take, List.length_drop]; omega
    have HT5 := Lib.hid hT5
    clear hC2 hT5 hrT4 
    obtain ⟨v6, w6, hrun, hk6, _, hb6⟩ := run_app_keep (E := elTr) (P := Try.prog) (B := w.heap.size) 27 27 i0 _ 88 Try.underlying27 hi0 hz0 hz1 hz2 rfl (by decide) C1 ka hrA hN1 C2 (T.length - (ka + 1)) (c5 - (ka + 1)) hrB hm1 hb1 hB4
    rw [HT5.out] at hk6
    obtain ⟨A6, c6, e6, hc6, hA6, _⟩ := hk6.rd (by omega)
    subst e6
    have hb46 : Below wb.heap.size wb w6 := stepBelow (Below.refl wb.heap.size wb).drew hb6
    have hL6 := hLb.put (Chg.ofBelow hb46) hk6
    have HRUN := Lib.hid hrun
    clear hrun hk6 hrA hrB hb6 hb46 hLb hi0 hz0 hz1 hz2
    go_wp2_with fail
    go_region_law (refine stepRun (by rfl) _ _ 27 (by rfl) _ _ _ (by go_simp) (by go_simp) HRUN.out ?_)
    all_goals
      clear hC1 hC2' hR1 hR2
      have hlen := Len_calls _ _ _ _ _ _ hL6.net.net (by decide)
      have hTL : (L.eraseIdx ka).length = T5.length := by rw [hLT5, List.length_map]
      rw [hTL] at hlen
      have HLINE := Lib.hid hL6
      have HLT := Lib.hid hLT5
      clear hTL hLT5 
      go_wp2_with fail
      refine hlen.mono ?_
      rintro e wE ⟨rfl, rfl⟩
      clear hlen
      go_wp2_with fail
      go_roundg (n - (k + 1))
      case measure => omega
      case rel => exact ⟨k + 1, _, _, _, _, _, by omega, by omega, rfl, by go_num, HLINE.out, hsm5, by rw [List.length_eraseIdx_of_lt (by omega)]; omega, HLT.out⟩
  · have hpar : L[ka]? = some (tf, tt, tys, true) := by rw [HLT0.out, List.getElem?_map, ht]; rfl
    have hcall := Deliver_calls wM S w.heap.size 4 v L hLM.net.net (by decide) hsm (by omega) ka _ hpar
    go_wp2_with fail
    refine hcall.mono ?_
    rintro e w4 ⟨A4, n4, c4, S9, v9, rfl, hfb4, h4n, h4c, h4s, h4d⟩
    obtain rfl : n4 = tys.length := hfb4.1.symm
    obtain ⟨⟨S4, v4, hL4⟩, hc4⟩ := hLM.next ⟨S9, v9, h4n, h4c, h4s⟩
    obtain ⟨wa, hwa⟩ : ∃ wa, w4.alloc (.cells #[.int .i64 tf, .int .i64 tt, .slice A4 tys.length c4, .bool true] TP) = wa := ⟨_, rfl⟩
    obtain ⟨ka1, xa, _⟩ := boxT _ _ _ _ _ _ _ hwa
    have hLa := hL4.below ka1
    have hrTa := (hrT.chg hc4 fun q _ hq hn => hn hq).below ka1
    have hbxa := (hbox.chg hc4 (fun hn => hn hxK)).below ka1
    have hfba := hfb4.below ka1
    obtain ⟨b7, o7, vs7, e7, _, _, hV7, hcl7⟩ := hrTa.at_ ka _ ht
    obtain ⟨A8, n8, c8, B8, m8, d8, rfl, _, _, _, _, _, _, hr8, hr9⟩ := tr_open hV7
    have m0 : wa.cell? ⟨b7, o7 + ka * 7, none⟩ = some (.int .i64 ta) := hcl7 0 _ rfl
    have m1 : wa.cell? ⟨b7, o7 + ka * 7 + 1, none⟩ = some (.int .i64 tf) := hcl7 1 _ rfl
    have m2 : wa.cell? ⟨b7, o7 + ka * 7 + 2, none⟩ = some (.int .i64 tt) := hcl7 2 _ rfl
    have m3 : wa.cell? ⟨b7, o7 + ka * 7 + 3, none⟩ = some (.int .i64 tp) := hcl7 3 _ rfl
    have m4 : wa.cell? ⟨b7, o7 + ka * 7 + 4, none⟩ = some (.slice A8 n8 c8) := hcl7 4 _ rfl
    have m5 : wa.cell? ⟨b7, o7 + ka * 7 + 5, none⟩ = some (.slice B8 m8 d8) := hcl7 5 _ rfl
    have m6 : wa.cell? ⟨b7, o7 + ka * 7 + 6, none⟩ = some (.bool true) := hcl7 6 _ rfl
    obtain ⟨wb, hwb⟩ : ∃ wb, wa.alloc (.cells #[.int .i64 ta, .int .i64 tf, .int .i64 tt, .int .i64 tp, .slice A8 n8 c8, .slice B8 m8 d8, .bool true] 33) = wb := ⟨_, rfl⟩
    have hbb : Below wa.heap.size wa wb := by rw [← hwb]; exact allocBelow' _ _
    have hxv : BoxV wb wa.heap.size ta tf tt tp (.slice A8 n8 c8) (.slice B8 m8 d8) true := by rw [← hwb]; exact BoxV.made _ _ _ _ _ _ _ _
    have hLb := hLa.below hbb
    have hrT4 := hrTa.below hbb
    obtain ⟨z0, z1, z2, z3, z4, z5, z6⟩ := hxv.cells
    have hwas : wa.heap.size = w4.heap.size + 1 := by rw [← hwa]; simp
    rw [hwas] at z0 z1 z2 z3 z4 z5 z6
    clear hwas
    obtain ⟨x0, x1, x2, x3, _⟩ := (xa.below hbb).cells
    obtain ⟨y0, y1, y2, y3, y4⟩ := (hbxa.below hbb).cells
    obtain ⟨u0, u1, u2, u3, u4⟩ := hbxa.cells
    have s4 := conv_string (hfba.below hbb).rd.1 c4
    have s8 := conv_string (hr8.below hbb) c8
    have hL4l : (L.eraseIdx ka).length ≤ 80 := by have := List.length_eraseIdx_le L ka; omega
    have HWA := Lib.hid hwa
    have HWB := Lib.hid hwb
    have HT := Lib.hid ht
    clear hwa hwb hcl7 hV7 hr8 hr9 hfb4 hfba hbxa xa hxv hrT hLM hL4 hLa h4n h4c h4s h4d hcall hrTa hc4 hpar ht
    subst e7
    go_upto_region 23 with (fail)
    rw [HWA.out]
    go_upto_region 27 with (fail)
    rw [HWB.out]
    clear m0 m1 m2 m3 m4 m5 m6 u0 u1 u2 u3 u4 HWA HWB
    obtain ⟨C1, hC1, hN1, hR1⟩ := cutFullR (P := Try.prog) elTr 27 rfl (fun W => rfl) (some ⟨b7, o7, none⟩) T.length c5 ka (by omega) hc5 hA5
    obtain ⟨C2, hC2, hR2⟩ := cutFromR (P := Try.prog) elTr 27 rfl (fun W => rfl) (some ⟨b7, o7, none⟩) T.length c5 (ka + 1) (by omega) hc5
    have hC2' : ∀ (kl : IntKind) (W' : World), (Instr.slice 27 (.slice (some ⟨b7, o7, none⟩) T.length c5) (some (.int kl ((ka : Int) + 1))) none none).run Try.prog W' = .ok (.slice C2 (T.length - (ka + 1)) (c5 - (ka + 1))) W' := fun kl W' => hC2 kl W'
    have hw3 : IntKind.i64.wrap ((ka : Int) + 1) = (ka : Int) + 1 := IntWalk.i64_in _ ⟨by omega, by omega⟩
    have hrA := (hR1 _ _ _ hrT4).keep (w' := wb.drew) (Nat.le_refl _) fun _ _ _ => rfl
    have hrB := (hR2 _ _ _ hrT4).keep (w' := wb.drew) (Nat.le_refl _) fun _ _ _ => rfl
    have hm1 : ka + (T.length - (ka + 1)) ≤ maxLen := by unfold maxLen; omega
    have hb1 : (ka + (T.length - (ka + 1))) * 88 ≤ 140737488355328 := by omega
    have hB4 : w.heap.size ≤ wb.drew.heap.size := hLb.net.bel.size
    obtain ⟨T5, hT5⟩ : ∃ T5, T.take ka ++ T.drop (ka + 1) = T5 := ⟨_, rfl⟩
    have hLT5 : L.eraseIdx ka = T5.map parOf := by rw [← hT5, HLT0.out]; exact par_erase T ka
    have hsm5 : Small (L.eraseIdx ka) := hsm.erase ka
    have hT5l : T5.length ≤ 80 := by rw [← hT5, List.length_append, List.length_take, List.length_drop]; omega
    have HT5 := Lib.hid hT5
    clear hC2 hT5 hrT4 
    obtain ⟨v6, w6, hrun, hk6, _, hb6⟩ := run_app_keep (E := elTr) (P := Try.prog) (B := w.heap.size) 27 27 i0 _ 88 Try.underlying27 hi0 hz0 hz1 hz2 rfl (by decide) C1 ka hrA hN1 C2 (T.length - (ka + 1)) (c5 - (ka + 1)) hrB hm1 hb1 hB4
    rw [HT5.out] at hk6
    obtain ⟨A6, c6, e6, hc6, hA6, _⟩ := hk6.rd (by omega)
    subst e6
    have hb46 : Below wb.heap.size wb w6 := stepBelow (Below.refl wb.heap.size wb).drew hb6
    have hL6 := hLb.put (Chg.ofBelow hb46) hk6
    have HRUN := Lib.hid hrun
    clear hrun hk6 hrA hrB hb6 hb46 hLb hi0 hz0 hz1 hz2
    go_wp2_with fail
    go_region_law (refine stepRun (by rfl) _ _ 27 (by rfl) _ _ _ (by go_simp) (by go_simp) HRUN.out ?_)
    all_goals
      clear hC1 hC2' hR1 hR2
      have hlen := Len_calls _ _ _ _ _ _ hL6.net.net (by decide)
      have hTL : (L.eraseIdx ka).length = T5.length := by rw [hLT5, List.length_map]
      rw [hTL] at hlen
      have HLINE := Lib.hid hL6
      have HLT := Lib.hid hLT5
      clear hTL hLT5 
      go_wp2_with fail
      refine hlen.mono ?_
      rintro e wE ⟨rfl, rfl⟩
      clear hlen
      go_wp2_with fail
      go_roundg (n - (k + 1))
      case measure => omega
      case rel => exact ⟨k + 1, _, _, _, _, _, by omega, by omega, rfl, by go_num, HLINE.out, hsm5, by rw [List.length_eraseIdx_of_lt (by omega)]; omega, HLT.out⟩
set_option maxRecDepth 100000 in
set_option maxHeartbeats 16000000 in
theorem trueLeaf24 : cutTrue.1 24 := by
  intro w n c os hc hnm i0 hi0 hz0 hz1 hz2 qQ w1 qK3 qa4 gk u2 u7 u8 u9 u10 u11 u12 u13 u20 u21 u22 u23 u24 u25 u26 u27 u28 u29 u30 u31 u32 u33 u34 u35 u36 u37 u38 u39 u40 u41 u42 u43 u44 u45 u46 u47 u48 u49 u50 u51 u52 u53 u54 u55 u56 u57 u58 u59 u60 u61 u62 u63 u64 u65 u66 u67 u68 u69 u70 u71 u72 u73 u74 u75 u76 u77 u78 u79 u80 u81 u82 u83 u84 u85 u86 u87 u88 u89 u90 u91 u92 u93 u94 u95 u96 u97 u98 u99 u100 u101 u102 u103 u104 u105 u106 u107 u108 u109 u110 u111 u112 u113 u114 u115 u116 u117 u118 u119 u120 u121 u122 u123 u124 u125 u126 u127 u128 u129 u130 u131 u132 u133 u134 u135 u136 u137 u138 u139 u140 u141 u142 u143 u144 u145 u146 u147 u148 u149 u150 u151 u152 u153 u154 u155 u156 u157 u158 u159 u160 u161 u162 u163 u164 u165 u166 u167 u168 u169 u170 u171 u172 u173 u174 u175 u176 u177 u178 u179 u180 u181 u182 u183 u184 u185 u186 u187 u188 u189 u190 u191 u192 u193 u194 u195 u196 u197 u198 u199 u200 u201 u202 u203 u204 u205 u206 u207 u208 u209 u210 u211 u212 u213 u214 u215 u216 u217 u218 u219 u220 u221 u222 u223 u224 u225 u226 u227 u228 u229 u230 u231 u232 u233 u234 qJ qK2 qa3 k K S v L T hkn hk80 hgk hsm hLk wq hlt hlt80 wh fr tn pos xs b off hbw qleft Ab nb cb hncb hi1 hi2 hi3 hi4 hr qa2 hi80 f3 hf3 t3 ht3 qK1 qa1 qK0 qa0 wM hbox hrM K2 hxK hbel hT80 A5 c5 hc5 hA5 hrT hLM q0 q1 q2 q3 q4 HWM hLm hTl1 hTl2 HLT0 hci
  obtain ⟨hwx, hpx⟩ := caseOf_wh (a := 2) (c := 4) hci (by decide)
  clear hci
  have hw4 : wh = 4 := whOf_eq hwx (by decide)
  have hw0 : ¬ wh = 0 := by omega
  have hw1 : ¬ wh = 1 := by omega
  have hw2 : ¬ wh = 2 := by omega
  have hw3 : ¬ wh = 3 := by omega
  obtain ⟨hpg, hpb⟩ := posOf_there hpx
  clear hwx hpx
  obtain ⟨ka, rfl, hka, t, ht⟩ : ∃ ka : Nat, pos = (ka : Int) ∧ ka < T.length ∧ ∃ t, T[ka]? = some t := ⟨pos.toNat, by omega, by omega, _, List.getElem?_eq_getElem (by omega)⟩
  clear hpg hpb
  have hka2 : (ka : Int) < (T.length : Int) := by omega
  have e0 : (wh == 0) = false := by rw [beq_eq_false_iff_ne]; omega
  have e1 : (wh == 1) = false := by rw [beq_eq_false_iff_ne]; omega
  have e2 : (wh == 2) = false := by rw [beq_eq_false_iff_ne]; omega
  have e3 : (wh == 3) = false := by rw [beq_eq_false_iff_ne]; omega
  have e4 : (wh == 4) = true := by rw [beq_iff_eq]; omega
  clear hw0 hw1 hw2 hw3 hw4
  obtain ⟨⟨ta, tf, tt, tp, tys⟩, tzs, tw⟩ := t
  cases tw
  · have hpar : L[ka]? = some (tf, tt, tzs, false) := by rw [HLT0.out, List.getElem?_map, ht]; rfl
    have hcall := Deliver_calls wM S w.heap.size 4 v L hLM.net.net (by decide) hsm (by omega) ka _ hpar
    go_wp2_with fail
    refine hcall.mono ?_
    rintro e w4 ⟨A4, n4, c4, S9, v9, rfl, hfb4, h4n, h4c, h4s, h4d⟩
    obtain rfl : n4 = tzs.length := hfb4.1.symm
    obtain ⟨⟨S4, v4, hL4⟩, hc4⟩ := hLM.next ⟨S9, v9, h4n, h4c, h4s⟩
    obtain ⟨wa, hwa⟩ : ∃ wa, w4.alloc (.cells #[.int .i64 tf, .int .i64 tt, .slice A4 tzs.length c4, .bool false] TP) = wa := ⟨_, rfl⟩
    obtain ⟨ka1, xa, _⟩ := boxT _ _ _ _ _ _ _ hwa
    have hLa := hL4.below ka1
    have hrTa := (hrT.chg hc4 fun q _ hq hn => hn hq).below ka1
    have hbxa := (hbox.chg hc4 (fun hn => hn hxK)).below ka1
    have hfba := hfb4.below ka1
    obtain ⟨b7, o7, vs7, e7, _, _, hV7, hcl7⟩ := hrTa.at_ ka _ ht
    obtain ⟨A8, n8, c8, B8, m8, d8, rfl, _, _, _, _, _, _, hr8, hr9⟩ := tr_open hV7
    have m0 : wa.cell? ⟨b7, o7 + ka * 7, none⟩ = some (.int .i64 ta) := hcl7 0 _ rfl
    have m1 : wa.cell? ⟨b7, o7 + ka * 7 + 1, none⟩ = some (.int .i64 tf) := hcl7 1 _ rfl
    have m2 : wa.cell? ⟨b7, o7 + ka * 7 + 2, none⟩ = some (.int .i64 tt) := hcl7 2 _ rfl
    have m3 : wa.cell? ⟨b7, o7 + ka * 7 + 3, none⟩ = some (.int .i64 tp) := hcl7 3 _ rfl
    have m4 : wa.cell? ⟨b7, o7 + ka * 7 + 4, none⟩ = some (.slice A8 n8 c8) := hcl7 4 _ rfl
    have m5 : wa.cell? ⟨b7, o7 + ka * 7 + 5, none⟩ = some (.slice B8 m8 d8) := hcl7 5 _ rfl
    have m6 : wa.cell? ⟨b7, o7 + ka * 7 + 6, none⟩ = some (.bool false) := hcl7 6 _ rfl
    obtain ⟨wb, hwb⟩ : ∃ wb, wa.alloc (.cells #[.int .i64 ta, .int .i64 tf, .int .i64 tt, .int .i64 tp, .slice A8 n8 c8, .slice B8 m8 d8, .bool false] 33) = wb := ⟨_, rfl⟩
    have hbb : Below wa.heap.size wa wb := by rw [← hwb]; exact allocBelow' _ _
    have hxv : BoxV wb wa.heap.size ta tf tt tp (.slice A8 n8 c8) (.slice B8 m8 d8) false := by rw [← hwb]; exact BoxV.made _ _ _ _ _ _ _ _
    have hLb := hLa.below hbb
    have hrT4 := hrTa.below hbb
    obtain ⟨z0, z1, z2, z3, z4, z5, z6⟩ := hxv.cells
    have hwas : wa.heap.size = w4.heap.size + 1 := by rw [← hwa]; simp
    rw [hwas] at z0 z1 z2 z3 z4 z5 z6
    clear hwas
    obtain ⟨x0, x1, x2, x3, _⟩ := (xa.below hbb).cells
    obtain ⟨y0, y1, y2, y3, y4⟩ := (hbxa.below hbb).cells
    obtain ⟨u0, u1, u2, u3, u4⟩ := hbxa.cells
    have s4 := conv_string (hfba.below hbb).rd.1 c4
    have s8 := conv_string (hr9.below hbb) d8
    have hL4l : (L.eraseIdx ka).length ≤ 80 := by have := List.length_eraseIdx_le L ka; omega
    have HWA := Lib.hid hwa
    have HWB := Lib.hid hwb
    have HT := Lib.hid ht
    clear hwa hwb hcl7 hV7 hr8 hr9 hfb4 hfba hbxa xa hxv hrT hLM hL4 hLa h4n h4c h4s h4d hcall hrTa hc4 hpar ht
    subst e7
    go_upto_region 23 with (fail)
    rw [HWA.out]
    go_upto_region 27 with (fail)
    rw [HWB.out]
    clear m0 m1 m2 m3 m4 m5 m6 u0 u1 u2 u3 u4 HWA HWB
    obtain ⟨C1, hC1, hN1, hR1⟩ := cutFullR (P := Try.prog) elTr 27 rfl (fun W => rfl) (some ⟨b7, o7, none⟩) T.length c5 ka (by omega) hc5 hA5
    obtain ⟨C2, hC2, hR2⟩ := cutFromR (P := Try.prog) elTr 27 rfl (fun W => rfl) (some ⟨b7, o7, none⟩) T.length c5 (ka + 1) (by omega) hc5
    have hC2' : ∀ (kl : IntKind) (W' : World), (Instr.slice 27 (.slice (some ⟨b7, o7, none⟩) T.length c5) (some (.int kl ((ka : Int) + 1))) none none).run Try.prog W' = .ok (.slice C2 (T.length - (ka + 1)) (c5 - (ka + 1))) W' := fun kl W' => hC2 kl W'
    have hw3 : IntKind.i64.wrap ((ka : Int) + 1) = (ka : Int) + 1 := IntWalk.i64_in _ ⟨by omega, by omega⟩
    have hrA := (hR1 _ _ _ hrT4).keep (w' := wb.drew) (Nat.le_refl _) fun _ _ _ => rfl
    have hrB := (hR2 _ _ _ hrT4).keep (w' := wb.drew) (Nat.le_refl _) fun _ _ _ => rfl
    have hm1 : ka + (T.length - (ka + 1)) ≤ maxLen := by unfold maxLen; omega
    have hb1 : (ka + (T.length - (ka + 1))) * 88 ≤ 140737488355328 := by omega
    have hB4 : w.heap.size ≤ wb.drew.heap.size := hLb.net.bel.size
    obtain ⟨T5, hT5⟩ : ∃ T5, T.take ka ++ T.drop (ka + 1) = T5 := ⟨_, rfl⟩
    have hLT5 : L.eraseIdx ka = T5.map parOf := by rw [← hT5, HLT0.out]; exact par_erase T ka
    have hsm5 : Small (L.eraseIdx ka) := hsm.erase ka
    have hT5l : T5.length ≤ 80 := by rw [← hT5, List.length_append, List.length_take, List.length_drop]; omega
    have HT5 := Lib.hid hT5
    clear hC2 hT5 hrT4 
    obtain ⟨v6, w6, hrun, hk6, _, hb6⟩ := run_app_keep (E := elTr) (P := Try.prog) (B := w.heap.size) 27 27 i0 _ 88 Try.underlying27 hi0 hz0 hz1 hz2 rfl (by decide) C1 ka hrA hN1 C2 (T.length - (ka + 1)) (c5 - (ka + 1)) hrB hm1 hb1 hB4
    rw [HT5.out] at hk6
    obtain ⟨A6, c6, e6, hc6, hA6, _⟩ := hk6.rd (by omega)
    subst e6
    have hb46 : Below wb.heap.size wb w6 := stepBelow (Below.refl wb.heap.size wb).drew hb6
    have hL6 := hLb.put (Chg.ofBelow hb46) hk6
    have HRUN := Lib.hid hrun
    clear hrun hk6 hrA hrB hb6 hb46 hLb hi0 hz0 hz1 hz2
    go_wp2_with fail
    go_region_law (refine stepRun (by rfl) _ _ 27 (by rfl) _ _ _ (by go_simp) (by go_simp) HRUN.out ?_)
    all_goals
      clear hC1 hC2' hR1 hR2
      have hlen := Len_calls _ _ _ _ _ _ hL6.net.net (by decide)
      have hTL : (L.eraseIdx ka).length = T5.length := by rw [hLT5, List.length_map]
      rw [hTL] at hlen
      have HLINE := Lib.hid hL6
      have HLT := Lib.hid hLT5
      clear hTL hLT5 
      go_wp2_with fail
      refine hlen.mono ?_
      rintro e wE ⟨rfl, rfl⟩
      clear hlen
      go_wp2_with fail
      go_roundg (n - (k + 1))
      case measure => omega
      case rel => exact ⟨k + 1, _, _, _, _, _, by omega, by omega, rfl, by go_num, HLINE.out, hsm5, by rw [List.length_eraseIdx_of_lt (by omega)]; omega, HLT.out⟩
  · have hpar : L[ka]? = some (tf, tt, tys, true) := by rw [HLT0.out, List.getElem?_map, ht]; rfl
    have hcall := Deliver_calls wM S w.heap.size 4 v L hLM.net.net (by decide) hsm (by omega) ka _ hpar
    go_wp2_with fail
    refine hcall.mono ?_
    rintro e w4 ⟨A4, n4, c4, S9, v9, rfl, hfb4, h4n, h4c, h4s, h4d⟩
    obtain rfl : n4 = tys.length := hfb4.1.symm
    obtain ⟨⟨S4, v4, hL4⟩, hc4⟩ := hLM.next ⟨S9, v9, h4n, h4c, h4s⟩
    obtain ⟨wa, hwa⟩ : ∃ wa, w4.alloc (.cells #[.int .i64 tf, .int .i64 tt, .slice A4 tys.length c4, .bool true] TP) = wa := ⟨_, rfl⟩
    obtain ⟨ka1, xa, _⟩ := boxT _ _ _ _ _ _ _ hwa
    have hLa := hL4.below ka1
    have hrTa := (hrT.chg hc4 fun q _ hq hn => hn hq).below ka1
    have hbxa := (hbox.chg hc4 (fun hn => hn hxK)).below ka1
    have hfba := hfb4.below ka1
    obtain ⟨b7, o7, vs7, e7, _, _, hV7, hcl7⟩ := hrTa.at_ ka _ ht
    obtain ⟨A8, n8, c8, B8, m8, d8, rfl, _, _, _, _, _, _, hr8, hr9⟩ := tr_open hV7
    have m0 : wa.cell? ⟨b7, o7 + ka * 7, none⟩ = some (.int .i64 ta) := hcl7 0 _ rfl
    have m1 : wa.cell? ⟨b7, o7 + ka * 7 + 1, none⟩ = some (.int .i64 tf) := hcl7 1 _ rfl
    have m2 : wa.cell? ⟨b7, o7 + ka * 7 + 2, none⟩ = some (.int .i64 tt) := hcl7 2 _ rfl
    have m3 : wa.cell? ⟨b7, o7 + ka * 7 + 3, none⟩ = some (.int .i64 tp) := hcl7 3 _ rfl
    have m4 : wa.cell? ⟨b7, o7 + ka * 7 + 4, none⟩ = some (.slice A8 n8 c8) := hcl7 4 _ rfl
    have m5 : wa.cell? ⟨b7, o7 + ka * 7 + 5, none⟩ = some (.slice B8 m8 d8) := hcl7 5 _ rfl
    have m6 : wa.cell? ⟨b7, o7 + ka * 7 + 6, none⟩ = some (.bool true) := hcl7 6 _ rfl
    obtain ⟨wb, hwb⟩ : ∃ wb, wa.alloc (.cells #[.int .i64 ta, .int .i64 tf, .int .i64 tt, .int .i64 tp, .slice A8 n8 c8, .slice B8 m8 d8, .bool true] 33) = wb := ⟨_, rfl⟩
    have hbb : Below wa.heap.size wa wb := by rw [← hwb]; exact allocBelow' _ _
    have hxv : BoxV wb wa.heap.size ta tf tt tp (.slice A8 n8 c8) (.slice B8 m8 d8) true := by rw [← hwb]; exact BoxV.made _ _ _ _ _ _ _ _
    have hLb := hLa.below hbb
    have hrT4 := hrTa.below hbb
    obtain ⟨z0, z1, z2, z3, z4, z5, z6⟩ := hxv.cells
    have hwas : wa.heap.size = w4.heap.size + 1 := by rw [← hwa]; simp
    rw [hwas] at z0 z1 z2 z3 z4 z5 z6
    clear hwas
    obtain ⟨x0, x1, x2, x3, _⟩ := (xa.below hbb).cells
    obtain ⟨y0, y1, y2, y3, y4⟩ := (hbxa.below hbb).cells
    obtain ⟨u0, u1, u2, u3, u4⟩ := hbxa.cells
    have s4 := conv_string (hfba.below hbb).rd.1 c4
    have s8 := conv_string (hr8.below hbb) c8
    have hL4l : (L.eraseIdx ka).length ≤ 80 := by have := List.length_eraseIdx_le L ka; omega
    have HWA := Lib.hid hwa
    have HWB := Lib.hid hwb
    have HT := Lib.hid ht
    clear hwa hwb hcl7 hV7 hr8 hr9 hfb4 hfba hbxa xa hxv hrT hLM hL4 hLa h4n h4c h4s h4d hcall hrTa hc4 hpar ht
    subst e7
    go_upto_region 23 with (fail)
    rw [HWA.out]
    go_upto_region 27 with (fail)
    rw [HWB.out]
    clear m0 m1 m2 m3 m4 m5 m6 u0 u1 u2 u3 u4 HWA HWB
    obtain ⟨C1, hC1, hN1, hR1⟩ := cutFullR (P := Try.prog) elTr 27 rfl (fun W => rfl) (some ⟨b7, o7, none⟩) T.length c5 ka (by omega) hc5 hA5
    obtain ⟨C2, hC2, hR2⟩ := cutFromR (P := Try.prog) elTr 27 rfl (fun W => rfl) (some ⟨b7, o7, none⟩) T.length c5 (ka + 1) (by omega) hc5
    have hC2' : ∀ (kl : IntKind) (W' : World), (Instr.slice 27 (.slice (some ⟨b7, o7, none⟩) T.length c5) (some (.int kl ((ka : Int) + 1))) none none).run Try.prog W' = .ok (.slice C2 (T.length - (ka + 1)) (c5 - (ka + 1))) W' := fun kl W' => hC2 kl W'
    have hw3 : IntKind.i64.wrap ((ka : Int) + 1) = (ka : Int) + 1 := IntWalk.i64_in _ ⟨by omega, by omega⟩
    have hrA := (hR1 _ _ _ hrT4).keep (w' := wb.drew) (Nat.le_refl _) fun _ _ _ => rfl
    have hrB := (hR2 _ _ _ hrT4).keep (w' := wb.drew) (Nat.le_refl _) fun _ _ _ => rfl
    have hm1 : ka + (T.length - (ka + 1)) ≤ maxLen := by unfold maxLen; omega
    have hb1 : (ka + (T.length - (ka + 1))) * 88 ≤ 140737488355328 := by omega
    have hB4 : w.heap.size ≤ wb.drew.heap.size := hLb.net.bel.size
    obtain ⟨T5, hT5⟩ : ∃ T5, T.take ka ++ T.drop (ka + 1) = T5 := ⟨_, rfl⟩
    have hLT5 : L.eraseIdx ka = T5.map parOf := by rw [← hT5, HLT0.out]; exact par_erase T ka
    have hsm5 : Small (L.eraseIdx ka) := hsm.erase ka
    have hT5l : T5.length ≤ 80 := by rw [← hT5, List.length_append, List.length_take, List.length_drop]; omega
    have HT5 := Lib.hid hT5
    clear hC2 hT5 hrT4 
    obtain ⟨v6, w6, hrun, hk6, _, hb6⟩ := run_app_keep (E := elTr) (P := Try.prog) (B := w.heap.size) 27 27 i0 _ 88 Try.underlying27 hi0 hz0 hz1 hz2 rfl (by decide) C1 ka hrA hN1 C2 (T.length - (ka + 1)) (c5 - (ka + 1)) hrB hm1 hb1 hB4
    rw [HT5.out] at hk6
    obtain ⟨A6, c6, e6, hc6, hA6, _⟩ := hk6.rd (by omega)
    subst e6
    have hb46 : Below wb.heap.size wb w6 := stepBelow (Below.refl wb.heap.size wb).drew hb6
    have hL6 := hLb.put (Chg.ofBelow hb46) hk6
    have HRUN := Lib.hid hrun
    clear hrun hk6 hrA hrB hb6 hb46 hLb hi0 hz0 hz1 hz2
    go_wp2_with fail
    go_region_law (refine stepRun (by rfl) _ _ 27 (by rfl) _ _ _ (by go_simp) (by go_simp) HRUN.out ?_)
    all_goals
      clear hC1 hC2' hR1 hR2
      have hlen := Len_calls _ _ _ _ _ _ hL6.net.net (by decide)
      have hTL : (L.eraseIdx ka).length = T5.length := by rw [hLT5, List.length_map]
      rw [hTL] at hlen
      have HLINE := Lib.hid hL6
      have HLT := Lib.hid hLT5
      clear hTL hLT5 
      go_wp2_with fail
      refine hlen.mono ?_
      rintro e wE ⟨rfl, rfl⟩
      clear hlen
      go_wp2_with fail
      go_roundg (n - (k + 1))
      case measure => omega
      case rel => exact ⟨k + 1, _, _, _, _, _, by omega, by omega, rfl, by go_num, HLINE.out, hsm5, by rw [List.length_eraseIdx_of_lt (by omega)]; omega, HLT.out⟩
set_option maxRecDepth 100000 in
set_option maxHeartbeats 16000000 in
theorem trueLeaf25 : cutTrue.1 25 := by
  intro w n c os hc hnm i0 hi0 hz0 hz1 hz2 qQ w1 qK3 qa4 gk u2 u7 u8 u9 u10 u11 u12 u13 u20 u21 u22 u23 u24 u25 u26 u27 u28 u29 u30 u31 u32 u33 u34 u35 u36 u37 u38 u39 u40 u41 u42 u43 u44 u45 u46 u47 u48 u49 u50 u51 u52 u53 u54 u55 u56 u57 u58 u59 u60 u61 u62 u63 u64 u65 u66 u67 u68 u69 u70 u71 u72 u73 u74 u75 u76 u77 u78 u79 u80 u81 u82 u83 u84 u85 u86 u87 u88 u89 u90 u91 u92 u93 u94 u95 u96 u97 u98 u99 u100 u101 u102 u103 u104 u105 u106 u107 u108 u109 u110 u111 u112 u113 u114 u115 u116 u117 u118 u119 u120 u121 u122 u123 u124 u125 u126 u127 u128 u129 u130 u131 u132 u133 u134 u135 u136 u137 u138 u139 u140 u141 u142 u143 u144 u145 u146 u147 u148 u149 u150 u151 u152 u153 u154 u155 u156 u157 u158 u159 u160 u161 u162 u163 u164 u165 u166 u167 u168 u169 u170 u171 u172 u173 u174 u175 u176 u177 u178 u179 u180 u181 u182 u183 u184 u185 u186 u187 u188 u189 u190 u191 u192 u193 u194 u195 u196 u197 u198 u199 u200 u201 u202 u203 u204 u205 u206 u207 u208 u209 u210 u211 u212 u213 u214 u215 u216 u217 u218 u219 u220 u221 u222 u223 u224 u225 u226 u227 u228 u229 u230 u231 u232 u233 u234 qJ qK2 qa3 k K S v L T hkn hk80 hgk hsm hLk wq hlt hlt80 wh fr tn pos xs b off hbw qleft Ab nb cb hncb hi1 hi2 hi3 hi4 hr qa2 hi80 f3 hf3 t3 ht3 qK1 qa1 qK0 qa0 wM hbox hrM K2 hxK hbel hT80 A5 c5 hc5 hA5 hrT hLM q0 q1 q2 q3 q4 HWM hLm hTl1 hTl2 HLT0 hci
  obtain ⟨hwx, hpx⟩ := caseOf_wh (a := 2) (c := 5) hci (by decide)
  clear hci
  have hw5 : wh = 5 := whOf_eq hwx (by decide)
  have hw0 : ¬ wh = 0 := by omega
  have hw1 : ¬ wh = 1 := by omega
  have hw2 : ¬ wh = 2 := by omega
  have hw3 : ¬ wh = 3 := by omega
  have hw4 : ¬ wh = 4 := by omega
  obtain ⟨hpg, hpb⟩ := posOf_there hpx
  clear hwx hpx
  obtain ⟨ka, rfl, hka, t, ht⟩ : ∃ ka : Nat, pos = (ka : Int) ∧ ka < T.length ∧ ∃ t, T[ka]? = some t := ⟨pos.toNat, by omega, by omega, _, List.getElem?_eq_getElem (by omega)⟩
  clear hpg hpb
  have hka2 : (ka : Int) < (T.length : Int) := by omega
  have e0 : (wh == 0) = false := by rw [beq_eq_false_iff_ne]; omega
  have e1 : (wh == 1) = false := by rw [beq_eq_false_iff_ne]; omega
  have e2 : (wh == 2) = false := by rw [beq_eq_false_iff_ne]; omega
  have e3 : (wh == 3) = false := by rw [beq_eq_false_iff_ne]; omega
  have e4 : (wh == 4) = false := by rw [beq_eq_false_iff_ne]; omega
  have e5 : (wh == 5) = true := by rw [beq_iff_eq]; omega
  clear hw0 hw1 hw2 hw3 hw4 hw5
  obtain ⟨⟨ta, tf, tt, tp, tys⟩, tzs, tw⟩ := t
  cases tw
  · have hpar : L[ka]? = some (tf, tt, tzs, false) := by rw [HLT0.out, List.getElem?_map, ht]; rfl
    have hcall := Deliver_calls wM S w.heap.size 4 v L hLM.net.net (by decide) hsm (by omega) ka _ hpar
    go_wp2_with fail
    refine hcall.mono ?_
    rintro e w4 ⟨A4, n4, c4, S9, v9, rfl, hfb4, h4n, h4c, h4s, h4d⟩
    obtain rfl : n4 = tzs.length := hfb4.1.symm
    obtain ⟨⟨S4, v4, hL4⟩, hc4⟩ := hLM.next ⟨S9, v9, h4n, h4c, h4s⟩
    obtain ⟨wa, hwa⟩ : ∃ wa, w4.alloc (.cells #[.int .i64 tf, .int .i64 tt, .slice A4 tzs.length c4, .bool false] TP) = wa := ⟨_, rfl⟩
    obtain ⟨ka1, xa, _⟩ := boxT _ _ _ _ _ _ _ hwa
    have hLa := hL4.below ka1
    have hrTa := (hrT.chg hc4 fun q _ hq hn => hn hq).below ka1
    have hbxa := (hbox.chg hc4 (fun hn => hn hxK)).below ka1
    have hfba := hfb4.below ka1
    obtain ⟨b7, o7, vs7, e7, _, _, hV7, hcl7⟩ := hrTa.at_ ka _ ht
    obtain ⟨A8, n8, c8, B8, m8, d8, rfl, _, _, _, _, _, _, hr8, hr9⟩ := tr_open hV7
    have m0 : wa.cell? ⟨b7, o7 + ka * 7, none⟩ = some (.int .i64 ta) := hcl7 0 _ rfl
    have m1 : wa.cell? ⟨b7, o7 + ka * 7 + 1, none⟩ = some (.int .i64 tf) := hcl7 1 _ rfl
    have m2 : wa.cell? ⟨b7, o7 + ka * 7 + 2, none⟩ = some (.int .i64 tt) := hcl7 2 _ rfl
    have m3 : wa.cell? ⟨b7, o7 + ka * 7 + 3, none⟩ = some (.int .i64 tp) := hcl7 3 _ rfl
    have m4 : wa.cell? ⟨b7, o7 + ka * 7 + 4, none⟩ = some (.slice A8 n8 c8) := hcl7 4 _ rfl
    have m5 : wa.cell? ⟨b7, o7 + ka * 7 + 5, none⟩ = some (.slice B8 m8 d8) := hcl7 5 _ rfl
    have m6 : wa.cell? ⟨b7, o7 + ka * 7 + 6, none⟩ = some (.bool false) := hcl7 6 _ rfl
    obtain ⟨wb, hwb⟩ : ∃ wb, wa.alloc (.cells #[.int .i64 ta, .int .i64 tf, .int .i64 tt, .int .i64 tp, .slice A8 n8 c8, .slice B8 m8 d8, .bool false] 33) = wb := ⟨_, rfl⟩
    have hbb : Below wa.heap.size wa wb := by rw [← hwb]; exact allocBelow' _ _
    have hxv : BoxV wb wa.heap.size ta tf tt tp (.slice A8 n8 c8) (.slice B8 m8 d8) false := by rw [← hwb]; exact BoxV.made _ _ _ _ _ _ _ _
    have hLb := hLa.below hbb
    have hrT4 := hrTa.below hbb
    obtain ⟨z0, z1, z2, z3, z4, z5, z6⟩ := hxv.cells
    have hwas : wa.heap.size = w4.heap.size + 1 := by rw [← hwa]; simp
    rw [hwas] at z0 z1 z2 z3 z4 z5 z6
    clear hwas
    obtain ⟨x0, x1, x2, x3, _⟩ := (xa.below hbb).cells
    obtain ⟨y0, y1, y2, y3, y4⟩ := (hbxa.below hbb).cells
    obtain ⟨u0, u1, u2, u3, u4⟩ := hbxa.cells
    have s4 := conv_string (hfba.below hbb).rd.1 c4
    have s8 := conv_string (hr9.below hbb) d8
    have hL4l : (L.eraseIdx ka).length ≤ 80 := by have := List.length_eraseIdx_le L ka; omega
    have HWA := Lib.hid hwa
    have HWB := Lib.hid hwb
    have HT := Lib.hid ht
    clear hwa hwb hcl7 hV7 hr8 hr9 hfb4 hfba hbxa xa hxv hrT hLM hL4 hLa h4n h4c h4s h4d hcall hrTa hc4 hpar ht
    subst e7
    go_upto_region 23 with (fail)
    rw [HWA.out]
    go_upto_region 27 with (fail)
    rw [HWB.out]
    clear m0 m1 m2 m3 m4 m5 m6 u0 u1 u2 u3 u4 HWA HWB
    obtain ⟨C1, hC1, hN1, hR1⟩ := cutFullR (P := Try.prog) elTr 27 rfl (fun W => rfl) (some ⟨b7, o7, none⟩) T.length c5 ka (by omega) hc5 hA5
    obtain ⟨C2, hC2, hR2⟩ := cutFromR (P := Try.prog) elTr 27 rfl (fun W => rfl) (some ⟨b7, o7, none⟩) T.length c5 (ka + 1) (by omega) hc5
    have hC2' : ∀ (kl : IntKind) (W' : World), (Instr.slice 27 (.slice (some ⟨b7, o7, none⟩) T.length c5) (some (.int kl ((ka : Int) + 1))) none none).run Try.prog W' = .ok (.slice C2 (T.length - (ka + 1)) (c5 - (ka + 1))) W' := fun kl W' => hC2 kl W'
    have hw3 : IntKind.i64.wrap ((ka : Int) + 1) = (ka : Int) + 1 := IntWalk.i64_in _ ⟨by omega, by omega⟩
    have hrA := (hR1 _ _ _ hrT4).keep (w' := wb.drew) (Nat.le_refl _) fun _ _ _ => rfl
    have hrB := (hR2 _ _ _ hrT4).keep (w' := wb.drew) (Nat.le_refl _) fun _ _ _ => rfl
    have hm1 : ka + (T.length - (ka + 1)) ≤ maxLen := by unfold maxLen; omega
    have hb1 : (ka + (T.length - (ka + 1))) * 88 ≤ 140737488355328 := by omega
    have hB4 : w.heap.size ≤ wb.drew.heap.size := hLb.net.bel.size
    obtain ⟨T5, hT5⟩ : ∃ T5, T.take ka ++ T.drop (ka + 1) = T5 := ⟨_, rfl⟩
    have hLT5 : L.eraseIdx ka = T5.map parOf := by rw [← hT5, HLT0.out]; exact par_erase T ka
    have hsm5 : Small (L.eraseIdx ka) := hsm.erase ka
    have hT5l : T5.length ≤ 80 := by rw [← hT5, List.length_append, List.length_take, List.length_drop]; omega
    have HT5 := Lib.hid hT5
    clear hC2 hT5 hrT4 
    obtain ⟨v6, w6, hrun, hk6, _, hb6⟩ := run_app_keep (E := elTr) (P := Try.prog) (B := w.heap.size) 27 27 i0 _ 88 Try.underlying27 hi0 hz0 hz1 hz2 rfl (by decide) C1 ka hrA hN1 C2 (T.length - (ka + 1)) (c5 - (ka + 1)) hrB hm1 hb1 hB4
    rw [HT5.out] at hk6
    obtain ⟨A6, c6, e6, hc6, hA6, _⟩ := hk6.rd (by omega)
    subst e6
    have hb46 : Below wb.heap.size wb w6 := stepBelow (Below.refl wb.heap.size wb).drew hb6
    have hL6 := hLb.put (Chg.ofBelow hb46) hk6
    have HRUN := Lib.hid hrun
    clear hrun hk6 hrA hrB hb6 hb46 hLb hi0 hz0 hz1 hz2
    go_wp2_with fail
    go_region_law (refine stepRun (by rfl) _ _ 27 (by rfl) _ _ _ (by go_simp) (by go_simp) HRUN.out ?_)
    all_goals
      clear hC1 hC2' hR1 hR2
      have hlen := Len_calls _ _ _ _ _ _ hL6.net.net (by decide)
      have hTL : (L.eraseIdx ka).length = T5.length := by rw [hLT5, List.length_map]
      rw [hTL] at hlen
      have HLINE := Lib.hid hL6
      have HLT := Lib.hid hLT5
      clear hTL hLT5 
      go_wp2_with fail
      refine hlen.mono ?_
      rintro e wE ⟨rfl, rfl⟩
      clear hlen
      go_wp2_with fail
      go_roundg (n - (k + 1))
      case measure => omega
      case rel => exact ⟨k + 1, _, _, _, _, _, by omega, by omega, rfl, by go_num, HLINE.out, hsm5, by rw [List.length_eraseIdx_of_lt (by omega)]; omega, HLT.out⟩
  · have hpar : L[ka]? = some (tf, tt, tys, true) := by rw [HLT0.out, List.getElem?_map, ht]; rfl
    have hcall := Deliver_calls wM S w.heap.size 4 v L hLM.net.net (by decide) hsm (by omega) ka _ hpar
    go_wp2_with fail
    refine hcall.mono ?_
    rintro e w4 ⟨A4, n4, c4, S9, v9, rfl, hfb4, h4n, h4c, h4s, h4d⟩
    obtain rfl : n4 = tys.length := hfb4.1.symm
    obtain ⟨⟨S4, v4, hL4⟩, hc4⟩ := hLM.next ⟨S9, v9, h4n, h4c, h4s⟩
    obtain ⟨wa, hwa⟩ : ∃ wa, w4.alloc (.cells #[.int .i64 tf, .int .i64 tt, .slice A4 tys.length c4, .bool true] TP) = wa := ⟨_, rfl⟩
    obtain ⟨ka1, xa, _⟩ := boxT _ _ _ _ _ _ _ hwa
    have hLa := hL4.below ka1
    have hrTa := (hrT.chg hc4 fun q _ hq hn => hn hq).below ka1
    have hbxa := (hbox.chg hc4 (fun hn => hn hxK)).below ka1
    have hfba := hfb4.below ka1
    obtain ⟨b7, o7, vs7, e7, _, _, hV7, hcl7⟩ := hrTa.at_ ka _ ht
    obtain ⟨A8, n8, c8, B8, m8, d8, rfl, _, _, _, _, _, _, hr8, hr9⟩ := tr_open hV7
    have m0 : wa.cell? ⟨b7, o7 + ka * 7, none⟩ = some (.int .i64 ta) := hcl7 0 _ rfl
    have m1 : wa.cell? ⟨b7, o7 + ka * 7 + 1, none⟩ = some (.int .i64 tf) := hcl7 1 _ rfl
    have m2 : wa.cell? ⟨b7, o7 + ka * 7 + 2, none⟩ = some (.int .i64 tt) := hcl7 2 _ rfl
    have m3 : wa.cell? ⟨b7, o7 + ka * 7 + 3, none⟩ = some (.int .i64 tp) := hcl7 3 _ rfl
    have m4 : wa.cell? ⟨b7, o7 + ka * 7 + 4, none⟩ = some (.slice A8 n8 c8) := hcl7 4 _ rfl
    have m5 : wa.cell? ⟨b7, o7 + ka * 7 + 5, none⟩ = some (.slice B8 m8 d8) := hcl7 5 _ rfl
    have m6 : wa.cell? ⟨b7, o7 + ka * 7 + 6, none⟩ = some (.bool true) := hcl7 6 _ rfl
    obtain ⟨wb, hwb⟩ : ∃ wb, wa.alloc (.cells #[.int .i64 ta, .int .i64 tf, .int .i64 tt, .int .i64 tp, .slice A8 n8 c8, .slice B8 m8 d8, .bool true] 33) = wb := ⟨_, rfl⟩
    have hbb : Below wa.heap.size wa wb := by rw [← hwb]; exact allocBelow' _ _
    have hxv : BoxV wb wa.heap.size ta tf tt tp (.slice A8 n8 c8) (.slice B8 m8 d8) true := by rw [← hwb]; exact BoxV.made _ _ _ _ _ _ _ _
    have hLb := hLa.below hbb
    have hrT4 := hrTa.below hbb
    obtain ⟨z0, z1, z2, z3, z4, z5, z6⟩ := hxv.cells
    have hwas : wa.heap.size = w4.heap.size + 1 := by rw [← hwa]; simp
    rw [hwas] at z0 z1 z2 z3 z4 z5 z6
    clear hwas
    obtain ⟨x0, x1, x2, x3, _⟩ := (xa.below hbb).cells
    obtain ⟨y0, y1, y2, y3, y4⟩ := (hbxa.below hbb).cells
    obtain ⟨u0, u1, u2, u3, u4⟩ := hbxa.cells
    have s4 := conv_string (hfba.below hbb).rd.1 c4
    have s8 := conv_string (hr8.below hbb) c8
    have hL4l : (L.eraseIdx ka).length ≤ 80 := by have := List.length_eraseIdx_le L ka; omega
    have HWA := Lib.hid hwa
    have HWB := Lib.hid hwb
    have HT := Lib.hid ht
    clear hwa hwb hcl7 hV7 hr8 hr9 hfb4 hfba hbxa xa hxv hrT hLM hL4 hLa h4n h4c h4s h4d hcall hrTa hc4 hpar ht
    subst e7
    go_upto_region 23 with (fail)
    rw [HWA.out]
    go_upto_region 27 with (fail)
    rw [HWB.out]
    clear m0 m1 m2 m3 m4 m5 m6 u0 u1 u2 u3 u4 HWA HWB
    obtain ⟨C1, hC1, hN1, hR1⟩ := cutFullR (P := Try.prog) elTr 27 rfl (fun W => rfl) (some ⟨b7, o7, none⟩) T.length c5 ka (by omega) hc5 hA5
    obtain ⟨C2, hC2, hR2⟩ := cutFromR (P := Try.prog) elTr 27 rfl (fun W => rfl) (some ⟨b7, o7, none⟩) T.length c5 (ka + 1) (by omega) hc5
    have hC2' : ∀ (kl : IntKind) (W' : World), (Instr.slice 27 (.slice (some ⟨b7, o7, none⟩) T.length c5) (some (.int kl ((ka : Int) + 1))) none none).run Try.prog W' = .ok (.slice C2 (T.length - (ka + 1)) (c5 - (ka + 1))) W' := fun kl W' => hC2 kl W'
    have hw3 : IntKind.i64.wrap ((ka : Int) + 1) = (ka : Int) + 1 := IntWalk.i64_in _ ⟨by omega, by omega⟩
    have hrA := (hR1 _ _ _ hrT4).keep (w' := wb.drew) (Nat.le_refl _) fun _ _ _ => rfl
    have hrB := (hR2 _ _ _ hrT4).keep (w' := wb.drew) (Nat.le_refl _) fun _ _ _ => rfl
    have hm1 : ka + (T.length - (ka + 1)) ≤ maxLen := by unfold maxLen; omega
    have hb1 : (ka + (T.length - (ka + 1))) * 88 ≤ 140737488355328 := by omega
    have hB4 : w.heap.size ≤ wb.drew.heap.size := hLb.net.bel.size
    obtain ⟨T5, hT5⟩ : ∃ T5, T.take ka ++ T.drop (ka + 1) = T5 := ⟨_, rfl⟩
    have hLT5 : L.eraseIdx ka = T5.map parOf := by rw [← hT5, HLT0.out]; exact par_erase T ka
    have hsm5 : Small (L.eraseIdx ka) := hsm.erase ka
    have hT5l : T5.length ≤ 80 := by rw [← hT5, List.length_append, List.length_take, List.length_drop]; omega
    have HT5 := Lib.hid hT5
    clear hC2 hT5 hrT4 
    obtain ⟨v6, w6, hrun, hk6, _, hb6⟩ := run_app_keep (E := elTr) (P := Try.prog) (B := w.heap.size) 27 27 i0 _ 88 Try.underlying27 hi0 hz0 hz1 hz2 rfl (by decide) C1 ka hrA hN1 C2 (T.length - (ka + 1)) (c5 - (ka + 1)) hrB hm1 hb1 hB4
    rw [HT5.out] at hk6
    obtain ⟨A6, c6, e6, hc6, hA6, _⟩ := hk6.rd (by omega)
    subst e6
    have hb46 : Below wb.heap.size wb w6 := stepBelow (Below.refl wb.heap.size wb).drew hb6
    have hL6 := hLb.put (Chg.ofBelow hb46) hk6
    have HRUN := Lib.hid hrun
    clear hrun hk6 hrA hrB hb6 hb46 hLb hi0 hz0 hz1 hz2
    go_wp2_with fail
    go_region_law (refine stepRun (by rfl) _ _ 27 (by rfl) _ _ _ (by go_simp) (by go_simp) HRUN.out ?_)
    all_goals
      clear hC1 hC2' hR1 hR2
      have hlen := Len_calls _ _ _ _ _ _ hL6.net.net (by decide)
      have hTL : (L.eraseIdx ka).length = T5.length := by rw [hLT5, List.length_map]
      rw [hTL] at hlen
      have HLINE := Lib.hid hL6
      have HLT := Lib.hid hLT5
      clear hTL hLT5 
      go_wp2_with fail
      refine hlen.mono ?_
      rintro e wE ⟨rfl, rfl⟩
      clear hlen
      go_wp2_with fail
      go_roundg (n - (k + 1))
      case measure => omega
      case rel => exact ⟨k + 1, _, _, _, _, _, by omega, by omega, rfl, by go_num, HLINE.out, hsm5, by rw [List.length_eraseIdx_of_lt (by omega)]; omega, HLT.out⟩
end Go.Proofs.Ytmkmbnfmmibifaa
