/-
  NetTrue's round: the cases 26, 27, 28.
-/
import Derived.Test.YtmkmbnfmmibifaaNetCutA
namespace Go.Proofs.Ytmkmbnfmmibifaa
open Go.RowKit

set_option maxRecDepth 100000 in
set_option maxHeartbeats 16000000 in
theorem trueLeaf26 : cutTrue.1 26 := by
  intro w n c os hc hnm i0 hi0 hz0 hz1 hz2 qQ w1 qK3 qa4 gk u2 u7 u8 u9 u10 u11 u12 u13 u20 u21 u22 u23 u24 u25 u26 u27 u28 u29 u30 u31 u32 u33 u34 u35 u36 u37 u38 u39 u40 u41 u42 u43 u44 u45 u46 u47 u48 u49 u50 u51 u52 u53 u54 u55 u56 u57 u58 u59 u60 u61 u62 u63 u64 u65 u66 u67 u68 u69 u70 u71 u72 u73 u74 u75 u76 u77 u78 u79 u80 u81 u82 u83 u84 u85 u86 u87 u88 u89 u90 u91 u92 u93 u94 u95 u96 u97 u98 u99 u100 u101 u102 u103 u104 u105 u106 u107 u108 u109 u110 u111 u112 u113 u114 u115 u116 u117 u118 u119 u120 u121 u122 u123 u124 u125 u126 u127 u128 u129 u130 u131 u132 u133 u134 u135 u136 u137 u138 u139 u140 u141 u142 u143 u144 u145 u146 u147 u148 u149 u150 u151 u152 u153 u154 u155 u156 u157 u158 u159 u160 u161 u162 u163 u164 u165 u166 u167 u168 u169 u170 u171 u172 u173 u174 u175 u176 u177 u178 u179 u180 u181 u182 u183 u184 u185 u186 u187 u188 u189 u190 u191 u192 u193 u194 u195 u196 u197 u198 u199 u200 u201 u202 u203 u204 u205 u206 u207 u208 u209 u210 u211 u212 u213 u214 u215 u216 u217 u218 u219 u220 u221 u222 u223 u224 u225 u226 u227 u228 u229 u230 u231 u232 u233 u234 qJ qK2 qa3 k K S v L T hkn hk80 hgk hsm hLk wq hlt hlt80 wh fr tn pos xs b off hbw qleft Ab nb cb hncb hi1 hi2 hi3 hi4 hr qa2 hi80 f3 hf3 t3 ht3 qK1 qa1 qK0 qa0 wM hbox hrM K2 hxK hbel hT80 A5 c5 hc5 hA5 hrT hLM q0 q1 q2 q3 q4 HWM hLm hTl1 hTl2 HLT0 hci
  obtain ⟨hwx, hpx⟩ := caseOf_wh (a := 2) (c := 6) hci (by decide)
  clear hci
  have hw6 : wh = 6 := whOf_eq hwx (by decide)
  have hw0 : ¬ wh = 0 := by omega
  have hw1 : ¬ wh = 1 := by omega
  have hw2 : ¬ wh = 2 := by omega
  have hw3 : ¬ wh = 3 := by omega
  have hw4 : ¬ wh = 4 := by omega
  have hw5 : ¬ wh = 5 := by omega
  obtain ⟨hpg, hpb⟩ := posOf_there hpx
  clear hwx hpx
  obtain ⟨ka, rfl, hka, t, ht⟩ : ∃ ka : Nat, pos = (ka : Int) ∧ ka < T.length ∧ ∃ t, T[ka]? = some t := ⟨pos.toNat, by omega, by omega, _, List.getElem?_eq_getElem (by omega)⟩
  clear hpg hpb
  have hka2 : (ka : Int) < (T.length : Int) := by omega
  have e0 : (wh == 0) = false := by rw [beq_eq_false_iff_ne]; omega
  have e1 : (wh == 1) = false := by rw [beq_eq_false_iff_ne]; omega
  have e2 : (wh == 2) = false := by rw [beq_eq_false_iff_ne]; omega
  have e3 : (wh == 3) = false := by rw [beq_eq_false_iff_ne]; omega
  have e4 : (wh == 4) = false := by rw [beq_eq_false_iff_ne]; omega
  have e5 : (wh == 5) = false := by rw [beq_eq_false_iff_ne]; omega
  have e6 : (wh == 6) = true := by rw [beq_iff_eq]; omega
  clear hw0 hw1 hw2 hw3 hw4 hw5 hw6
  have hcall := Drop_calls wM S w.heap.size 4 v L hLM.net.net (by decide) (by omega) ka (by omega)
  go_wp2_with fail
  refine hcall.mono ?_
  rintro e w4 ⟨rfl, hr4⟩
  obtain ⟨⟨S4, v4, hL4⟩, hc4⟩ := hLM.next hr4
  obtain ⟨y0, y1, y2, y3, y4⟩ := (hbox.chg hc4 (fun hn => hn hxK)).cells
  have hrT4 := hrT.chg hc4 fun q _ hq hn => hn hq
  clear hrT hr4 hcall hc4 hLM
  obtain ⟨C1, hC1, hN1, hR1⟩ := cutFullR (P := Try.prog) elTr 27 rfl (fun W => rfl) A5 T.length c5 ka (by omega) hc5 hA5
  obtain ⟨C2, hC2, hR2⟩ := cutFromR (P := Try.prog) elTr 27 rfl (fun W => rfl) A5 T.length c5 (ka + 1) (by omega) hc5
  have hC2' : ∀ (kl : IntKind) (W' : World), (Instr.slice 27 (.slice A5 T.length c5) (some (.int kl ((ka : Int) + 1))) none none).run Try.prog W' = .ok (.slice C2 (T.length - (ka + 1)) (c5 - (ka + 1))) W' := fun kl W' => hC2 kl W'
  have hw3 : IntKind.i64.wrap ((ka : Int) + 1) = (ka : Int) + 1 := IntWalk.i64_in _ ⟨by omega, by omega⟩
  have hrA := (hR1 _ _ _ hrT4).keep (w' := w4.drew) (Nat.le_refl _) fun _ _ _ => rfl
  have hrB := (hR2 _ _ _ hrT4).keep (w' := w4.drew) (Nat.le_refl _) fun _ _ _ => rfl
  have hm1 : ka + (T.length - (ka + 1)) ≤ maxLen := by unfold maxLen; omega
  have hb1 : (ka + (T.length - (ka + 1))) * 88 ≤ 140737488355328 := by omega
  have hB4 : w.heap.size ≤ w4.drew.heap.size := hL4.net.bel.size
  obtain ⟨T5, hT5⟩ : ∃ T5, T.take ka ++ T.drop (ka + 1) = T5 := ⟨_, rfl⟩
  have hLT5 : L.eraseIdx ka = T5.map parOf := by rw [← hT5, HLT0.out]; exact par_erase T ka
  have hsm5 : Small (L.eraseIdx ka) := hsm.erase ka
  have hT5l : T5.length ≤ 80 := by rw [← hT5, List.length_append, List.length_take, List.length_drop]; omega
  have HT5 := Lib.hid hT5
  clear hC2 hT5 hrT4 
  obtain ⟨v6, w6, hrun, hk6, _, hb6⟩ := run_app_keep (E := elTr) (P := Try.prog) (B := w.heap.size) 27 27 i0 _ 88 Try.underlying27 hi0 hz0 hz1 hz2 rfl (by decide) C1 ka hrA hN1 C2 (T.length - (ka + 1)) (c5 - (ka + 1)) hrB hm1 hb1 hB4
  rw [HT5.out] at hk6
  obtain ⟨A6, c6, e6, hc6, hA6, _⟩ := hk6.rd (by omega)
  subst e6
  have hb46 : Below w4.heap.size w4 w6 := stepBelow (Below.refl w4.heap.size w4).drew hb6
  have hL6 := hL4.put (Chg.ofBelow hb46) hk6
  have HRUN := Lib.hid hrun
  clear hrun hk6 hrA hrB hb6 hb46 hL4 hi0 hz0 hz1 hz2
  go_wp2_with fail
  go_region_law (refine stepRun (by rfl) _ _ 27 (by rfl) _ _ _ (by go_simp) (by go_simp) HRUN.out ?_)
  all_goals
    clear hC1 hC2' hR1 hR2
    have hlen := Len_calls _ _ _ _ _ _ hL6.net.net (by decide)
    have hTL : (L.eraseIdx ka).length = T5.length := by rw [hLT5, List.length_map]
    rw [hTL] at hlen
    have HLINE := Lib.hid hL6
    have HLT := Lib.hid hLT5
    clear hTL hLT5 
    go_wp2_with fail
    refine hlen.mono ?_
    rintro e wE ⟨rfl, rfl⟩
    clear hlen
    go_wp2_with fail
    go_roundg (n - (k + 1))
    case measure => omega
    case rel => exact ⟨k + 1, _, _, _, _, _, by omega, by omega, rfl, by go_num, HLINE.out, hsm5, by rw [List.length_eraseIdx_of_lt (by omega)]; omega, HLT.out⟩
set_option maxRecDepth 100000 in
set_option maxHeartbeats 16000000 in
theorem trueLeaf27 : cutTrue.1 27 := by
  intro w n c os hc hnm i0 hi0 hz0 hz1 hz2 qQ w1 qK3 qa4 gk u2 u7 u8 u9 u10 u11 u12 u13 u20 u21 u22 u23 u24 u25 u26 u27 u28 u29 u30 u31 u32 u33 u34 u35 u36 u37 u38 u39 u40 u41 u42 u43 u44 u45 u46 u47 u48 u49 u50 u51 u52 u53 u54 u55 u56 u57 u58 u59 u60 u61 u62 u63 u64 u65 u66 u67 u68 u69 u70 u71 u72 u73 u74 u75 u76 u77 u78 u79 u80 u81 u82 u83 u84 u85 u86 u87 u88 u89 u90 u91 u92 u93 u94 u95 u96 u97 u98 u99 u100 u101 u102 u103 u104 u105 u106 u107 u108 u109 u110 u111 u112 u113 u114 u115 u116 u117 u118 u119 u120 u121 u122 u123 u124 u125 u126 u127 u128 u129 u130 u131 u132 u133 u134 u135 u136 u137 u138 u139 u140 u141 u142 u143 u144 u145 u146 u147 u148 u149 u150 u151 u152 u153 u154 u155 u156 u157 u158 u159 u160 u161 u162 u163 u164 u165 u166 u167 u168 u169 u170 u171 u172 u173 u174 u175 u176 u177 u178 u179 u180 u181 u182 u183 u184 u185 u186 u187 u188 u189 u190 u191 u192 u193 u194 u195 u196 u197 u198 u199 u200 u201 u202 u203 u204 u205 u206 u207 u208 u209 u210 u211 u212 u213 u214 u215 u216 u217 u218 u219 u220 u221 u222 u223 u224 u225 u226 u227 u228 u229 u230 u231 u232 u233 u234 qJ qK2 qa3 k K S v L T hkn hk80 hgk hsm hLk wq hlt hlt80 wh fr tn pos xs b off hbw qleft Ab nb cb hncb hi1 hi2 hi3 hi4 hr qa2 hi80 f3 hf3 t3 ht3 qK1 qa1 qK0 qa0 wM hbox hrM K2 hxK hbel hT80 A5 c5 hc5 hA5 hrT hLM q0 q1 q2 q3 q4 HWM hLm hTl1 hTl2 HLT0 hci
  obtain ⟨hwx, hpx⟩ := caseOf_wh (a := 2) (c := 7) hci (by decide)
  clear hci
  have hw7 : wh = 7 := whOf_eq hwx (by decide)
  have hw0 : ¬ wh = 0 := by omega
  have hw1 : ¬ wh = 1 := by omega
  have hw2 : ¬ wh = 2 := by omega
  have hw3 : ¬ wh = 3 := by omega
  have hw4 : ¬ wh = 4 := by omega
  have hw5 : ¬ wh = 5 := by omega
  have hw6 : ¬ wh = 6 := by omega
  obtain ⟨hpg, hpb⟩ := posOf_there hpx
  clear hwx hpx
  obtain ⟨ka, rfl, hka, t, ht⟩ : ∃ ka : Nat, pos = (ka : Int) ∧ ka < T.length ∧ ∃ t, T[ka]? = some t := ⟨pos.toNat, by omega, by omega, _, List.getElem?_eq_getElem (by omega)⟩
  clear hpg hpb
  have hka2 : (ka : Int) < (T.length : Int) := by omega
  have e0 : (wh == 0) = false := by rw [beq_eq_false_iff_ne]; omega
  have e1 : (wh == 1) = false := by rw [beq_eq_false_iff_ne]; omega
  have e2 : (wh == 2) = false := by rw [beq_eq_false_iff_ne]; omega
  have e3 : (wh == 3) = false := by rw [beq_eq_false_iff_ne]; omega
  have e4 : (wh == 4) = false := by rw [beq_eq_false_iff_ne]; omega
  have e5 : (wh == 5) = false := by rw [beq_eq_false_iff_ne]; omega
  have e6 : (wh == 6) = false := by rw [beq_eq_false_iff_ne]; omega
  have e7 : (wh == 7) = true := by rw [beq_iff_eq]; omega
  clear hw0 hw1 hw2 hw3 hw4 hw5 hw6 hw7
  obtain ⟨⟨ta, tf, tt, tp, tys⟩, tzs, tw⟩ := t
  have hpar : L[ka]? = some (parOf ((ta, tf, tt, tp, tys), tzs, tw)) := by rw [HLT0.out, List.getElem?_map, ht]; rfl
  have hcall := Double_calls wM S w.heap.size 4 v L hLM.net.net (by decide) hsm ka _ hpar 0 _ (.inl ⟨by omega, rfl, rfl⟩)
  have hsmp := hsm.mem hpar
  go_wp2_with fail
  refine hcall.mono ?_
  rintro e w4 ⟨rfl, hr4⟩
  obtain ⟨⟨S4, v4, hL4⟩, hc4⟩ := hLM.next hr4
  obtain ⟨y0, y1, y2, y3, y4⟩ := (hbox.chg hc4 (fun hn => hn hxK)).cells
  have hrT4 := hrT.chg hc4 fun q _ hq hn => hn hq
  obtain ⟨b7, o7, vs7, e7, _, _, hV7, hcl7⟩ := hrT4.at_ ka _ ht
  have hV7' := hV7
  obtain ⟨A8, n8, c8, B8, m8, d8, rfl, _, _, _, _, _, _, hr8, hr9⟩ := tr_open hV7'
  have m0 : w4.cell? ⟨b7, o7 + ka * 7, none⟩ = some (.int .i64 ta) := hcl7 0 _ rfl
  have m1 : w4.cell? ⟨b7, o7 + ka * 7 + 1, none⟩ = some (.int .i64 tf) := hcl7 1 _ rfl
  have m2 : w4.cell? ⟨b7, o7 + ka * 7 + 2, none⟩ = some (.int .i64 tt) := hcl7 2 _ rfl
  have m3 : w4.cell? ⟨b7, o7 + ka * 7 + 3, none⟩ = some (.int .i64 tp) := hcl7 3 _ rfl
  have m4 : w4.cell? ⟨b7, o7 + ka * 7 + 4, none⟩ = some (.slice A8 n8 c8) := hcl7 4 _ rfl
  have m5 : w4.cell? ⟨b7, o7 + ka * 7 + 5, none⟩ = some (.slice B8 m8 d8) := hcl7 5 _ rfl
  have m6 : w4.cell? ⟨b7, o7 + ka * 7 + 6, none⟩ = some (.bool tw) := hcl7 6 _ rfl
  obtain ⟨wX, hwX⟩ : ∃ wX, (w4.alloc (.cells #[.int .i64 ta, .int .i64 tf, .int .i64 tt, .int .i64 tp, .slice A8 n8 c8, .slice B8 m8 d8, .bool tw] 33)).drew = wX := ⟨_, rfl⟩
  have hbX : Below w4.heap.size w4 wX := by rw [← hwX]; exact (allocBelow' w4 _).drew
  have hxs : wX.heap.size = w4.heap.size + 1 := by rw [← hwX]; show (w4.alloc _).heap.size = _; simp
  have hnc : ∀ j u, (Array.toList #[.int .i64 ta, .int .i64 tf, .int .i64 tt, .int .i64 tp, .slice A8 n8 c8, .slice B8 m8 d8, .bool tw])[j]? = some u → wX.cell? ((⟨w4.heap.size, 0, none⟩ : Addr).add j) = some u := by rw [← hwX]; exact newCells w4 #[.int .i64 ta, .int .i64 tf, .int .i64 tt, .int .i64 tp, .slice A8 n8 c8, .slice B8 m8 d8, .bool tw] 33 (0, 0)
  have hLX := hL4.made hbX
  have hVX : elTr.V wX (fun q => K2 q ∨ New w4 wX q) (Array.toList #[.int .i64 ta, .int .i64 tf, .int .i64 tt, .int .i64 tp, .slice A8 n8 c8, .slice B8 m8 d8, .bool tw]) ((ta, tf, tt, tp, tys), tzs, tw) := elTr.mono (elTr.below hV7 hbX) fun q hq _ => .inl hq
  have hYX : Rd elTr wX (fun q => K2 q ∨ New w4 wX q) (some ⟨w4.heap.size, 0, none⟩) 1 [((ta, tf, tt, tp, tys), tzs, tw)] := ⟨rfl, by decide, fun _ => ⟨w4.heap.size, 0, rfl, .inr ⟨Nat.le_refl _, by omega⟩, by omega, fun j y hy => by
    have hj : j = 0 := by have := (List.getElem?_eq_some_iff.1 hy).1; simp at this; exact this
    subst hj
    injection hy with hy
    subst hy
    exact ⟨_, hVX, fun r u hu => by have := hnc r u hu; rw [addPlain] at this; simpa using this⟩⟩⟩
  obtain ⟨C1, hC1, hN1, hR1⟩ := cutFullR (P := Try.prog) elTr 27 rfl (fun W => rfl) A5 T.length c5 T.length (Nat.le_refl _) hc5 hA5
  have hrA : Rd elTr wX (fun q => K2 q ∨ New w4 wX q) C1 T.length T := by have := ((hR1 _ _ _ hrT4).below hbX).mono (ok' := fun q => K2 q ∨ New w4 wX q) fun q hq _ => .inl hq; rwa [List.take_length] at this
  have hm1 : T.length + 1 ≤ maxLen := by unfold maxLen; omega
  have hb1 : (T.length + 1) * 88 ≤ 140737488355328 := by omega
  have hB4 : w.heap.size ≤ wX.heap.size := by have := hL4.net.bel.size; omega
  obtain ⟨T5, hT5⟩ : ∃ T5, T ++ [((ta, tf, tt, tp, tys), tzs, tw)] = T5 := ⟨_, rfl⟩
  have hLT5 : L ++ [parOf ((ta, tf, tt, tp, tys), tzs, tw)] = T5.map parOf := by rw [← hT5, List.map_append, HLT0.out]; rfl
  have hsm5 : Small (L ++ [parOf ((ta, tf, tt, tp, tys), tzs, tw)]) := hsm.snoc hsmp
  have hT5l : T5.length ≤ 81 := by rw [← hT5, List.length_append, List.length_singleton]; omega
  have HT5 := Lib.hid hT5
  have HWX := Lib.hid hwX
  have HT := Lib.hid ht
  clear hT5 hwX ht hpar hcall hsmp hr4 hc4 hrT hrT4 hV7 hcl7 hr8 hr9 hVX hnc hR1 hL4 hLM hxs hbX
  subst e7
  obtain ⟨v6, w6, hrun, hk6, _, hb6⟩ := run_app_keep (E := elTr) (P := Try.prog) (B := w.heap.size) 27 27 i0 _ 88 Try.underlying27 hi0 hz0 hz1 hz2 rfl (by decide) C1 T.length hrA hN1 (some ⟨w4.heap.size, 0, none⟩) 1 1 hYX hm1 hb1 hB4
  rw [HT5.out] at hk6
  obtain ⟨A6, c6, e6, hc6, hA6, _⟩ := hk6.rd (by omega)
  subst e6
  have hL6 := hLX.put (Chg.ofBelow hb6) hk6
  rw [← HWX.out] at hrun
  have HRUN := Lib.hid hrun
  clear hrun hk6 hrA hYX hb6 hLX hi0 hz0 hz1 hz2
  go_wp2_with fail
  go_region_law (refine stepRun (by rfl) _ _ 27 (by rfl) _ _ _ (by go_simp) (by go_simp) HRUN.out ?_)
  all_goals
    clear hC1
    have hlen := Len_calls _ _ _ _ _ _ hL6.net.net (by decide)
    have hTL : (L ++ [parOf ((ta, tf, tt, tp, tys), tzs, tw)]).length = T5.length := by rw [hLT5, List.length_map]
    rw [hTL] at hlen
    have HLINE := Lib.hid hL6
    have HLT := Lib.hid hLT5
    clear hTL hLT5 
    go_wp2_with fail
    refine hlen.mono ?_
    rintro e wE ⟨rfl, rfl⟩
    clear hlen
    go_wp2_with fail
    go_roundg (n - (k + 1))
    case measure => omega
    case rel => exact ⟨k + 1, _, _, _, _, _, by omega, by omega, rfl, by go_num, HLINE.out, hsm5, by rw [List.length_append, List.length_singleton]; omega, HLT.out⟩
set_option maxRecDepth 100000 in
set_option maxHeartbeats 16000000 in
theorem trueLeaf28 : cutTrue.1 28 := by
  intro w n c os hc hnm i0 hi0 hz0 hz1 hz2 qQ w1 qK3 qa4 gk u2 u7 u8 u9 u10 u11 u12 u13 u20 u21 u22 u23 u24 u25 u26 u27 u28 u29 u30 u31 u32 u33 u34 u35 u36 u37 u38 u39 u40 u41 u42 u43 u44 u45 u46 u47 u48 u49 u50 u51 u52 u53 u54 u55 u56 u57 u58 u59 u60 u61 u62 u63 u64 u65 u66 u67 u68 u69 u70 u71 u72 u73 u74 u75 u76 u77 u78 u79 u80 u81 u82 u83 u84 u85 u86 u87 u88 u89 u90 u91 u92 u93 u94 u95 u96 u97 u98 u99 u100 u101 u102 u103 u104 u105 u106 u107 u108 u109 u110 u111 u112 u113 u114 u115 u116 u117 u118 u119 u120 u121 u122 u123 u124 u125 u126 u127 u128 u129 u130 u131 u132 u133 u134 u135 u136 u137 u138 u139 u140 u141 u142 u143 u144 u145 u146 u147 u148 u149 u150 u151 u152 u153 u154 u155 u156 u157 u158 u159 u160 u161 u162 u163 u164 u165 u166 u167 u168 u169 u170 u171 u172 u173 u174 u175 u176 u177 u178 u179 u180 u181 u182 u183 u184 u185 u186 u187 u188 u189 u190 u191 u192 u193 u194 u195 u196 u197 u198 u199 u200 u201 u202 u203 u204 u205 u206 u207 u208 u209 u210 u211 u212 u213 u214 u215 u216 u217 u218 u219 u220 u221 u222 u223 u224 u225 u226 u227 u228 u229 u230 u231 u232 u233 u234 qJ qK2 qa3 k K S v L T hkn hk80 hgk hsm hLk wq hlt hlt80 wh fr tn pos xs b off hbw qleft Ab nb cb hncb hi1 hi2 hi3 hi4 hr qa2 hi80 f3 hf3 t3 ht3 qK1 qa1 qK0 qa0 wM hbox hrM K2 hxK hbel hT80 A5 c5 hc5 hA5 hrT hLM q0 q1 q2 q3 q4 HWM hLm hTl1 hTl2 HLT0 hci
  obtain ⟨hwx, hpx⟩ := caseOf_wh (a := 2) (c := 8) hci (by decide)
  clear hci
  have hw8 : wh = 8 := whOf_eq hwx (by decide)
  have hw0 : ¬ wh = 0 := by omega
  have hw1 : ¬ wh = 1 := by omega
  have hw2 : ¬ wh = 2 := by omega
  have hw3 : ¬ wh = 3 := by omega
  have hw4 : ¬ wh = 4 := by omega
  have hw5 : ¬ wh = 5 := by omega
  have hw6 : ¬ wh = 6 := by omega
  have hw7 : ¬ wh = 7 := by omega
  obtain ⟨hpg, hpb⟩ := posOf_there hpx
  clear hwx hpx
  obtain ⟨ka, rfl, hka, t, ht⟩ : ∃ ka : Nat, pos = (ka : Int) ∧ ka < T.length ∧ ∃ t, T[ka]? = some t := ⟨pos.toNat, by omega, by omega, _, List.getElem?_eq_getElem (by omega)⟩
  clear hpg hpb
  have hka2 : (ka : Int) < (T.length : Int) := by omega
  have e0 : (wh == 0) = false := by rw [beq_eq_false_iff_ne]; omega
  have e1 : (wh == 1) = false := by rw [beq_eq_false_iff_ne]; omega
  have e2 : (wh == 2) = false := by rw [beq_eq_false_iff_ne]; omega
  have e3 : (wh == 3) = false := by rw [beq_eq_false_iff_ne]; omega
  have e4 : (wh == 4) = false := by rw [beq_eq_false_iff_ne]; omega
  have e5 : (wh == 5) = false := by rw [beq_eq_false_iff_ne]; omega
  have e6 : (wh == 6) = false := by rw [beq_eq_false_iff_ne]; omega
  have e7 : (wh == 7) = false := by rw [beq_eq_false_iff_ne]; omega
  have e8 : (wh == 8) = true := by rw [beq_iff_eq]; omega
  clear hw0 hw1 hw2 hw3 hw4 hw5 hw6 hw7 hw8
  obtain ⟨⟨ta, tf, tt, tp, tys⟩, tzs, tw⟩ := t
  have hpar : L[ka]? = some (parOf ((ta, tf, tt, tp, tys), tzs, tw)) := by rw [HLT0.out, List.getElem?_map, ht]; rfl
  have hxl := hrM.len
  by_cases hnb : 70000 < nb
  · have hnb2 : ¬ (nb ≤ 70000) := by omega
    have hcall := Corrupt_calls wM S w.heap.size 4 v L hLM.net.net (by decide) ka _ hpar Ab nb cb xs _ hrM 3 _ (.inr ⟨by omega, rfl, rfl⟩)
    have HT := Lib.hid ht
    clear hrT hpar ht
    go_wp2_with fail
    refine hcall.mono ?_
    rintro e w4 ⟨rfl, hr4⟩
    obtain ⟨⟨S4, v4, hL4⟩, hc4⟩ := hLM.next hr4
    clear hLM hr4 hcall hc4
    have hlen := Len_calls _ _ _ _ _ _ hL4.net.net (by decide)
    have hTL : L.length = T.length := by rw [HLT0.out, List.length_map]
    rw [hTL] at hlen
    have HLINE := Lib.hid hL4
    have HLT := Lib.hid HLT0.out
    clear hTL 
    go_wp2_with fail
    refine hlen.mono ?_
    rintro e wE ⟨rfl, rfl⟩
    clear hlen
    go_wp2_with fail
    go_roundg (n - (k + 1))
    case measure => omega
    case rel => exact ⟨k + 1, _, _, _, _, _, by omega, by omega, rfl, by go_num, HLINE.out, hsm, by omega, HLT.out⟩
  · have hnb2 : nb ≤ 70000 := by omega
    have hnb3 : (nb : Int) ≤ 70000 := by omega
    have hcall := Corrupt_calls wM S w.heap.size 4 v L hLM.net.net (by decide) ka _ hpar Ab nb cb xs _ hrM 0 _ (.inl ⟨by omega, rfl, rfl⟩)
    go_wp2_with fail
    refine hcall.mono ?_
    rintro e w4 ⟨rfl, hr4⟩
    obtain ⟨⟨S4, v4, hL4⟩, hc4⟩ := hLM.next hr4
    obtain ⟨y0, y1, y2, y3, y4⟩ := (hbox.chg hc4 (fun hn => hn hxK)).cells
    have hbx4 := hbox.chg hc4 (fun hn => hn hxK)
    have hrT4 := hrT.chg hc4 fun q _ hq hn => hn hq
    have hrB4 := hrM.keep hc4.size fun q hq _ => hc4.block q (Nat.lt_of_lt_of_le hq hbel.size) fun hn => hn (hLM.old q hq)
    have hN1 : Own elTr 33 w4 K2 (.slice none 0 0) [] := Own.nil _ _ _ _
    have hm0 : ([] : List Tr).length + T.length ≤ maxLen := by simp only [List.length_nil]; unfold maxLen; omega
    have hb0 : (([] : List Tr).length + T.length) * 88 ≤ 140737488355328 := by simp only [List.length_nil]; omega
    have hsm5 : Small (L.set ka ((parOf ((ta, tf, tt, tp, tys), tzs, tw)).1, (parOf ((ta, tf, tt, tp, tys), tzs, tw)).2.1, xs, false)) := hsm.set ka (by simp only; omega)
    have hLT5 : L.set ka ((parOf ((ta, tf, tt, tp, tys), tzs, tw)).1, (parOf ((ta, tf, tt, tp, tys), tzs, tw)).2.1, xs, false) = (T.set ka ((ta, tf, tt, tp, tys), xs, false)).map parOf := by rw [HLT0.out]; exact par_set T ka _ _ _ _ ht
    have hL4o := hL4.net.bel.size
    have HT := Lib.hid ht
    clear hpar hcall hr4 hc4 hrT hLM ht
    go_upto_region 49 with
      (at_builtin; refine Own.lists (E := elTr) rfl _ _ 27 rfl i0 _ 88 Try.underlying27 hi0 hz0 hz1 hz2 rfl (by decide) (.slice none 0 0) rfl hN1 A5 T.length c5 rfl hrT4 (fun q _ hq => ⟨hq, by simp [Value.ownBlock]⟩) hm0 hb0 ?_; intro v3 w3 ho3 hg3 h53; rw [List.nil_append] at ho3; obtain ⟨g, cap, vs9, e9, _, hgl, hcap, hV9, hcx, hfr⟩ := ho3.at_ ka _ HT.out; subst e9)
    obtain ⟨A8, n8, c8, B8, m8, d8, rfl, _, _, _, _, _, _, hr8, hr9⟩ := tr_open hV9
    have hgw : g = w4.heap.size := by
      rcases h53 with h53 | h53
      · simp [Value.ownBlock] at h53
      · injection h53
    have hb43 : Below w4.heap.size w4 w3 := (Below.refl _ _).grown hg3 (Nat.le_refl _) (fun q hq => by simp [Value.ownBlock] at hq)
    obtain ⟨p0, p1, p2, p3, p4⟩ := (hbx4.below hb43).cells
    have f5 : w3.cell? ⟨g, ka * 7 + 5, none⟩ = some (.slice B8 m8 d8) := hcx 5 _ rfl
    have f6 : w3.cell? ⟨g, ka * 7 + 6, none⟩ = some (.bool tw) := hcx 6 _ rfl
    have z5 : w3.frozen? ⟨g, ka * 7 + 5, none⟩ = false := hfr _
    have z6 : w3.frozen? ⟨g, ka * 7 + 6, none⟩ = false := hfr _
    have hrB3 : RdB w3 (fun q => q < w.heap.size) Ab nb xs := hrB4.below hb43
    have hgq : w.heap.size ≤ g := by rw [hgw]; exact hL4.net.bel.size
    obtain ⟨w5, hw5⟩ : ∃ w5, (w3.setCell ⟨g, ka * 7 + 5, none⟩ (.slice Ab nb cb)).setCell ⟨g, ka * 7 + 6, none⟩ (.bool false) = w5 := ⟨_, rfl⟩
    have hb45 : Below w4.heap.size w4 w5 := by rw [← hw5]; exact (hb43.setCell (by show w4.heap.size ≤ g; omega) _).setCell (by show w4.heap.size ≤ g; omega) _
    have hs45 : w5.heap.size = w3.heap.size := by rw [← hw5]; simp only [World.size_setCell]
    have hwlt : w.heap.size ≤ w4.heap.size := hL4.net.bel.size
    have own1 : Own elTr 33 w3 (fun q => K2 q ∨ New w4 w5 q) (.slice (some ⟨g, 0, none⟩) T.length cap) T := ho3.mono fun q hq hk => hk.imp_right fun e => ⟨by omega, by omega⟩
    have own2 := own1.store ka 5 (.slice Ab nb cb) _ ((ta, tf, tt, tp, tys), xs, tw) HT.out (by decide) (fun vs hV => by
      obtain ⟨A0, n0, c0, B0, m0, d0, rfl, r1, r2, r3, r4, r5, r6, r7, r8⟩ := tr_open hV
      exact tr_mk r3 r4 r5 r6 r1 hncb r7 (hrB3.mono fun q hq _ => ⟨.inl (hL4.old q hq), by omega⟩))
    have hl1 : (T.set ka ((ta, tf, tt, tp, tys), xs, tw)).length = T.length := by simp
    have own2' : Own elTr 33 (w3.setCell ⟨g, ka * 7 + 5, none⟩ (.slice Ab nb cb)) (fun q => K2 q ∨ New w4 w5 q) (.slice (some ⟨g, 0, none⟩) (T.set ka ((ta, tf, tt, tp, tys), xs, tw)).length cap) (T.set ka ((ta, tf, tt, tp, tys), xs, tw)) := by rw [hl1]; exact own2
    have own3 := own2'.store ka 6 (.bool false) _ ((ta, tf, tt, tp, tys), xs, false) (by rw [List.getElem?_set_self (by omega)]) (by decide) (fun vs hV => by
      obtain ⟨A0, n0, c0, B0, m0, d0, rfl, r1, r2, r3, r4, r5, r6, r7, r8⟩ := tr_open hV
      exact tr_mk r3 r4 r5 r6 r1 r2 r7 r8)
    rw [hl1, List.set_set] at own3
    have own4 : Own elTr 33 w5 (fun q => K2 q ∨ New w4 w5 q) (.slice (some ⟨g, 0, none⟩) T.length cap) (T.set ka ((ta, tf, tt, tp, tys), xs, false)) := by have e : (w3.setCell ⟨g, ka * 7 + 5, none⟩ (.slice Ab nb cb)).setCell ⟨g, ka * elTr.k + 6, none⟩ (.bool false) = w5 := hw5; rw [e] at own3; exact own3
    have hl2 : (T.set ka ((ta, tf, tt, tp, tys), xs, false)).length = T.length := by simp
    obtain ⟨T6, hT6⟩ : ∃ T6, T.set ka ((ta, tf, tt, tp, tys), xs, false) = T6 := ⟨_, rfl⟩
    rw [hT6] at own4 hl2 hLT5
    have hT6b : T6.length ≤ T.length := by omega
    have hT6c : T.length ≤ T6.length := by omega
    have hL6 : Line w w5 (fun q => K2 q ∨ New w4 w5 q) S4 w.heap.size v4 _ (.slice (some ⟨g, 0, none⟩) T.length cap) T6 := hL4.put (Chg.ofBelow hb45) (.inl ⟨own4, fun q hq => by injection hq with hq; have hq2 : g = q := hq; omega⟩)
    have HW5 := Lib.hid hw5
    have HL2 := Lib.hid hl2
    clear ho3 hcx hV9 hr8 hr9 hrT4 hbx4 hN1 hm0 hb0 y0 y1 y2 y3 y4 hg3 h53 hgw hfr hrB3 hrB4 hL4 hw5 hs45 own1 own2 own2' own3 own4 hl1 hl2 hT6 hb43 hb45 hi0 hz0 hz1 hz2
    go_wp2_with fail
    go_region
    all_goals
      rw [← HL2.out] at hL6
      rw [HW5.out, ← HL2.out]
      have hL7 := hL6.below (Below.refl _ _).drew
      clear hL6
      have hlen := Len_calls _ _ _ _ _ _ hL7.net.net (by decide)
      have hTL : (L.set ka ((parOf ((ta, tf, tt, tp, tys), tzs, tw)).1, (parOf ((ta, tf, tt, tp, tys), tzs, tw)).2.1, xs, false)).length = T6.length := by rw [hLT5, List.length_map]
      rw [hTL] at hlen
      have HLINE := Lib.hid hL7
      have HLT := Lib.hid hLT5
      clear hTL hLT5 
      go_wp2_with fail
      refine hlen.mono ?_
      rintro e wE ⟨rfl, rfl⟩
      clear hlen
      go_wp2_with fail
      go_roundg (n - (k + 1))
      case measure => omega
      case rel => exact ⟨k + 1, _, _, _, _, _, by omega, by omega, rfl, by go_num, HLINE.out, hsm5, by rw [List.length_set]; omega, HLT.out⟩
end Go.Proofs.Ytmkmbnfmmibifaa
