/-
  NetTrue's round: the cases 10, 11, 12, 19, 13, 14, 15.
-/
import Derived.Test.YtmkmbnfmmibifaaNetCutA
namespace Go.Proofs.Ytmkmbnfmmibifaa
open Go.RowKit

set_option maxRecDepth 100000 in
set_option maxHeartbeats 16000000 in
theorem trueLeaf10 : cutTrue.1 10 := by
  intro w n c os hc hnm i0 hi0 hz0 hz1 hz2 qQ w1 qK3 qa4 gk u2 u7 u8 u9 u10 u11 u12 u13 u20 u21 u22 u23 u24 u25 u26 u27 u28 u29 u30 u31 u32 u33 u34 u35 u36 u37 u38 u39 u40 u41 u42 u43 u44 u45 u46 u47 u48 u49 u50 u51 u52 u53 u54 u55 u56 u57 u58 u59 u60 u61 u62 u63 u64 u65 u66 u67 u68 u69 u70 u71 u72 u73 u74 u75 u76 u77 u78 u79 u80 u81 u82 u83 u84 u85 u86 u87 u88 u89 u90 u91 u92 u93 u94 u95 u96 u97 u98 u99 u100 u101 u102 u103 u104 u105 u106 u107 u108 u109 u110 u111 u112 u113 u114 u115 u116 u117 u118 u119 u120 u121 u122 u123 u124 u125 u126 u127 u128 u129 u130 u131 u132 u133 u134 u135 u136 u137 u138 u139 u140 u141 u142 u143 u144 u145 u146 u147 u148 u149 u150 u151 u152 u153 u154 u155 u156 u157 u158 u159 u160 u161 u162 u163 u164 u165 u166 u167 u168 u169 u170 u171 u172 u173 u174 u175 u176 u177 u178 u179 u180 u181 u182 u183 u184 u185 u186 u187 u188 u189 u190 u191 u192 u193 u194 u195 u196 u197 u198 u199 u200 u201 u202 u203 u204 u205 u206 u207 u208 u209 u210 u211 u212 u213 u214 u215 u216 u217 u218 u219 u220 u221 u222 u223 u224 u225 u226 u227 u228 u229 u230 u231 u232 u233 u234 qJ qK2 qa3 k K S v L T hkn hk80 hgk hsm hLk wq hlt hlt80 wh fr tn pos xs b off hbw qleft Ab nb cb hncb hi1 hi2 hi3 hi4 hr qa2 hi80 f3 hf3 t3 ht3 qK1 qa1 qK0 qa0 wM hbox hrM K2 hxK hbel hT80 A5 c5 hc5 hA5 hrT hLM q0 q1 q2 q3 q4 HWM hLm hTl1 hTl2 HLT0 hci
  obtain ⟨hwx, hpx⟩ := caseOf_wh (a := 1) (c := 0) hci (by decide)
  clear hci
  have hw0 : wh = 0 := whOf_eq hwx (by decide)
  obtain ⟨hpg, hpb⟩ := posOf_big hpx
  clear hwx hpx
  have hpl : pos < 0 ∨ (L.length : Int) ≤ pos := .inr (by omega)
  have hpg2 : pos ≥ 0 := hpg
  have hpb2 : ¬ (pos < (T.length : Int)) := by omega
  have e0 : (wh == 0) = true := by rw [beq_iff_eq]; omega
  clear hw0
  have hxl := hrM.len
  by_cases hnb : 70000 < nb
  · have hnb2 : ¬ (nb ≤ 70000) := by omega
    have hres : sendRes 4 (f3 : Int) (t3 : Int) xs L = (3, L) := by unfold sendRes; rw [if_neg (by omega), if_pos (by omega)]
    have hsend := Send_calls wM.drew S w.heap.size 4 v L hLM.net.net.drew (by decide) f3 t3 (by unfold inI; omega) (by unfold inI; omega) Ab nb cb xs _ hrM.drew 3 _ hres
    clear hres
    go_wp2_with fail
    go_region_held3 (fun w' => w'.cell? ⟨wq.heap.size, 1, none⟩ = some (.int .i64 f3) ∧ w'.cell? ⟨wq.heap.size, 2, none⟩ = some (.int .i64 t3) ∧ w'.cell? ⟨wq.heap.size, 4, none⟩ = some (.slice Ab nb cb))
      (first | exact ⟨y1, y2, y4⟩ | exact ⟨q1, q2, q4⟩)
      (first
      | (go_at_call 7; (with_reducible refine hsend.mono ?_); rintro e w4 ⟨rfl, hr4⟩; have hr4' := hr4.from (Below.refl wM.heap.size wM).drew; obtain ⟨⟨S4, v4, hL4⟩, hc4⟩ := hLM.next hr4'; obtain ⟨y0, y1, y2, y3, y4⟩ := (hbox.chg hc4 (fun hn => hn hxK)).cells))
    all_goals
      have hL5 := hL4
      clear hrT hLM hr4 hr4' hsend hc4
      have hlen := Len_calls _ _ _ _ _ _ hL5.net.net (by decide)
      have hTL : L.length = T.length := by rw [HLT0.out, List.length_map]
      rw [hTL] at hlen
      have HLINE := Lib.hid hL5
      have HLT := Lib.hid HLT0.out
      clear hTL 
      go_wp2_with fail
      refine hlen.mono ?_
      rintro e wE ⟨rfl, rfl⟩
      clear hlen
      go_wp2_with fail
      go_roundg (n - (k + 1))
      case measure => omega
      case rel => exact ⟨k + 1, _, _, _, _, _, by omega, by omega, rfl, by go_num, HLINE.out, hsm, by omega, HLT.out⟩
  · have hnb2 : nb ≤ 70000 := by omega
    have hnb3 : (nb : Int) ≤ 70000 := by omega
    have hres : sendRes 4 (f3 : Int) (t3 : Int) xs L = (0, L ++ [((f3 : Int), (t3 : Int), xs, true)]) := by unfold sendRes; rw [if_neg (by omega), if_neg (by omega), if_neg (by omega)]
    have hsend := Send_calls wM.drew S w.heap.size 4 v L hLM.net.net.drew (by decide) f3 t3 (by unfold inI; omega) (by unfold inI; omega) Ab nb cb xs _ hrM.drew 0 _ hres
    clear hres
    go_wp2_with fail
    go_region_held3 (fun w' => w'.cell? ⟨wq.heap.size, 1, none⟩ = some (.int .i64 f3) ∧ w'.cell? ⟨wq.heap.size, 2, none⟩ = some (.int .i64 t3) ∧ w'.cell? ⟨wq.heap.size, 4, none⟩ = some (.slice Ab nb cb))
      (first | exact ⟨y1, y2, y4⟩ | exact ⟨q1, q2, q4⟩)
      (first
      | (go_at_call 7; (with_reducible refine hsend.mono ?_); rintro e w4 ⟨rfl, hr4⟩; have hr4' := hr4.from (Below.refl wM.heap.size wM).drew; obtain ⟨⟨S4, v4, hL4⟩, hc4⟩ := hLM.next hr4'; obtain ⟨y0, y1, y2, y3, y4⟩ := (hbox.chg hc4 (fun hn => hn hxK)).cells))
    all_goals
      have hrB4 := hrM.keep hc4.size fun q hq _ => hc4.block q (Nat.lt_of_lt_of_le hq hbel.size) fun hn => hn (hLM.old q hq)
      obtain ⟨wX, hwX⟩ : ∃ wX, w4.alloc (.cells #[.int .i64 wh, .int .i64 f3, .int .i64 t3, .int .i64 pos, .slice Ab nb cb, .slice none 0 0, .bool true] 33) = wX := ⟨_, rfl⟩
      have hbX : Below w4.heap.size w4 wX := by rw [← hwX]; exact allocBelow' _ _
      have hnc : ∀ j u, [Value.int .i64 wh, .int .i64 f3, .int .i64 t3, .int .i64 pos, .slice Ab nb cb, .slice none 0 0, .bool true][j]? = some u → wX.cell? ((⟨w4.heap.size, 0, none⟩ : Addr).add j) = some u := by rw [← hwX]; exact newCells w4 #[.int .i64 wh, .int .i64 f3, .int .i64 t3, .int .i64 pos, .slice Ab nb cb, .slice none 0 0, .bool true] 33 (0, 0)
      have hxs : wX.heap.size = w4.heap.size + 1 := by rw [← hwX]; simp
      have hLX := hL4.made hbX
      have hVX : elTr.V wX (fun q => (K2 q ∨ New w4 wX q) ∧ q < w.heap.size) _ ((wh, (f3 : Int), (t3 : Int), pos, xs), [], true) := tr_mk hi1 (by unfold inI; omega) (by unfold inI; omega) hi4 hncb (Nat.le_refl 0) ((hrB4.below hbX).mono fun q hq _ => ⟨.inl (hLM.old q hq), hq⟩) (RdB.nil _ _ none)
      have hm1 : T.length + 1 ≤ maxLen := by unfold maxLen; omega
      have hb1 : (T.length + 1) * 88 ≤ 140737488355328 := by omega
      have hB4 : w.heap.size ≤ wX.heap.size := by have := hL4.net.bel.size; omega
      have HWX := Lib.hid hwX
      have HL := Lib.hid (par_snoc T wh f3 t3 pos xs)
      have hwlt : w4.heap.size < wX.heap.size := by omega
      have hKb : (fun q => K2 q ∨ New w4 wX q) w4.heap.size := .inr ⟨Nat.le_refl _, hwlt⟩
      clear hwX hxs hrB4 hrT hL4 hLM hr4 hr4' hsend hc4 hbX
      obtain ⟨v3, w3, hrun, hk3, hc3⟩ := Keep.run_one (E := elTr) (P := Try.prog) 27 27 i0 _ 88 Try.underlying27 hi0 hz0 hz1 hz2 rfl (by decide) hLX.row w4.heap.size 1 hwlt hKb _ _ hVX hnc hm1 hb1 hB4
      obtain ⟨A6, c6, e6, hc6, hA6, _⟩ := hk3.rd (by rw [List.length_append, List.length_singleton]; omega)
      obtain ⟨T6, hT6⟩ : ∃ T6, T ++ [((wh, (f3 : Int), (t3 : Int), pos, xs), [], true)] = T6 := ⟨_, rfl⟩
      have hT6l : T6.length = T.length + 1 := by rw [← hT6, List.length_append, List.length_singleton]
      rw [hT6] at e6 hk3 hc6 hA6
      subst e6
      have HRUN := Lib.hid hrun
      have HT6 := Lib.hid hT6
      have hT6b : T6.length ≤ 81 := by omega
      have hL6 := hLX.put hc3 hk3
      clear hrun hT6 hT6l hk3 hc3 hVX hnc hLX hi0 hz0 hz1 hz2
      go_wp2_with (first | (refine wpList_build_run (o := ⟨some 78, _, _, _, _, _⟩) rfl 33 0 2 (.tmp 77) (.const (.bool true)) rfl _ _ _ (by go_simp) (by go_simp) (build33 wh f3 t3 pos Ab nb cb _) ?_) | (refine wpList_bslice_run (o := ⟨some 79, _, _, _, _, _⟩) rfl 27 1 0 (.tmp 78) rfl _ _ (by go_simp) (bslice33 wh f3 t3 pos Ab nb cb _) ?_) | (at_builtin; rw [HWX.out]; refine wpList_list_run rfl _ _ 27 rfl (by go_simp) (by go_simp) HRUN.out ?_))
      have hT6 := HT6.out
      have hLT6 : L ++ [((f3 : Int), (t3 : Int), xs, true)] = T6.map parOf := by rw [← hT6, HLT0.out]; exact HL.out
      have hsm6 : Small (L ++ [((f3 : Int), (t3 : Int), xs, true)]) := hsm.snoc (by simp only; omega)
      clear hT6
      have hlen := Len_calls _ _ _ _ _ _ hL6.net.net (by decide)
      have hTL : (L ++ [((f3 : Int), (t3 : Int), xs, true)]).length = T6.length := by rw [hLT6, List.length_map]
      rw [hTL] at hlen
      have HLINE := Lib.hid hL6
      have HLT := Lib.hid hLT6
      clear hTL hLT6 
      go_wp2_with fail
      refine hlen.mono ?_
      rintro e wE ⟨rfl, rfl⟩
      clear hlen
      go_wp2_with fail
      go_roundg (n - (k + 1))
      case measure => omega
      case rel => exact ⟨k + 1, _, _, _, _, _, by omega, by omega, rfl, by go_num, HLINE.out, hsm6, by rw [List.length_append, List.length_singleton]; omega, HLT.out⟩
set_option maxRecDepth 100000 in
set_option maxHeartbeats 16000000 in
theorem trueLeaf11 : cutTrue.1 11 := by
  intro w n c os hc hnm i0 hi0 hz0 hz1 hz2 qQ w1 qK3 qa4 gk u2 u7 u8 u9 u10 u11 u12 u13 u20 u21 u22 u23 u24 u25 u26 u27 u28 u29 u30 u31 u32 u33 u34 u35 u36 u37 u38 u39 u40 u41 u42 u43 u44 u45 u46 u47 u48 u49 u50 u51 u52 u53 u54 u55 u56 u57 u58 u59 u60 u61 u62 u63 u64 u65 u66 u67 u68 u69 u70 u71 u72 u73 u74 u75 u76 u77 u78 u79 u80 u81 u82 u83 u84 u85 u86 u87 u88 u89 u90 u91 u92 u93 u94 u95 u96 u97 u98 u99 u100 u101 u102 u103 u104 u105 u106 u107 u108 u109 u110 u111 u112 u113 u114 u115 u116 u117 u118 u119 u120 u121 u122 u123 u124 u125 u126 u127 u128 u129 u130 u131 u132 u133 u134 u135 u136 u137 u138 u139 u140 u141 u142 u143 u144 u145 u146 u147 u148 u149 u150 u151 u152 u153 u154 u155 u156 u157 u158 u159 u160 u161 u162 u163 u164 u165 u166 u167 u168 u169 u170 u171 u172 u173 u174 u175 u176 u177 u178 u179 u180 u181 u182 u183 u184 u185 u186 u187 u188 u189 u190 u191 u192 u193 u194 u195 u196 u197 u198 u199 u200 u201 u202 u203 u204 u205 u206 u207 u208 u209 u210 u211 u212 u213 u214 u215 u216 u217 u218 u219 u220 u221 u222 u223 u224 u225 u226 u227 u228 u229 u230 u231 u232 u233 u234 qJ qK2 qa3 k K S v L T hkn hk80 hgk hsm hLk wq hlt hlt80 wh fr tn pos xs b off hbw qleft Ab nb cb hncb hi1 hi2 hi3 hi4 hr qa2 hi80 f3 hf3 t3 ht3 qK1 qa1 qK0 qa0 wM hbox hrM K2 hxK hbel hT80 A5 c5 hc5 hA5 hrT hLM q0 q1 q2 q3 q4 HWM hLm hTl1 hTl2 HLT0 hci
  obtain ⟨hwx, hpx⟩ := caseOf_wh (a := 1) (c := 1) hci (by decide)
  clear hci
  have hw1 : wh = 1 := whOf_eq hwx (by decide)
  have hw0 : ¬ wh = 0 := by omega
  obtain ⟨hpg, hpb⟩ := posOf_big hpx
  clear hwx hpx
  have hpl : pos < 0 ∨ (L.length : Int) ≤ pos := .inr (by omega)
  have hpg2 : pos ≥ 0 := hpg
  have hpb2 : ¬ (pos < (T.length : Int)) := by omega
  have e0 : (wh == 0) = false := by rw [beq_eq_false_iff_ne]; omega
  have e1 : (wh == 1) = true := by rw [beq_iff_eq]; omega
  clear hw0 hw1
  have hxl := hrM.len
  by_cases hnb : 70000 < nb
  · have hnb2 : ¬ (nb ≤ 70000) := by omega
    have hres : sendRes 4 (f3 : Int) (t3 : Int) xs L = (3, L) := by unfold sendRes; rw [if_neg (by omega), if_pos (by omega)]
    have hsend := Send_calls wM.drew S w.heap.size 4 v L hLM.net.net.drew (by decide) f3 t3 (by unfold inI; omega) (by unfold inI; omega) Ab nb cb xs _ hrM.drew 3 _ hres
    clear hres
    go_wp2_with fail
    go_region_held3 (fun w' => w'.cell? ⟨wq.heap.size, 1, none⟩ = some (.int .i64 f3) ∧ w'.cell? ⟨wq.heap.size, 2, none⟩ = some (.int .i64 t3) ∧ w'.cell? ⟨wq.heap.size, 4, none⟩ = some (.slice Ab nb cb))
      (first | exact ⟨y1, y2, y4⟩ | exact ⟨q1, q2, q4⟩)
      (first
      | (go_at_call 7; (with_reducible refine hsend.mono ?_); rintro e w4 ⟨rfl, hr4⟩; have hr4' := hr4.from (Below.refl wM.heap.size wM).drew; obtain ⟨⟨S4, v4, hL4⟩, hc4⟩ := hLM.next hr4'; obtain ⟨y0, y1, y2, y3, y4⟩ := (hbox.chg hc4 (fun hn => hn hxK)).cells))
    all_goals
      have hL5 := hL4
      clear hrT hLM hr4 hr4' hsend hc4
      have hlen := Len_calls _ _ _ _ _ _ hL5.net.net (by decide)
      have hTL : L.length = T.length := by rw [HLT0.out, List.length_map]
      rw [hTL] at hlen
      have HLINE := Lib.hid hL5
      have HLT := Lib.hid HLT0.out
      clear hTL 
      go_wp2_with fail
      refine hlen.mono ?_
      rintro e wE ⟨rfl, rfl⟩
      clear hlen
      go_wp2_with fail
      go_roundg (n - (k + 1))
      case measure => omega
      case rel => exact ⟨k + 1, _, _, _, _, _, by omega, by omega, rfl, by go_num, HLINE.out, hsm, by omega, HLT.out⟩
  · have hnb2 : nb ≤ 70000 := by omega
    have hnb3 : (nb : Int) ≤ 70000 := by omega
    have hres : sendRes 4 (f3 : Int) (t3 : Int) xs L = (0, L ++ [((f3 : Int), (t3 : Int), xs, true)]) := by unfold sendRes; rw [if_neg (by omega), if_neg (by omega), if_neg (by omega)]
    have hsend := Send_calls wM.drew S w.heap.size 4 v L hLM.net.net.drew (by decide) f3 t3 (by unfold inI; omega) (by unfold inI; omega) Ab nb cb xs _ hrM.drew 0 _ hres
    clear hres
    go_wp2_with fail
    go_region_held3 (fun w' => w'.cell? ⟨wq.heap.size, 1, none⟩ = some (.int .i64 f3) ∧ w'.cell? ⟨wq.heap.size, 2, none⟩ = some (.int .i64 t3) ∧ w'.cell? ⟨wq.heap.size, 4, none⟩ = some (.slice Ab nb cb))
      (first | exact ⟨y1, y2, y4⟩ | exact ⟨q1, q2, q4⟩)
      (first
      | (go_at_call 7; (with_reducible refine hsend.mono ?_); rintro e w4 ⟨rfl, hr4⟩; have hr4' := hr4.from (Below.refl wM.heap.size wM).drew; obtain ⟨⟨S4, v4, hL4⟩, hc4⟩ := hLM.next hr4'; obtain ⟨y0, y1, y2, y3, y4⟩ := (hbox.chg hc4 (fun hn => hn hxK)).cells))
    all_goals
      have hrB4 := hrM.keep hc4.size fun q hq _ => hc4.block q (Nat.lt_of_lt_of_le hq hbel.size) fun hn => hn (hLM.old q hq)
      obtain ⟨wX, hwX⟩ : ∃ wX, w4.alloc (.cells #[.int .i64 wh, .int .i64 f3, .int .i64 t3, .int .i64 pos, .slice Ab nb cb, .slice none 0 0, .bool true] 33) = wX := ⟨_, rfl⟩
      have hbX : Below w4.heap.size w4 wX := by rw [← hwX]; exact allocBelow' _ _
      have hnc : ∀ j u, [Value.int .i64 wh, .int .i64 f3, .int .i64 t3, .int .i64 pos, .slice Ab nb cb, .slice none 0 0, .bool true][j]? = some u → wX.cell? ((⟨w4.heap.size, 0, none⟩ : Addr).add j) = some u := by rw [← hwX]; exact newCells w4 #[.int .i64 wh, .int .i64 f3, .int .i64 t3, .int .i64 pos, .slice Ab nb cb, .slice none 0 0, .bool true] 33 (0, 0)
      have hxs : wX.heap.size = w4.heap.size + 1 := by rw [← hwX]; simp
      have hLX := hL4.made hbX
      have hVX : elTr.V wX (fun q => (K2 q ∨ New w4 wX q) ∧ q < w.heap.size) _ ((wh, (f3 : Int), (t3 : Int), pos, xs), [], true) := tr_mk hi1 (by unfold inI; omega) (by unfold inI; omega) hi4 hncb (Nat.le_refl 0) ((hrB4.below hbX).mono fun q hq _ => ⟨.inl (hLM.old q hq), hq⟩) (RdB.nil _ _ none)
      have hm1 : T.length + 1 ≤ maxLen := by unfold maxLen; omega
      have hb1 : (T.length + 1) * 88 ≤ 140737488355328 := by omega
      have hB4 : w.heap.size ≤ wX.heap.size := by have := hL4.net.bel.size; omega
      have HWX := Lib.hid hwX
      have HL := Lib.hid (par_snoc T wh f3 t3 pos xs)
      have hwlt : w4.heap.size < wX.heap.size := by omega
      have hKb : (fun q => K2 q ∨ New w4 wX q) w4.heap.size := .inr ⟨Nat.le_refl _, hwlt⟩
      clear hwX hxs hrB4 hrT hL4 hLM hr4 hr4' hsend hc4 hbX
      obtain ⟨v3, w3, hrun, hk3, hc3⟩ := Keep.run_one (E := elTr) (P := Try.prog) 27 27 i0 _ 88 Try.underlying27 hi0 hz0 hz1 hz2 rfl (by decide) hLX.row w4.heap.size 1 hwlt hKb _ _ hVX hnc hm1 hb1 hB4
      obtain ⟨A6, c6, e6, hc6, hA6, _⟩ := hk3.rd (by rw [List.length_append, List.length_singleton]; omega)
      obtain ⟨T6, hT6⟩ : ∃ T6, T ++ [((wh, (f3 : Int), (t3 : Int), pos, xs), [], true)] = T6 := ⟨_, rfl⟩
      have hT6l : T6.length = T.length + 1 := by rw [← hT6, List.length_append, List.length_singleton]
      rw [hT6] at e6 hk3 hc6 hA6
      subst e6
      have HRUN := Lib.hid hrun
      have HT6 := Lib.hid hT6
      have hT6b : T6.length ≤ 81 := by omega
      have hL6 := hLX.put hc3 hk3
      clear hrun hT6 hT6l hk3 hc3 hVX hnc hLX hi0 hz0 hz1 hz2
      go_wp2_with (first | (refine wpList_build_run (o := ⟨some 78, _, _, _, _, _⟩) rfl 33 0 2 (.tmp 77) (.const (.bool true)) rfl _ _ _ (by go_simp) (by go_simp) (build33 wh f3 t3 pos Ab nb cb _) ?_) | (refine wpList_bslice_run (o := ⟨some 79, _, _, _, _, _⟩) rfl 27 1 0 (.tmp 78) rfl _ _ (by go_simp) (bslice33 wh f3 t3 pos Ab nb cb _) ?_) | (at_builtin; rw [HWX.out]; refine wpList_list_run rfl _ _ 27 rfl (by go_simp) (by go_simp) HRUN.out ?_))
      have hT6 := HT6.out
      have hLT6 : L ++ [((f3 : Int), (t3 : Int), xs, true)] = T6.map parOf := by rw [← hT6, HLT0.out]; exact HL.out
      have hsm6 : Small (L ++ [((f3 : Int), (t3 : Int), xs, true)]) := hsm.snoc (by simp only; omega)
      clear hT6
      have hlen := Len_calls _ _ _ _ _ _ hL6.net.net (by decide)
      have hTL : (L ++ [((f3 : Int), (t3 : Int), xs, true)]).length = T6.length := by rw [hLT6, List.length_map]
      rw [hTL] at hlen
      have HLINE := Lib.hid hL6
      have HLT := Lib.hid hLT6
      clear hTL hLT6 
      go_wp2_with fail
      refine hlen.mono ?_
      rintro e wE ⟨rfl, rfl⟩
      clear hlen
      go_wp2_with fail
      go_roundg (n - (k + 1))
      case measure => omega
      case rel => exact ⟨k + 1, _, _, _, _, _, by omega, by omega, rfl, by go_num, HLINE.out, hsm6, by rw [List.length_append, List.length_singleton]; omega, HLT.out⟩
set_option maxRecDepth 100000 in
set_option maxHeartbeats 16000000 in
theorem trueLeaf12 : cutTrue.1 12 := by
  intro w n c os hc hnm i0 hi0 hz0 hz1 hz2 qQ w1 qK3 qa4 gk u2 u7 u8 u9 u10 u11 u12 u13 u20 u21 u22 u23 u24 u25 u26 u27 u28 u29 u30 u31 u32 u33 u34 u35 u36 u37 u38 u39 u40 u41 u42 u43 u44 u45 u46 u47 u48 u49 u50 u51 u52 u53 u54 u55 u56 u57 u58 u59 u60 u61 u62 u63 u64 u65 u66 u67 u68 u69 u70 u71 u72 u73 u74 u75 u76 u77 u78 u79 u80 u81 u82 u83 u84 u85 u86 u87 u88 u89 u90 u91 u92 u93 u94 u95 u96 u97 u98 u99 u100 u101 u102 u103 u104 u105 u106 u107 u108 u109 u110 u111 u112 u113 u114 u115 u116 u117 u118 u119 u120 u121 u122 u123 u124 u125 u126 u127 u128 u129 u130 u131 u132 u133 u134 u135 u136 u137 u138 u139 u140 u141 u142 u143 u144 u145 u146 u147 u148 u149 u150 u151 u152 u153 u154 u155 u156 u157 u158 u159 u160 u161 u162 u163 u164 u165 u166 u167 u168 u169 u170 u171 u172 u173 u174 u175 u176 u177 u178 u179 u180 u181 u182 u183 u184 u185 u186 u187 u188 u189 u190 u191 u192 u193 u194 u195 u196 u197 u198 u199 u200 u201 u202 u203 u204 u205 u206 u207 u208 u209 u210 u211 u212 u213 u214 u215 u216 u217 u218 u219 u220 u221 u222 u223 u224 u225 u226 u227 u228 u229 u230 u231 u232 u233 u234 qJ qK2 qa3 k K S v L T hkn hk80 hgk hsm hLk wq hlt hlt80 wh fr tn pos xs b off hbw qleft Ab nb cb hncb hi1 hi2 hi3 hi4 hr qa2 hi80 f3 hf3 t3 ht3 qK1 qa1 qK0 qa0 wM hbox hrM K2 hxK hbel hT80 A5 c5 hc5 hA5 hrT hLM q0 q1 q2 q3 q4 HWM hLm hTl1 hTl2 HLT0 hci
  obtain ⟨hwx, hpx⟩ := caseOf_wh (a := 1) (c := 2) hci (by decide)
  clear hci
  have hw2 : wh = 2 := whOf_eq hwx (by decide)
  have hw0 : ¬ wh = 0 := by omega
  have hw1 : ¬ wh = 1 := by omega
  obtain ⟨hpg, hpb⟩ := posOf_big hpx
  clear hwx hpx
  have hpl : pos < 0 ∨ (L.length : Int) ≤ pos := .inr (by omega)
  have hpg2 : pos ≥ 0 := hpg
  have hpb2 : ¬ (pos < (T.length : Int)) := by omega
  have e0 : (wh == 0) = false := by rw [beq_eq_false_iff_ne]; omega
  have e1 : (wh == 1) = false := by rw [beq_eq_false_iff_ne]; omega
  have e2 : (wh == 2) = true := by rw [beq_iff_eq]; omega
  clear hw0 hw1 hw2
  have hxl := hrM.len
  by_cases hnb : 70000 < nb
  · have hnb2 : ¬ (nb ≤ 70000) := by omega
    have hres : sendRes 4 (f3 : Int) (t3 : Int) xs L = (3, L) := by unfold sendRes; rw [if_neg (by omega), if_pos (by omega)]
    have hsend := Send_calls wM.drew S w.heap.size 4 v L hLM.net.net.drew (by decide) f3 t3 (by unfold inI; omega) (by unfold inI; omega) Ab nb cb xs _ hrM.drew 3 _ hres
    clear hres
    go_wp2_with fail
    go_region_held3 (fun w' => w'.cell? ⟨wq.heap.size, 1, none⟩ = some (.int .i64 f3) ∧ w'.cell? ⟨wq.heap.size, 2, none⟩ = some (.int .i64 t3) ∧ w'.cell? ⟨wq.heap.size, 4, none⟩ = some (.slice Ab nb cb))
      (first | exact ⟨y1, y2, y4⟩ | exact ⟨q1, q2, q4⟩)
      (first
      | (go_at_call 7; (with_reducible refine hsend.mono ?_); rintro e w4 ⟨rfl, hr4⟩; have hr4' := hr4.from (Below.refl wM.heap.size wM).drew; obtain ⟨⟨S4, v4, hL4⟩, hc4⟩ := hLM.next hr4'; obtain ⟨y0, y1, y2, y3, y4⟩ := (hbox.chg hc4 (fun hn => hn hxK)).cells))
    all_goals
      have hL5 := hL4
      clear hrT hLM hr4 hr4' hsend hc4
      have hlen := Len_calls _ _ _ _ _ _ hL5.net.net (by decide)
      have hTL : L.length = T.length := by rw [HLT0.out, List.length_map]
      rw [hTL] at hlen
      have HLINE := Lib.hid hL5
      have HLT := Lib.hid HLT0.out
      clear hTL 
      go_wp2_with fail
      refine hlen.mono ?_
      rintro e wE ⟨rfl, rfl⟩
      clear hlen
      go_wp2_with fail
      go_roundg (n - (k + 1))
      case measure => omega
      case rel => exact ⟨k + 1, _, _, _, _, _, by omega, by omega, rfl, by go_num, HLINE.out, hsm, by omega, HLT.out⟩
  · have hnb2 : nb ≤ 70000 := by omega
    have hnb3 : (nb : Int) ≤ 70000 := by omega
    have hres : sendRes 4 (f3 : Int) (t3 : Int) xs L = (0, L ++ [((f3 : Int), (t3 : Int), xs, true)]) := by unfold sendRes; rw [if_neg (by omega), if_neg (by omega), if_neg (by omega)]
    have hsend := Send_calls wM.drew S w.heap.size 4 v L hLM.net.net.drew (by decide) f3 t3 (by unfold inI; omega) (by unfold inI; omega) Ab nb cb xs _ hrM.drew 0 _ hres
    clear hres
    go_wp2_with fail
    go_region_held3 (fun w' => w'.cell? ⟨wq.heap.size, 1, none⟩ = some (.int .i64 f3) ∧ w'.cell? ⟨wq.heap.size, 2, none⟩ = some (.int .i64 t3) ∧ w'.cell? ⟨wq.heap.size, 4, none⟩ = some (.slice Ab nb cb))
      (first | exact ⟨y1, y2, y4⟩ | exact ⟨q1, q2, q4⟩)
      (first
      | (go_at_call 7; (with_reducible refine hsend.mono ?_); rintro e w4 ⟨rfl, hr4⟩; have hr4' := hr4.from (Below.refl wM.heap.size wM).drew; obtain ⟨⟨S4, v4, hL4⟩, hc4⟩ := hLM.next hr4'; obtain ⟨y0, y1, y2, y3, y4⟩ := (hbox.chg hc4 (fun hn => hn hxK)).cells))
    all_goals
      have hrB4 := hrM.keep hc4.size fun q hq _ => hc4.block q (Nat.lt_of_lt_of_le hq hbel.size) fun hn => hn (hLM.old q hq)
      obtain ⟨wX, hwX⟩ : ∃ wX, w4.alloc (.cells #[.int .i64 wh, .int .i64 f3, .int .i64 t3, .int .i64 pos, .slice Ab nb cb, .slice none 0 0, .bool true] 33) = wX := ⟨_, rfl⟩
      have hbX : Below w4.heap.size w4 wX := by rw [← hwX]; exact allocBelow' _ _
      have hnc : ∀ j u, [Value.int .i64 wh, .int .i64 f3, .int .i64 t3, .int .i64 pos, .slice Ab nb cb, .slice none 0 0, .bool true][j]? = some u → wX.cell? ((⟨w4.heap.size, 0, none⟩ : Addr).add j) = some u := by rw [← hwX]; exact newCells w4 #[.int .i64 wh, .int .i64 f3, .int .i64 t3, .int .i64 pos, .slice Ab nb cb, .slice none 0 0, .bool true] 33 (0, 0)
      have hxs : wX.heap.size = w4.heap.size + 1 := by rw [← hwX]; simp
      have hLX := hL4.made hbX
      have hVX : elTr.V wX (fun q => (K2 q ∨ New w4 wX q) ∧ q < w.heap.size) _ ((wh, (f3 : Int), (t3 : Int), pos, xs), [], true) := tr_mk hi1 (by unfold inI; omega) (by unfold inI; omega) hi4 hncb (Nat.le_refl 0) ((hrB4.below hbX).mono fun q hq _ => ⟨.inl (hLM.old q hq), hq⟩) (RdB.nil _ _ none)
      have hm1 : T.length + 1 ≤ maxLen := by unfold maxLen; omega
      have hb1 : (T.length + 1) * 88 ≤ 140737488355328 := by omega
      have hB4 : w.heap.size ≤ wX.heap.size := by have := hL4.net.bel.size; omega
      have HWX := Lib.hid hwX
      have HL := Lib.hid (par_snoc T wh f3 t3 pos xs)
      have hwlt : w4.heap.size < wX.heap.size := by omega
      have hKb : (fun q => K2 q ∨ New w4 wX q) w4.heap.size := .inr ⟨Nat.le_refl _, hwlt⟩
      clear hwX hxs hrB4 hrT hL4 hLM hr4 hr4' hsend hc4 hbX
      obtain ⟨v3, w3, hrun, hk3, hc3⟩ := Keep.run_one (E := elTr) (P := Try.prog) 27 27 i0 _ 88 Try.underlying27 hi0 hz0 hz1 hz2 rfl (by decide) hLX.row w4.heap.size 1 hwlt hKb _ _ hVX hnc hm1 hb1 hB4
      obtain ⟨A6, c6, e6, hc6, hA6, _⟩ := hk3.rd (by rw [List.length_append, List.length_singleton]; omega)
      obtain ⟨T6, hT6⟩ : ∃ T6, T ++ [((wh, (f3 : Int), (t3 : Int), pos, xs), [], true)] = T6 := ⟨_, rfl⟩
      have hT6l : T6.length = T.length + 1 := by rw [← hT6, List.length_append, List.length_singleton]
      rw [hT6] at e6 hk3 hc6 hA6
      subst e6
      have HRUN := Lib.hid hrun
      have HT6 := Lib.hid hT6
      have hT6b : T6.length ≤ 81 := by omega
      have hL6 := hLX.put hc3 hk3
      clear hrun hT6 hT6l hk3 hc3 hVX hnc hLX hi0 hz0 hz1 hz2
      go_wp2_with (first | (refine wpList_build_run (o := ⟨some 78, _, _, _, _, _⟩) rfl 33 0 2 (.tmp 77) (.const (.bool true)) rfl _ _ _ (by go_simp) (by go_simp) (build33 wh f3 t3 pos Ab nb cb _) ?_) | (refine wpList_bslice_run (o := ⟨some 79, _, _, _, _, _⟩) rfl 27 1 0 (.tmp 78) rfl _ _ (by go_simp) (bslice33 wh f3 t3 pos Ab nb cb _) ?_) | (at_builtin; rw [HWX.out]; refine wpList_list_run rfl _ _ 27 rfl (by go_simp) (by go_simp) HRUN.out ?_))
      have hT6 := HT6.out
      have hLT6 : L ++ [((f3 : Int), (t3 : Int), xs, true)] = T6.map parOf := by rw [← hT6, HLT0.out]; exact HL.out
      have hsm6 : Small (L ++ [((f3 : Int), (t3 : Int), xs, true)]) := hsm.snoc (by simp only; omega)
      clear hT6
      have hlen := Len_calls _ _ _ _ _ _ hL6.net.net (by decide)
      have hTL : (L ++ [((f3 : Int), (t3 : Int), xs, true)]).length = T6.length := by rw [hLT6, List.length_map]
      rw [hTL] at hlen
      have HLINE := Lib.hid hL6
      have HLT := Lib.hid hLT6
      clear hTL hLT6 
      go_wp2_with fail
      refine hlen.mono ?_
      rintro e wE ⟨rfl, rfl⟩
      clear hlen
      go_wp2_with fail
      go_roundg (n - (k + 1))
      case measure => omega
      case rel => exact ⟨k + 1, _, _, _, _, _, by omega, by omega, rfl, by go_num, HLINE.out, hsm6, by rw [List.length_append, List.length_singleton]; omega, HLT.out⟩
set_option maxRecDepth 100000 in
set_option maxHeartbeats 16000000 in
theorem trueLeaf19 : cutTrue.1 19 := by
  intro w n c os hc hnm i0 hi0 hz0 hz1 hz2 qQ w1 qK3 qa4 gk u2 u7 u8 u9 u10 u11 u12 u13 u20 u21 u22 u23 u24 u25 u26 u27 u28 u29 u30 u31 u32 u33 u34 u35 u36 u37 u38 u39 u40 u41 u42 u43 u44 u45 u46 u47 u48 u49 u50 u51 u52 u53 u54 u55 u56 u57 u58 u59 u60 u61 u62 u63 u64 u65 u66 u67 u68 u69 u70 u71 u72 u73 u74 u75 u76 u77 u78 u79 u80 u81 u82 u83 u84 u85 u86 u87 u88 u89 u90 u91 u92 u93 u94 u95 u96 u97 u98 u99 u100 u101 u102 u103 u104 u105 u106 u107 u108 u109 u110 u111 u112 u113 u114 u115 u116 u117 u118 u119 u120 u121 u122 u123 u124 u125 u126 u127 u128 u129 u130 u131 u132 u133 u134 u135 u136 u137 u138 u139 u140 u141 u142 u143 u144 u145 u146 u147 u148 u149 u150 u151 u152 u153 u154 u155 u156 u157 u158 u159 u160 u161 u162 u163 u164 u165 u166 u167 u168 u169 u170 u171 u172 u173 u174 u175 u176 u177 u178 u179 u180 u181 u182 u183 u184 u185 u186 u187 u188 u189 u190 u191 u192 u193 u194 u195 u196 u197 u198 u199 u200 u201 u202 u203 u204 u205 u206 u207 u208 u209 u210 u211 u212 u213 u214 u215 u216 u217 u218 u219 u220 u221 u222 u223 u224 u225 u226 u227 u228 u229 u230 u231 u232 u233 u234 qJ qK2 qa3 k K S v L T hkn hk80 hgk hsm hLk wq hlt hlt80 wh fr tn pos xs b off hbw qleft Ab nb cb hncb hi1 hi2 hi3 hi4 hr qa2 hi80 f3 hf3 t3 ht3 qK1 qa1 qK0 qa0 wM hbox hrM K2 hxK hbel hT80 A5 c5 hc5 hA5 hrT hLM q0 q1 q2 q3 q4 HWM hLm hTl1 hTl2 HLT0 hci
  obtain ⟨hwx, hpx⟩ := caseOf_wh (a := 1) (c := 9) hci (by decide)
  clear hci
  obtain ⟨hw0, hw1, hw2, hw3, hw4, hw5, hw6, hw7, hw8⟩ := whOf_else hwx
  obtain ⟨hpg, hpb⟩ := posOf_big hpx
  clear hwx hpx
  have hpl : pos < 0 ∨ (L.length : Int) ≤ pos := .inr (by omega)
  have hpg2 : pos ≥ 0 := hpg
  have hpb2 : ¬ (pos < (T.length : Int)) := by omega
  have e0 : (wh == 0) = false := by rw [beq_eq_false_iff_ne]; omega
  have e1 : (wh == 1) = false := by rw [beq_eq_false_iff_ne]; omega
  have e2 : (wh == 2) = false := by rw [beq_eq_false_iff_ne]; omega
  have e3 : (wh == 3) = false := by rw [beq_eq_false_iff_ne]; omega
  have e4 : (wh == 4) = false := by rw [beq_eq_false_iff_ne]; omega
  have e5 : (wh == 5) = false := by rw [beq_eq_false_iff_ne]; omega
  have e6 : (wh == 6) = false := by rw [beq_eq_false_iff_ne]; omega
  have e7 : (wh == 7) = false := by rw [beq_eq_false_iff_ne]; omega
  have e8 : (wh == 8) = false := by rw [beq_eq_false_iff_ne]; omega
  clear hw0 hw1 hw2 hw3 hw4 hw5 hw6 hw7 hw8
  clear hrT
  have hlen := Len_calls _ _ _ _ _ _ hLM.net.net (by decide)
  have hTL : L.length = T.length := by rw [HLT0.out, List.length_map]
  rw [hTL] at hlen
  have HLINE := Lib.hid hLM
  have HLT := Lib.hid HLT0.out
  clear hTL 
  go_wp2_with fail
  refine hlen.mono ?_
  rintro e wE ⟨rfl, rfl⟩
  clear hlen
  go_wp2_with fail
  go_roundg (n - (k + 1))
  case measure => omega
  case rel => exact ⟨k + 1, _, _, _, _, _, by omega, by omega, rfl, by go_num, HLINE.out, hsm, by omega, HLT.out⟩
set_option maxRecDepth 100000 in
set_option maxHeartbeats 16000000 in
theorem trueLeaf13 : cutTrue.1 13 := by
  intro w n c os hc hnm i0 hi0 hz0 hz1 hz2 qQ w1 qK3 qa4 gk u2 u7 u8 u9 u10 u11 u12 u13 u20 u21 u22 u23 u24 u25 u26 u27 u28 u29 u30 u31 u32 u33 u34 u35 u36 u37 u38 u39 u40 u41 u42 u43 u44 u45 u46 u47 u48 u49 u50 u51 u52 u53 u54 u55 u56 u57 u58 u59 u60 u61 u62 u63 u64 u65 u66 u67 u68 u69 u70 u71 u72 u73 u74 u75 u76 u77 u78 u79 u80 u81 u82 u83 u84 u85 u86 u87 u88 u89 u90 u91 u92 u93 u94 u95 u96 u97 u98 u99 u100 u101 u102 u103 u104 u105 u106 u107 u108 u109 u110 u111 u112 u113 u114 u115 u116 u117 u118 u119 u120 u121 u122 u123 u124 u125 u126 u127 u128 u129 u130 u131 u132 u133 u134 u135 u136 u137 u138 u139 u140 u141 u142 u143 u144 u145 u146 u147 u148 u149 u150 u151 u152 u153 u154 u155 u156 u157 u158 u159 u160 u161 u162 u163 u164 u165 u166 u167 u168 u169 u170 u171 u172 u173 u174 u175 u176 u177 u178 u179 u180 u181 u182 u183 u184 u185 u186 u187 u188 u189 u190 u191 u192 u193 u194 u195 u196 u197 u198 u199 u200 u201 u202 u203 u204 u205 u206 u207 u208 u209 u210 u211 u212 u213 u214 u215 u216 u217 u218 u219 u220 u221 u222 u223 u224 u225 u226 u227 u228 u229 u230 u231 u232 u233 u234 qJ qK2 qa3 k K S v L T hkn hk80 hgk hsm hLk wq hlt hlt80 wh fr tn pos xs b off hbw qleft Ab nb cb hncb hi1 hi2 hi3 hi4 hr qa2 hi80 f3 hf3 t3 ht3 qK1 qa1 qK0 qa0 wM hbox hrM K2 hxK hbel hT80 A5 c5 hc5 hA5 hrT hLM q0 q1 q2 q3 q4 HWM hLm hTl1 hTl2 HLT0 hci
  obtain ⟨hwx, hpx⟩ := caseOf_wh (a := 1) (c := 3) hci (by decide)
  clear hci
  have hw3 : wh = 3 := whOf_eq hwx (by decide)
  have hw0 : ¬ wh = 0 := by omega
  have hw1 : ¬ wh = 1 := by omega
  have hw2 : ¬ wh = 2 := by omega
  obtain ⟨hpg, hpb⟩ := posOf_big hpx
  clear hwx hpx
  have hpl : pos < 0 ∨ (L.length : Int) ≤ pos := .inr (by omega)
  have hpg2 : pos ≥ 0 := hpg
  have hpb2 : ¬ (pos < (T.length : Int)) := by omega
  have e0 : (wh == 0) = false := by rw [beq_eq_false_iff_ne]; omega
  have e1 : (wh == 1) = false := by rw [beq_eq_false_iff_ne]; omega
  have e2 : (wh == 2) = false := by rw [beq_eq_false_iff_ne]; omega
  have e3 : (wh == 3) = true := by rw [beq_iff_eq]; omega
  clear hw0 hw1 hw2 hw3
  have hnone := Deliver_none wM S w.heap.size 4 v L hLM.net.net (by decide) pos hpl
  clear hrT
  go_wp2_with fail
  refine hnone.mono ?_
  rintro e w4 ⟨A4, n4, c4, S9, v9, rfl, hfb4, h4n, h4c, h4s, h4d⟩
  obtain ⟨⟨S4, v4, hL4⟩, hc4⟩ := hLM.next ⟨S9, v9, h4n, h4c, h4s⟩
  have hL5 := hL4.below (allocBelow' w4 (.cells #[.int .i64 0, .int .i64 0, .slice A4 n4 c4, .bool false] TP))
  clear hLM hnone hc4 hL4 h4n h4c h4s h4d hfb4
  have HLINE := Lib.hid hL5
  have HLT := Lib.hid HLT0.out
  go_wp2_with fail
  go_roundg (n - (k + 1))
  case measure => omega
  case rel => exact ⟨k + 1, _, _, _, _, _, by omega, by omega, rfl, by go_num, HLINE.out, hsm, by omega, HLT.out⟩
set_option maxRecDepth 100000 in
set_option maxHeartbeats 16000000 in
theorem trueLeaf14 : cutTrue.1 14 := by
  intro w n c os hc hnm i0 hi0 hz0 hz1 hz2 qQ w1 qK3 qa4 gk u2 u7 u8 u9 u10 u11 u12 u13 u20 u21 u22 u23 u24 u25 u26 u27 u28 u29 u30 u31 u32 u33 u34 u35 u36 u37 u38 u39 u40 u41 u42 u43 u44 u45 u46 u47 u48 u49 u50 u51 u52 u53 u54 u55 u56 u57 u58 u59 u60 u61 u62 u63 u64 u65 u66 u67 u68 u69 u70 u71 u72 u73 u74 u75 u76 u77 u78 u79 u80 u81 u82 u83 u84 u85 u86 u87 u88 u89 u90 u91 u92 u93 u94 u95 u96 u97 u98 u99 u100 u101 u102 u103 u104 u105 u106 u107 u108 u109 u110 u111 u112 u113 u114 u115 u116 u117 u118 u119 u120 u121 u122 u123 u124 u125 u126 u127 u128 u129 u130 u131 u132 u133 u134 u135 u136 u137 u138 u139 u140 u141 u142 u143 u144 u145 u146 u147 u148 u149 u150 u151 u152 u153 u154 u155 u156 u157 u158 u159 u160 u161 u162 u163 u164 u165 u166 u167 u168 u169 u170 u171 u172 u173 u174 u175 u176 u177 u178 u179 u180 u181 u182 u183 u184 u185 u186 u187 u188 u189 u190 u191 u192 u193 u194 u195 u196 u197 u198 u199 u200 u201 u202 u203 u204 u205 u206 u207 u208 u209 u210 u211 u212 u213 u214 u215 u216 u217 u218 u219 u220 u221 u222 u223 u224 u225 u226 u227 u228 u229 u230 u231 u232 u233 u234 qJ qK2 qa3 k K S v L T hkn hk80 hgk hsm hLk wq hlt hlt80 wh fr tn pos xs b off hbw qleft Ab nb cb hncb hi1 hi2 hi3 hi4 hr qa2 hi80 f3 hf3 t3 ht3 qK1 qa1 qK0 qa0 wM hbox hrM K2 hxK hbel hT80 A5 c5 hc5 hA5 hrT hLM q0 q1 q2 q3 q4 HWM hLm hTl1 hTl2 HLT0 hci
  obtain ⟨hwx, hpx⟩ := caseOf_wh (a := 1) (c := 4) hci (by decide)
  clear hci
  have hw4 : wh = 4 := whOf_eq hwx (by decide)
  have hw0 : ¬ wh = 0 := by omega
  have hw1 : ¬ wh = 1 := by omega
  have hw2 : ¬ wh = 2 := by omega
  have hw3 : ¬ wh = 3 := by omega
  obtain ⟨hpg, hpb⟩ := posOf_big hpx
  clear hwx hpx
  have hpl : pos < 0 ∨ (L.length : Int) ≤ pos := .inr (by omega)
  have hpg2 : pos ≥ 0 := hpg
  have hpb2 : ¬ (pos < (T.length : Int)) := by omega
  have e0 : (wh == 0) = false := by rw [beq_eq_false_iff_ne]; omega
  have e1 : (wh == 1) = false := by rw [beq_eq_false_iff_ne]; omega
  have e2 : (wh == 2) = false := by rw [beq_eq_false_iff_ne]; omega
  have e3 : (wh == 3) = false := by rw [beq_eq_false_iff_ne]; omega
  have e4 : (wh == 4) = true := by rw [beq_iff_eq]; omega
  clear hw0 hw1 hw2 hw3 hw4
  have hnone := Deliver_none wM S w.heap.size 4 v L hLM.net.net (by decide) pos hpl
  clear hrT
  go_wp2_with fail
  refine hnone.mono ?_
  rintro e w4 ⟨A4, n4, c4, S9, v9, rfl, hfb4, h4n, h4c, h4s, h4d⟩
  obtain ⟨⟨S4, v4, hL4⟩, hc4⟩ := hLM.next ⟨S9, v9, h4n, h4c, h4s⟩
  have hL5 := hL4.below (allocBelow' w4 (.cells #[.int .i64 0, .int .i64 0, .slice A4 n4 c4, .bool false] TP))
  clear hLM hnone hc4 hL4 h4n h4c h4s h4d hfb4
  have HLINE := Lib.hid hL5
  have HLT := Lib.hid HLT0.out
  go_wp2_with fail
  go_roundg (n - (k + 1))
  case measure => omega
  case rel => exact ⟨k + 1, _, _, _, _, _, by omega, by omega, rfl, by go_num, HLINE.out, hsm, by omega, HLT.out⟩
set_option maxRecDepth 100000 in
set_option maxHeartbeats 16000000 in
theorem trueLeaf15 : cutTrue.1 15 := by
  intro w n c os hc hnm i0 hi0 hz0 hz1 hz2 qQ w1 qK3 qa4 gk u2 u7 u8 u9 u10 u11 u12 u13 u20 u21 u22 u23 u24 u25 u26 u27 u28 u29 u30 u31 u32 u33 u34 u35 u36 u37 u38 u39 u40 u41 u42 u43 u44 u45 u46 u47 u48 u49 u50 u51 u52 u53 u54 u55 u56 u57 u58 u59 u60 u61 u62 u63 u64 u65 u66 u67 u68 u69 u70 u71 u72 u73 u74 u75 u76 u77 u78 u79 u80 u81 u82 u83 u84 u85 u86 u87 u88 u89 u90 u91 u92 u93 u94 u95 u96 u97 u98 u99 u100 u101 u102 u103 u104 u105 u106 u107 u108 u109 u110 u111 u112 u113 u114 u115 u116 u117 u118 u119 u120 u121 u122 u123 u124 u125 u126 u127 u128 u129 u130 u131 u132 u133 u134 u135 u136 u137 u138 u139 u140 u141 u142 u143 u144 u145 u146 u147 u148 u149 u150 u151 u152 u153 u154 u155 u156 u157 u158 u159 u160 u161 u162 u163 u164 u165 u166 u167 u168 u169 u170 u171 u172 u173 u174 u175 u176 u177 u178 u179 u180 u181 u182 u183 u184 u185 u186 u187 u188 u189 u190 u191 u192 u193 u194 u195 u196 u197 u198 u199 u200 u201 u202 u203 u204 u205 u206 u207 u208 u209 u210 u211 u212 u213 u214 u215 u216 u217 u218 u219 u220 u221 u222 u223 u224 u225 u226 u227 u228 u229 u230 u231 u232 u233 u234 qJ qK2 qa3 k K S v L T hkn hk80 hgk hsm hLk wq hlt hlt80 wh fr tn pos xs b off hbw qleft Ab nb cb hncb hi1 hi2 hi3 hi4 hr qa2 hi80 f3 hf3 t3 ht3 qK1 qa1 qK0 qa0 wM hbox hrM K2 hxK hbel hT80 A5 c5 hc5 hA5 hrT hLM q0 q1 q2 q3 q4 HWM hLm hTl1 hTl2 HLT0 hci
  obtain ⟨hwx, hpx⟩ := caseOf_wh (a := 1) (c := 5) hci (by decide)
  clear hci
  have hw5 : wh = 5 := whOf_eq hwx (by decide)
  have hw0 : ¬ wh = 0 := by omega
  have hw1 : ¬ wh = 1 := by omega
  have hw2 : ¬ wh = 2 := by omega
  have hw3 : ¬ wh = 3 := by omega
  have hw4 : ¬ wh = 4 := by omega
  obtain ⟨hpg, hpb⟩ := posOf_big hpx
  clear hwx hpx
  have hpl : pos < 0 ∨ (L.length : Int) ≤ pos := .inr (by omega)
  have hpg2 : pos ≥ 0 := hpg
  have hpb2 : ¬ (pos < (T.length : Int)) := by omega
  have e0 : (wh == 0) = false := by rw [beq_eq_false_iff_ne]; omega
  have e1 : (wh == 1) = false := by rw [beq_eq_false_iff_ne]; omega
  have e2 : (wh == 2) = false := by rw [beq_eq_false_iff_ne]; omega
  have e3 : (wh == 3) = false := by rw [beq_eq_false_iff_ne]; omega
  have e4 : (wh == 4) = false := by rw [beq_eq_false_iff_ne]; omega
  have e5 : (wh == 5) = true := by rw [beq_iff_eq]; omega
  clear hw0 hw1 hw2 hw3 hw4 hw5
  have hnone := Deliver_none wM S w.heap.size 4 v L hLM.net.net (by decide) pos hpl
  clear hrT
  go_wp2_with fail
  refine hnone.mono ?_
  rintro e w4 ⟨A4, n4, c4, S9, v9, rfl, hfb4, h4n, h4c, h4s, h4d⟩
  obtain ⟨⟨S4, v4, hL4⟩, hc4⟩ := hLM.next ⟨S9, v9, h4n, h4c, h4s⟩
  have hL5 := hL4.below (allocBelow' w4 (.cells #[.int .i64 0, .int .i64 0, .slice A4 n4 c4, .bool false] TP))
  clear hLM hnone hc4 hL4 h4n h4c h4s h4d hfb4
  have HLINE := Lib.hid hL5
  have HLT := Lib.hid HLT0.out
  go_wp2_with fail
  go_roundg (n - (k + 1))
  case measure => omega
  case rel => exact ⟨k + 1, _, _, _, _, _, by omega, by omega, rfl, by go_num, HLINE.out, hsm, by omega, HLT.out⟩
end Go.Proofs.Ytmkmbnfmmibifaa
