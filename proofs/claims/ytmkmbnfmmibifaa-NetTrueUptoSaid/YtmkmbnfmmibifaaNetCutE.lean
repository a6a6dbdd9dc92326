/-
  NetTrue's round: the cases 3, 4, 5, 6, 7, 8, 16, 17, 18.
-/
import Derived.Test.YtmkmbnfmmibifaaNetCutA
namespace Go.Proofs.Ytmkmbnfmmibifaa
open Go.RowKit

set_option maxRecDepth 100000 in
set_option maxHeartbeats 16000000 in
theorem trueLeaf3 : cutTrue.1 3 := by
  intro w n c os hc hnm i0 hi0 hz0 hz1 hz2 qQ w1 qK3 qa4 gk u2 u7 u8 u9 u10 u11 u12 u13 u20 u21 u22 u23 u24 u25 u26 u27 u28 u29 u30 u31 u32 u33 u34 u35 u36 u37 u38 u39 u40 u41 u42 u43 u44 u45 u46 u47 u48 u49 u50 u51 u52 u53 u54 u55 u56 u57 u58 u59 u60 u61 u62 u63 u64 u65 u66 u67 u68 u69 u70 u71 u72 u73 u74 u75 u76 u77 u78 u79 u80 u81 u82 u83 u84 u85 u86 u87 u88 u89 u90 u91 u92 u93 u94 u95 u96 u97 u98 u99 u100 u101 u102 u103 u104 u105 u106 u107 u108 u109 u110 u111 u112 u113 u114 u115 u116 u117 u118 u119 u120 u121 u122 u123 u124 u125 u126 u127 u128 u129 u130 u131 u132 u133 u134 u135 u136 u137 u138 u139 u140 u141 u142 u143 u144 u145 u146 u147 u148 u149 u150 u151 u152 u153 u154 u155 u156 u157 u158 u159 u160 u161 u162 u163 u164 u165 u166 u167 u168 u169 u170 u171 u172 u173 u174 u175 u176 u177 u178 u179 u180 u181 u182 u183 u184 u185 u186 u187 u188 u189 u190 u191 u192 u193 u194 u195 u196 u197 u198 u199 u200 u201 u202 u203 u204 u205 u206 u207 u208 u209 u210 u211 u212 u213 u214 u215 u216 u217 u218 u219 u220 u221 u222 u223 u224 u225 u226 u227 u228 u229 u230 u231 u232 u233 u234 qJ qK2 qa3 k K S v L T hkn hk80 hgk hsm hLk wq hlt hlt80 wh fr tn pos xs b off hbw qleft Ab nb cb hncb hi1 hi2 hi3 hi4 hr qa2 hi80 f3 hf3 t3 ht3 qK1 qa1 qK0 qa0 wM hbox hrM K2 hxK hbel hT80 A5 c5 hc5 hA5 hrT hLM q0 q1 q2 q3 q4 HWM hLm hTl1 hTl2 HLT0 hci
  obtain ⟨hwx, hpx⟩ := caseOf_wh (a := 0) (c := 3) hci (by decide)
  clear hci
  have hw3 : wh = 3 := whOf_eq hwx (by decide)
  have hw0 : ¬ wh = 0 := by omega
  have hw1 : ¬ wh = 1 := by omega
  have hw2 : ¬ wh = 2 := by omega
  have hpn := posOf_neg hpx
  clear hwx hpx
  have hpl : pos < 0 ∨ (L.length : Int) ≤ pos := .inl hpn
  have hpd : decide (0 ≤ pos) = false := decide_eq_false (by omega)
  have e0 : (wh == 0) = false := by rw [beq_eq_false_iff_ne]; omega
  have e1 : (wh == 1) = false := by rw [beq_eq_false_iff_ne]; omega
  have e2 : (wh == 2) = false := by rw [beq_eq_false_iff_ne]; omega
  have e3 : (wh == 3) = true := by rw [beq_iff_eq]; omega
  clear hw0 hw1 hw2 hw3
  have hnone := Deliver_none wM S w.heap.size 4 v L hLM.net.net (by decide) pos hpl
  clear hrT
  go_wp2_with fail
  refine hnone.mono ?_
  rintro e w4 ⟨A4, n4, c4, S9, v9, rfl, hfb4, h4n, h4c, h4s, h4d⟩
  obtain ⟨⟨S4, v4, hL4⟩, hc4⟩ := hLM.next ⟨S9, v9, h4n, h4c, h4s⟩
  have hL5 := hL4.below (allocBelow' w4 (.cells #[.int .i64 0, .int .i64 0, .slice A4 n4 c4, .bool false] TP))
  clear hLM hnone hc4 hL4 h4n h4c h4s h4d hfb4
  have HLINE := Lib.hid hL5
  have HLT := Lib.hid HLT0.out
  go_wp2_with fail
  go_roundg (n - (k + 1))
  case measure => omega
  case rel => exact ⟨k + 1, _, _, _, _, _, by omega, by omega, rfl, by go_num, HLINE.out, hsm, by omega, HLT.out⟩
set_option maxRecDepth 100000 in
set_option maxHeartbeats 16000000 in
theorem trueLeaf4 : cutTrue.1 4 := by
  intro w n c os hc hnm i0 hi0 hz0 hz1 hz2 qQ w1 qK3 qa4 gk u2 u7 u8 u9 u10 u11 u12 u13 u20 u21 u22 u23 u24 u25 u26 u27 u28 u29 u30 u31 u32 u33 u34 u35 u36 u37 u38 u39 u40 u41 u42 u43 u44 u45 u46 u47 u48 u49 u50 u51 u52 u53 u54 u55 u56 u57 u58 u59 u60 u61 u62 u63 u64 u65 u66 u67 u68 u69 u70 u71 u72 u73 u74 u75 u76 u77 u78 u79 u80 u81 u82 u83 u84 u85 u86 u87 u88 u89 u90 u91 u92 u93 u94 u95 u96 u97 u98 u99 u100 u101 u102 u103 u104 u105 u106 u107 u108 u109 u110 u111 u112 u113 u114 u115 u116 u117 u118 u119 u120 u121 u122 u123 u124 u125 u126 u127 u128 u129 u130 u131 u132 u133 u134 u135 u136 u137 u138 u139 u140 u141 u142 u143 u144 u145 u146 u147 u148 u149 u150 u151 u152 u153 u154 u155 u156 u157 u158 u159 u160 u161 u162 u163 u164 u165 u166 u167 u168 u169 u170 u171 u172 u173 u174 u175 u176 u177 u178 u179 u180 u181 u182 u183 u184 u185 u186 u187 u188 u189 u190 u191 u192 u193 u194 u195 u196 u197 u198 u199 u200 u201 u202 u203 u204 u205 u206 u207 u208 u209 u210 u211 u212 u213 u214 u215 u216 u217 u218 u219 u220 u221 u222 u223 u224 u225 u226 u227 u228 u229 u230 u231 u232 u233 u234 qJ qK2 qa3 k K S v L T hkn hk80 hgk hsm hLk wq hlt hlt80 wh fr tn pos xs b off hbw qleft Ab nb cb hncb hi1 hi2 hi3 hi4 hr qa2 hi80 f3 hf3 t3 ht3 qK1 qa1 qK0 qa0 wM hbox hrM K2 hxK hbel hT80 A5 c5 hc5 hA5 hrT hLM q0 q1 q2 q3 q4 HWM hLm hTl1 hTl2 HLT0 hci
  obtain ⟨hwx, hpx⟩ := caseOf_wh (a := 0) (c := 4) hci (by decide)
  clear hci
  have hw4 : wh = 4 := whOf_eq hwx (by decide)
  have hw0 : ¬ wh = 0 := by omega
  have hw1 : ¬ wh = 1 := by omega
  have hw2 : ¬ wh = 2 := by omega
  have hw3 : ¬ wh = 3 := by omega
  have hpn := posOf_neg hpx
  clear hwx hpx
  have hpl : pos < 0 ∨ (L.length : Int) ≤ pos := .inl hpn
  have hpd : decide (0 ≤ pos) = false := decide_eq_false (by omega)
  have e0 : (wh == 0) = false := by rw [beq_eq_false_iff_ne]; omega
  have e1 : (wh == 1) = false := by rw [beq_eq_false_iff_ne]; omega
  have e2 : (wh == 2) = false := by rw [beq_eq_false_iff_ne]; omega
  have e3 : (wh == 3) = false := by rw [beq_eq_false_iff_ne]; omega
  have e4 : (wh == 4) = true := by rw [beq_iff_eq]; omega
  clear hw0 hw1 hw2 hw3 hw4
  have hnone := Deliver_none wM S w.heap.size 4 v L hLM.net.net (by decide) pos hpl
  clear hrT
  go_wp2_with fail
  refine hnone.mono ?_
  rintro e w4 ⟨A4, n4, c4, S9, v9, rfl, hfb4, h4n, h4c, h4s, h4d⟩
  obtain ⟨⟨S4, v4, hL4⟩, hc4⟩ := hLM.next ⟨S9, v9, h4n, h4c, h4s⟩
  have hL5 := hL4.below (allocBelow' w4 (.cells #[.int .i64 0, .int .i64 0, .slice A4 n4 c4, .bool false] TP))
  clear hLM hnone hc4 hL4 h4n h4c h4s h4d hfb4
  have HLINE := Lib.hid hL5
  have HLT := Lib.hid HLT0.out
  go_wp2_with fail
  go_roundg (n - (k + 1))
  case measure => omega
  case rel => exact ⟨k + 1, _, _, _, _, _, by omega, by omega, rfl, by go_num, HLINE.out, hsm, by omega, HLT.out⟩
set_option maxRecDepth 100000 in
set_option maxHeartbeats 16000000 in
theorem trueLeaf5 : cutTrue.1 5 := by
  intro w n c os hc hnm i0 hi0 hz0 hz1 hz2 qQ w1 qK3 qa4 gk u2 u7 u8 u9 u10 u11 u12 u13 u20 u21 u22 u23 u24 u25 u26 u27 u28 u29 u30 u31 u32 u33 u34 u35 u36 u37 u38 u39 u40 u41 u42 u43 u44 u45 u46 u47 u48 u49 u50 u51 u52 u53 u54 u55 u56 u57 u58 u59 u60 u61 u62 u63 u64 u65 u66 u67 u68 u69 u70 u71 u72 u73 u74 u75 u76 u77 u78 u79 u80 u81 u82 u83 u84 u85 u86 u87 u88 u89 u90 u91 u92 u93 u94 u95 u96 u97 u98 u99 u100 u101 u102 u103 u104 u105 u106 u107 u108 u109 u110 u111 u112 u113 u114 u115 u116 u117 u118 u119 u120 u121 u122 u123 u124 u125 u126 u127 u128 u129 u130 u131 u132 u133 u134 u135 u136 u137 u138 u139 u140 u141 u142 u143 u144 u145 u146 u147 u148 u149 u150 u151 u152 u153 u154 u155 u156 u157 u158 u159 u160 u161 u162 u163 u164 u165 u166 u167 u168 u169 u170 u171 u172 u173 u174 u175 u176 u177 u178 u179 u180 u181 u182 u183 u184 u185 u186 u187 u188 u189 u190 u191 u192 u193 u194 u195 u196 u197 u198 u199 u200 u201 u202 u203 u204 u205 u206 u207 u208 u209 u210 u211 u212 u213 u214 u215 u216 u217 u218 u219 u220 u221 u222 u223 u224 u225 u226 u227 u228 u229 u230 u231 u232 u233 u234 qJ qK2 qa3 k K S v L T hkn hk80 hgk hsm hLk wq hlt hlt80 wh fr tn pos xs b off hbw qleft Ab nb cb hncb hi1 hi2 hi3 hi4 hr qa2 hi80 f3 hf3 t3 ht3 qK1 qa1 qK0 qa0 wM hbox hrM K2 hxK hbel hT80 A5 c5 hc5 hA5 hrT hLM q0 q1 q2 q3 q4 HWM hLm hTl1 hTl2 HLT0 hci
  obtain ⟨hwx, hpx⟩ := caseOf_wh (a := 0) (c := 5) hci (by decide)
  clear hci
  have hw5 : wh = 5 := whOf_eq hwx (by decide)
  have hw0 : ¬ wh = 0 := by omega
  have hw1 : ¬ wh = 1 := by omega
  have hw2 : ¬ wh = 2 := by omega
  have hw3 : ¬ wh = 3 := by omega
  have hw4 : ¬ wh = 4 := by omega
  have hpn := posOf_neg hpx
  clear hwx hpx
  have hpl : pos < 0 ∨ (L.length : Int) ≤ pos := .inl hpn
  have hpd : decide (0 ≤ pos) = false := decide_eq_false (by omega)
  have e0 : (wh == 0) = false := by rw [beq_eq_false_iff_ne]; omega
  have e1 : (wh == 1) = false := by rw [beq_eq_false_iff_ne]; omega
  have e2 : (wh == 2) = false := by rw [beq_eq_false_iff_ne]; omega
  have e3 : (wh == 3) = false := by rw [beq_eq_false_iff_ne]; omega
  have e4 : (wh == 4) = false := by rw [beq_eq_false_iff_ne]; omega
  have e5 : (wh == 5) = true := by rw [beq_iff_eq]; omega
  clear hw0 hw1 hw2 hw3 hw4 hw5
  have hnone := Deliver_none wM S w.heap.size 4 v L hLM.net.net (by decide) pos hpl
  clear hrT
  go_wp2_with fail
  refine hnone.mono ?_
  rintro e w4 ⟨A4, n4, c4, S9, v9, rfl, hfb4, h4n, h4c, h4s, h4d⟩
  obtain ⟨⟨S4, v4, hL4⟩, hc4⟩ := hLM.next ⟨S9, v9, h4n, h4c, h4s⟩
  have hL5 := hL4.below (allocBelow' w4 (.cells #[.int .i64 0, .int .i64 0, .slice A4 n4 c4, .bool false] TP))
  clear hLM hnone hc4 hL4 h4n h4c h4s h4d hfb4
  have HLINE := Lib.hid hL5
  have HLT := Lib.hid HLT0.out
  go_wp2_with fail
  go_roundg (n - (k + 1))
  case measure => omega
  case rel => exact ⟨k + 1, _, _, _, _, _, by omega, by omega, rfl, by go_num, HLINE.out, hsm, by omega, HLT.out⟩
set_option maxRecDepth 100000 in
set_option maxHeartbeats 16000000 in
theorem trueLeaf6 : cutTrue.1 6 := by
  intro w n c os hc hnm i0 hi0 hz0 hz1 hz2 qQ w1 qK3 qa4 gk u2 u7 u8 u9 u10 u11 u12 u13 u20 u21 u22 u23 u24 u25 u26 u27 u28 u29 u30 u31 u32 u33 u34 u35 u36 u37 u38 u39 u40 u41 u42 u43 u44 u45 u46 u47 u48 u49 u50 u51 u52 u53 u54 u55 u56 u57 u58 u59 u60 u61 u62 u63 u64 u65 u66 u67 u68 u69 u70 u71 u72 u73 u74 u75 u76 u77 u78 u79 u80 u81 u82 u83 u84 u85 u86 u87 u88 u89 u90 u91 u92 u93 u94 u95 u96 u97 u98 u99 u100 u101 u102 u103 u104 u105 u106 u107 u108 u109 u110 u111 u112 u113 u114 u115 u116 u117 u118 u119 u120 u121 u122 u123 u124 u125 u126 u127 u128 u129 u130 u131 u132 u133 u134 u135 u136 u137 u138 u139 u140 u141 u142 u143 u144 u145 u146 u147 u148 u149 u150 u151 u152 u153 u154 u155 u156 u157 u158 u159 u160 u161 u162 u163 u164 u165 u166 u167 u168 u169 u170 u171 u172 u173 u174 u175 u176 u177 u178 u179 u180 u181 u182 u183 u184 u185 u186 u187 u188 u189 u190 u191 u192 u193 u194 u195 u196 u197 u198 u199 u200 u201 u202 u203 u204 u205 u206 u207 u208 u209 u210 u211 u212 u213 u214 u215 u216 u217 u218 u219 u220 u221 u222 u223 u224 u225 u226 u227 u228 u229 u230 u231 u232 u233 u234 qJ qK2 qa3 k K S v L T hkn hk80 hgk hsm hLk wq hlt hlt80 wh fr tn pos xs b off hbw qleft Ab nb cb hncb hi1 hi2 hi3 hi4 hr qa2 hi80 f3 hf3 t3 ht3 qK1 qa1 qK0 qa0 wM hbox hrM K2 hxK hbel hT80 A5 c5 hc5 hA5 hrT hLM q0 q1 q2 q3 q4 HWM hLm hTl1 hTl2 HLT0 hci
  obtain ⟨hwx, hpx⟩ := caseOf_wh (a := 0) (c := 6) hci (by decide)
  clear hci
  have hw6 : wh = 6 := whOf_eq hwx (by decide)
  have hw0 : ¬ wh = 0 := by omega
  have hw1 : ¬ wh = 1 := by omega
  have hw2 : ¬ wh = 2 := by omega
  have hw3 : ¬ wh = 3 := by omega
  have hw4 : ¬ wh = 4 := by omega
  have hw5 : ¬ wh = 5 := by omega
  have hpn := posOf_neg hpx
  clear hwx hpx
  have hpl : pos < 0 ∨ (L.length : Int) ≤ pos := .inl hpn
  have hpd : decide (0 ≤ pos) = false := decide_eq_false (by omega)
  have e0 : (wh == 0) = false := by rw [beq_eq_false_iff_ne]; omega
  have e1 : (wh == 1) = false := by rw [beq_eq_false_iff_ne]; omega
  have e2 : (wh == 2) = false := by rw [beq_eq_false_iff_ne]; omega
  have e3 : (wh == 3) = false := by rw [beq_eq_false_iff_ne]; omega
  have e4 : (wh == 4) = false := by rw [beq_eq_false_iff_ne]; omega
  have e5 : (wh == 5) = false := by rw [beq_eq_false_iff_ne]; omega
  have e6 : (wh == 6) = true := by rw [beq_iff_eq]; omega
  clear hw0 hw1 hw2 hw3 hw4 hw5 hw6
  have hnone := Drop_none wM S w.heap.size 4 v L hLM.net.net (by decide) pos hpl
  clear hrT
  go_wp2_with fail
  refine hnone.mono ?_
  rintro e w4 ⟨rfl, hr4⟩
  obtain ⟨⟨S4, v4, hL4⟩, hc4⟩ := hLM.next hr4
  obtain ⟨y0, y1, y2, y3, y4⟩ := (hbox.chg hc4 (fun hn => hn hxK)).cells
  clear hLM hr4 hnone hc4
  have hlen := Len_calls _ _ _ _ _ _ hL4.net.net (by decide)
  have hTL : L.length = T.length := by rw [HLT0.out, List.length_map]
  rw [hTL] at hlen
  have HLINE := Lib.hid hL4
  have HLT := Lib.hid HLT0.out
  clear hTL 
  go_wp2_with fail
  refine hlen.mono ?_
  rintro e wE ⟨rfl, rfl⟩
  clear hlen
  go_wp2_with fail
  go_roundg (n - (k + 1))
  case measure => omega
  case rel => exact ⟨k + 1, _, _, _, _, _, by omega, by omega, rfl, by go_num, HLINE.out, hsm, by omega, HLT.out⟩
set_option maxRecDepth 100000 in
set_option maxHeartbeats 16000000 in
theorem trueLeaf7 : cutTrue.1 7 := by
  intro w n c os hc hnm i0 hi0 hz0 hz1 hz2 qQ w1 qK3 qa4 gk u2 u7 u8 u9 u10 u11 u12 u13 u20 u21 u22 u23 u24 u25 u26 u27 u28 u29 u30 u31 u32 u33 u34 u35 u36 u37 u38 u39 u40 u41 u42 u43 u44 u45 u46 u47 u48 u49 u50 u51 u52 u53 u54 u55 u56 u57 u58 u59 u60 u61 u62 u63 u64 u65 u66 u67 u68 u69 u70 u71 u72 u73 u74 u75 u76 u77 u78 u79 u80 u81 u82 u83 u84 u85 u86 u87 u88 u89 u90 u91 u92 u93 u94 u95 u96 u97 u98 u99 u100 u101 u102 u103 u104 u105 u106 u107 u108 u109 u110 u111 u112 u113 u114 u115 u116 u117 u118 u119 u120 u121 u122 u123 u124 u125 u126 u127 u128 u129 u130 u131 u132 u133 u134 u135 u136 u137 u138 u139 u140 u141 u142 u143 u144 u145 u146 u147 u148 u149 u150 u151 u152 u153 u154 u155 u156 u157 u158 u159 u160 u161 u162 u163 u164 u165 u166 u167 u168 u169 u170 u171 u172 u173 u174 u175 u176 u177 u178 u179 u180 u181 u182 u183 u184 u185 u186 u187 u188 u189 u190 u191 u192 u193 u194 u195 u196 u197 u198 u199 u200 u201 u202 u203 u204 u205 u206 u207 u208 u209 u210 u211 u212 u213 u214 u215 u216 u217 u218 u219 u220 u221 u222 u223 u224 u225 u226 u227 u228 u229 u230 u231 u232 u233 u234 qJ qK2 qa3 k K S v L T hkn hk80 hgk hsm hLk wq hlt hlt80 wh fr tn pos xs b off hbw qleft Ab nb cb hncb hi1 hi2 hi3 hi4 hr qa2 hi80 f3 hf3 t3 ht3 qK1 qa1 qK0 qa0 wM hbox hrM K2 hxK hbel hT80 A5 c5 hc5 hA5 hrT hLM q0 q1 q2 q3 q4 HWM hLm hTl1 hTl2 HLT0 hci
  obtain ⟨hwx, hpx⟩ := caseOf_wh (a := 0) (c := 7) hci (by decide)
  clear hci
  have hw7 : wh = 7 := whOf_eq hwx (by decide)
  have hw0 : ¬ wh = 0 := by omega
  have hw1 : ¬ wh = 1 := by omega
  have hw2 : ¬ wh = 2 := by omega
  have hw3 : ¬ wh = 3 := by omega
  have hw4 : ¬ wh = 4 := by omega
  have hw5 : ¬ wh = 5 := by omega
  have hw6 : ¬ wh = 6 := by omega
  have hpn := posOf_neg hpx
  clear hwx hpx
  have hpl : pos < 0 ∨ (L.length : Int) ≤ pos := .inl hpn
  have hpd : decide (0 ≤ pos) = false := decide_eq_false (by omega)
  have e0 : (wh == 0) = false := by rw [beq_eq_false_iff_ne]; omega
  have e1 : (wh == 1) = false := by rw [beq_eq_false_iff_ne]; omega
  have e2 : (wh == 2) = false := by rw [beq_eq_false_iff_ne]; omega
  have e3 : (wh == 3) = false := by rw [beq_eq_false_iff_ne]; omega
  have e4 : (wh == 4) = false := by rw [beq_eq_false_iff_ne]; omega
  have e5 : (wh == 5) = false := by rw [beq_eq_false_iff_ne]; omega
  have e6 : (wh == 6) = false := by rw [beq_eq_false_iff_ne]; omega
  have e7 : (wh == 7) = true := by rw [beq_iff_eq]; omega
  clear hw0 hw1 hw2 hw3 hw4 hw5 hw6 hw7
  have hnone := Double_none wM S w.heap.size 4 v L hLM.net.net (by decide) pos hpl
  clear hrT
  go_wp2_with fail
  refine hnone.mono ?_
  rintro e w4 ⟨rfl, hr4⟩
  obtain ⟨⟨S4, v4, hL4⟩, hc4⟩ := hLM.next hr4
  obtain ⟨y0, y1, y2, y3, y4⟩ := (hbox.chg hc4 (fun hn => hn hxK)).cells
  clear hLM hr4 hnone hc4
  have hlen := Len_calls _ _ _ _ _ _ hL4.net.net (by decide)
  have hTL : L.length = T.length := by rw [HLT0.out, List.length_map]
  rw [hTL] at hlen
  have HLINE := Lib.hid hL4
  have HLT := Lib.hid HLT0.out
  clear hTL 
  go_wp2_with fail
  refine hlen.mono ?_
  rintro e wE ⟨rfl, rfl⟩
  clear hlen
  go_wp2_with fail
  go_roundg (n - (k + 1))
  case measure => omega
  case rel => exact ⟨k + 1, _, _, _, _, _, by omega, by omega, rfl, by go_num, HLINE.out, hsm, by omega, HLT.out⟩
set_option maxRecDepth 100000 in
set_option maxHeartbeats 16000000 in
theorem trueLeaf8 : cutTrue.1 8 := by
  intro w n c os hc hnm i0 hi0 hz0 hz1 hz2 qQ w1 qK3 qa4 gk u2 u7 u8 u9 u10 u11 u12 u13 u20 u21 u22 u23 u24 u25 u26 u27 u28 u29 u30 u31 u32 u33 u34 u35 u36 u37 u38 u39 u40 u41 u42 u43 u44 u45 u46 u47 u48 u49 u50 u51 u52 u53 u54 u55 u56 u57 u58 u59 u60 u61 u62 u63 u64 u65 u66 u67 u68 u69 u70 u71 u72 u73 u74 u75 u76 u77 u78 u79 u80 u81 u82 u83 u84 u85 u86 u87 u88 u89 u90 u91 u92 u93 u94 u95 u96 u97 u98 u99 u100 u101 u102 u103 u104 u105 u106 u107 u108 u109 u110 u111 u112 u113 u114 u115 u116 u117 u118 u119 u120 u121 u122 u123 u124 u125 u126 u127 u128 u129 u130 u131 u132 u133 u134 u135 u136 u137 u138 u139 u140 u141 u142 u143 u144 u145 u146 u147 u148 u149 u150 u151 u152 u153 u154 u155 u156 u157 u158 u159 u160 u161 u162 u163 u164 u165 u166 u167 u168 u169 u170 u171 u172 u173 u174 u175 u176 u177 u178 u179 u180 u181 u182 u183 u184 u185 u186 u187 u188 u189 u190 u191 u192 u193 u194 u195 u196 u197 u198 u199 u200 u201 u202 u203 u204 u205 u206 u207 u208 u209 u210 u211 u212 u213 u214 u215 u216 u217 u218 u219 u220 u221 u222 u223 u224 u225 u226 u227 u228 u229 u230 u231 u232 u233 u234 qJ qK2 qa3 k K S v L T hkn hk80 hgk hsm hLk wq hlt hlt80 wh fr tn pos xs b off hbw qleft Ab nb cb hncb hi1 hi2 hi3 hi4 hr qa2 hi80 f3 hf3 t3 ht3 qK1 qa1 qK0 qa0 wM hbox hrM K2 hxK hbel hT80 A5 c5 hc5 hA5 hrT hLM q0 q1 q2 q3 q4 HWM hLm hTl1 hTl2 HLT0 hci
  obtain ⟨hwx, hpx⟩ := caseOf_wh (a := 0) (c := 8) hci (by decide)
  clear hci
  have hw8 : wh = 8 := whOf_eq hwx (by decide)
  have hw0 : ¬ wh = 0 := by omega
  have hw1 : ¬ wh = 1 := by omega
  have hw2 : ¬ wh = 2 := by omega
  have hw3 : ¬ wh = 3 := by omega
  have hw4 : ¬ wh = 4 := by omega
  have hw5 : ¬ wh = 5 := by omega
  have hw6 : ¬ wh = 6 := by omega
  have hw7 : ¬ wh = 7 := by omega
  have hpn := posOf_neg hpx
  clear hwx hpx
  have hpl : pos < 0 ∨ (L.length : Int) ≤ pos := .inl hpn
  have hpd : decide (0 ≤ pos) = false := decide_eq_false (by omega)
  have e0 : (wh == 0) = false := by rw [beq_eq_false_iff_ne]; omega
  have e1 : (wh == 1) = false := by rw [beq_eq_false_iff_ne]; omega
  have e2 : (wh == 2) = false := by rw [beq_eq_false_iff_ne]; omega
  have e3 : (wh == 3) = false := by rw [beq_eq_false_iff_ne]; omega
  have e4 : (wh == 4) = false := by rw [beq_eq_false_iff_ne]; omega
  have e5 : (wh == 5) = false := by rw [beq_eq_false_iff_ne]; omega
  have e6 : (wh == 6) = false := by rw [beq_eq_false_iff_ne]; omega
  have e7 : (wh == 7) = false := by rw [beq_eq_false_iff_ne]; omega
  have e8 : (wh == 8) = true := by rw [beq_iff_eq]; omega
  clear hw0 hw1 hw2 hw3 hw4 hw5 hw6 hw7 hw8
  have hnone := Corrupt_none wM S w.heap.size 4 v L hLM.net.net (by decide) pos hpl Ab nb cb
  clear hrT
  go_wp2_with fail
  refine hnone.mono ?_
  rintro e w4 ⟨rfl, hr4⟩
  obtain ⟨⟨S4, v4, hL4⟩, hc4⟩ := hLM.next hr4
  obtain ⟨y0, y1, y2, y3, y4⟩ := (hbox.chg hc4 (fun hn => hn hxK)).cells
  clear hLM hr4 hnone hc4
  have hlen := Len_calls _ _ _ _ _ _ hL4.net.net (by decide)
  have hTL : L.length = T.length := by rw [HLT0.out, List.length_map]
  rw [hTL] at hlen
  have HLINE := Lib.hid hL4
  have HLT := Lib.hid HLT0.out
  clear hTL 
  go_wp2_with fail
  refine hlen.mono ?_
  rintro e wE ⟨rfl, rfl⟩
  clear hlen
  go_wp2_with fail
  go_roundg (n - (k + 1))
  case measure => omega
  case rel => exact ⟨k + 1, _, _, _, _, _, by omega, by omega, rfl, by go_num, HLINE.out, hsm, by omega, HLT.out⟩
set_option maxRecDepth 100000 in
set_option maxHeartbeats 16000000 in
theorem trueLeaf16 : cutTrue.1 16 := by
  intro w n c os hc hnm i0 hi0 hz0 hz1 hz2 qQ w1 qK3 qa4 gk u2 u7 u8 u9 u10 u11 u12 u13 u20 u21 u22 u23 u24 u25 u26 u27 u28 u29 u30 u31 u32 u33 u34 u35 u36 u37 u38 u39 u40 u41 u42 u43 u44 u45 u46 u47 u48 u49 u50 u51 u52 u53 u54 u55 u56 u57 u58 u59 u60 u61 u62 u63 u64 u65 u66 u67 u68 u69 u70 u71 u72 u73 u74 u75 u76 u77 u78 u79 u80 u81 u82 u83 u84 u85 u86 u87 u88 u89 u90 u91 u92 u93 u94 u95 u96 u97 u98 u99 u100 u101 u102 u103 u104 u105 u106 u107 u108 u109 u110 u111 u112 u113 u114 u115 u116 u117 u118 u119 u120 u121 u122 u123 u124 u125 u126 u127 u128 u129 u130 u131 u132 u133 u134 u135 u136 u137 u138 u139 u140 u141 u142 u143 u144 u145 u146 u147 u148 u149 u150 u151 u152 u153 u154 u155 u156 u157 u158 u159 u160 u161 u162 u163 u164 u165 u166 u167 u168 u169 u170 u171 u172 u173 u174 u175 u176 u177 u178 u179 u180 u181 u182 u183 u184 u185 u186 u187 u188 u189 u190 u191 u192 u193 u194 u195 u196 u197 u198 u199 u200 u201 u202 u203 u204 u205 u206 u207 u208 u209 u210 u211 u212 u213 u214 u215 u216 u217 u218 u219 u220 u221 u222 u223 u224 u225 u226 u227 u228 u229 u230 u231 u232 u233 u234 qJ qK2 qa3 k K S v L T hkn hk80 hgk hsm hLk wq hlt hlt80 wh fr tn pos xs b off hbw qleft Ab nb cb hncb hi1 hi2 hi3 hi4 hr qa2 hi80 f3 hf3 t3 ht3 qK1 qa1 qK0 qa0 wM hbox hrM K2 hxK hbel hT80 A5 c5 hc5 hA5 hrT hLM q0 q1 q2 q3 q4 HWM hLm hTl1 hTl2 HLT0 hci
  obtain ⟨hwx, hpx⟩ := caseOf_wh (a := 1) (c := 6) hci (by decide)
  clear hci
  have hw6 : wh = 6 := whOf_eq hwx (by decide)
  have hw0 : ¬ wh = 0 := by omega
  have hw1 : ¬ wh = 1 := by omega
  have hw2 : ¬ wh = 2 := by omega
  have hw3 : ¬ wh = 3 := by omega
  have hw4 : ¬ wh = 4 := by omega
  have hw5 : ¬ wh = 5 := by omega
  obtain ⟨hpg, hpb⟩ := posOf_big hpx
  clear hwx hpx
  have hpl : pos < 0 ∨ (L.length : Int) ≤ pos := .inr (by omega)
  have hpg2 : pos ≥ 0 := hpg
  have hpb2 : ¬ (pos < (T.length : Int)) := by omega
  have e0 : (wh == 0) = false := by rw [beq_eq_false_iff_ne]; omega
  have e1 : (wh == 1) = false := by rw [beq_eq_false_iff_ne]; omega
  have e2 : (wh == 2) = false := by rw [beq_eq_false_iff_ne]; omega
  have e3 : (wh == 3) = false := by rw [beq_eq_false_iff_ne]; omega
  have e4 : (wh == 4) = false := by rw [beq_eq_false_iff_ne]; omega
  have e5 : (wh == 5) = false := by rw [beq_eq_false_iff_ne]; omega
  have e6 : (wh == 6) = true := by rw [beq_iff_eq]; omega
  clear hw0 hw1 hw2 hw3 hw4 hw5 hw6
  have hnone := Drop_none wM S w.heap.size 4 v L hLM.net.net (by decide) pos hpl
  clear hrT
  go_wp2_with fail
  refine hnone.mono ?_
  rintro e w4 ⟨rfl, hr4⟩
  obtain ⟨⟨S4, v4, hL4⟩, hc4⟩ := hLM.next hr4
  obtain ⟨y0, y1, y2, y3, y4⟩ := (hbox.chg hc4 (fun hn => hn hxK)).cells
  clear hLM hr4 hnone hc4
  have hlen := Len_calls _ _ _ _ _ _ hL4.net.net (by decide)
  have hTL : L.length = T.length := by rw [HLT0.out, List.length_map]
  rw [hTL] at hlen
  have HLINE := Lib.hid hL4
  have HLT := Lib.hid HLT0.out
  clear hTL 
  go_wp2_with fail
  refine hlen.mono ?_
  rintro e wE ⟨rfl, rfl⟩
  clear hlen
  go_wp2_with fail
  go_roundg (n - (k + 1))
  case measure => omega
  case rel => exact ⟨k + 1, _, _, _, _, _, by omega, by omega, rfl, by go_num, HLINE.out, hsm, by omega, HLT.out⟩
set_option maxRecDepth 100000 in
set_option maxHeartbeats 16000000 in
theorem trueLeaf17 : cutTrue.1 17 := by
  intro w n c os hc hnm i0 hi0 hz0 hz1 hz2 qQ w1 qK3 qa4 gk u2 u7 u8 u9 u10 u11 u12 u13 u20 u21 u22 u23 u24 u25 u26 u27 u28 u29 u30 u31 u32 u33 u34 u35 u36 u37 u38 u39 u40 u41 u42 u43 u44 u45 u46 u47 u48 u49 u50 u51 u52 u53 u54 u55 u56 u57 u58 u59 u60 u61 u62 u63 u64 u65 u66 u67 u68 u69 u70 u71 u72 u73 u74 u75 u76 u77 u78 u79 u80 u81 u82 u83 u84 u85 u86 u87 u88 u89 u90 u91 u92 u93 u94 u95 u96 u97 u98 u99 u100 u101 u102 u103 u104 u105 u106 u107 u108 u109 u110 u111 u112 u113 u114 u115 u116 u117 u118 u119 u120 u121 u122 u123 u124 u125 u126 u127 u128 u129 u130 u131 u132 u133 u134 u135 u136 u137 u138 u139 u140 u141 u142 u143 u144 u145 u146 u147 u148 u149 u150 u151 u152 u153 u154 u155 u156 u157 u158 u159 u160 u161 u162 u163 u164 u165 u166 u167 u168 u169 u170 u171 u172 u173 u174 u175 u176 u177 u178 u179 u180 u181 u182 u183 u184 u185 u186 u187 u188 u189 u190 u191 u192 u193 u194 u195 u196 u197 u198 u199 u200 u201 u202 u203 u204 u205 u206 u207 u208 u209 u210 u211 u212 u213 u214 u215 u216 u217 u218 u219 u220 u221 u222 u223 u224 u225 u226 u227 u228 u229 u230 u231 u232 u233 u234 qJ qK2 qa3 k K S v L T hkn hk80 hgk hsm hLk wq hlt hlt80 wh fr tn pos xs b off hbw qleft Ab nb cb hncb hi1 hi2 hi3 hi4 hr qa2 hi80 f3 hf3 t3 ht3 qK1 qa1 qK0 qa0 wM hbox hrM K2 hxK hbel hT80 A5 c5 hc5 hA5 hrT hLM q0 q1 q2 q3 q4 HWM hLm hTl1 hTl2 HLT0 hci
  obtain ⟨hwx, hpx⟩ := caseOf_wh (a := 1) (c := 7) hci (by decide)
  clear hci
  have hw7 : wh = 7 := whOf_eq hwx (by decide)
  have hw0 : ¬ wh = 0 := by omega
  have hw1 : ¬ wh = 1 := by omega
  have hw2 : ¬ wh = 2 := by omega
  have hw3 : ¬ wh = 3 := by omega
  have hw4 : ¬ wh = 4 := by omega
  have hw5 : ¬ wh = 5 := by omega
  have hw6 : ¬ wh = 6 := by omega
  obtain ⟨hpg, hpb⟩ := posOf_big hpx
  clear hwx hpx
  have hpl : pos < 0 ∨ (L.length : Int) ≤ pos := .inr (by omega)
  have hpg2 : pos ≥ 0 := hpg
  have hpb2 : ¬ (pos < (T.length : Int)) := by omega
  have e0 : (wh == 0) = false := by rw [beq_eq_false_iff_ne]; omega
  have e1 : (wh == 1) = false := by rw [beq_eq_false_iff_ne]; omega
  have e2 : (wh == 2) = false := by rw [beq_eq_false_iff_ne]; omega
  have e3 : (wh == 3) = false := by rw [beq_eq_false_iff_ne]; omega
  have e4 : (wh == 4) = false := by rw [beq_eq_false_iff_ne]; omega
  have e5 : (wh == 5) = false := by rw [beq_eq_false_iff_ne]; omega
  have e6 : (wh == 6) = false := by rw [beq_eq_false_iff_ne]; omega
  have e7 : (wh == 7) = true := by rw [beq_iff_eq]; omega
  clear hw0 hw1 hw2 hw3 hw4 hw5 hw6 hw7
  have hnone := Double_none wM S w.heap.size 4 v L hLM.net.net (by decide) pos hpl
  clear hrT
  go_wp2_with fail
  refine hnone.mono ?_
  rintro e w4 ⟨rfl, hr4⟩
  obtain ⟨⟨S4, v4, hL4⟩, hc4⟩ := hLM.next hr4
  obtain ⟨y0, y1, y2, y3, y4⟩ := (hbox.chg hc4 (fun hn => hn hxK)).cells
  clear hLM hr4 hnone hc4
  have hlen := Len_calls _ _ _ _ _ _ hL4.net.net (by decide)
  have hTL : L.length = T.length := by rw [HLT0.out, List.length_map]
  rw [hTL] at hlen
  have HLINE := Lib.hid hL4
  have HLT := Lib.hid HLT0.out
  clear hTL 
  go_wp2_with fail
  refine hlen.mono ?_
  rintro e wE ⟨rfl, rfl⟩
  clear hlen
  go_wp2_with fail
  go_roundg (n - (k + 1))
  case measure => omega
  case rel => exact ⟨k + 1, _, _, _, _, _, by omega, by omega, rfl, by go_num, HLINE.out, hsm, by omega, HLT.out⟩
set_option maxRecDepth 100000 in
set_option maxHeartbeats 16000000 in
theorem trueLeaf18 : cutTrue.1 18 := by
  intro w n c os hc hnm i0 hi0 hz0 hz1 hz2 qQ w1 qK3 qa4 gk u2 u7 u8 u9 u10 u11 u12 u13 u20 u21 u22 u23 u24 u25 u26 u27 u28 u29 u30 u31 u32 u33 u34 u35 u36 u37 u38 u39 u40 u41 u42 u43 u44 u45 u46 u47 u48 u49 u50 u51 u52 u53 u54 u55 u56 u57 u58 u59 u60 u61 u62 u63 u64 u65 u66 u67 u68 u69 u70 u71 u72 u73 u74 u75 u76 u77 u78 u79 u80 u81 u82 u83 u84 u85 u86 u87 u88 u89 u90 u91 u92 u93 u94 u95 u96 u97 u98 u99 u100 u101 u102 u103 u104 u105 u106 u107 u108 u109 u110 u111 u112 u113 u114 u115 u116 u117 u118 u119 u120 u121 u122 u123 u124 u125 u126 u127 u128 u129 u130 u131 u132 u133 u134 u135 u136 u137 u138 u139 u140 u141 u142 u143 u144 u145 u146 u147 u148 u149 u150 u151 u152 u153 u154 u155 u156 u157 u158 u159 u160 u161 u162 u163 u164 u165 u166 u167 u168 u169 u170 u171 u172 u173 u174 u175 u176 u177 u178 u179 u180 u181 u182 u183 u184 u185 u186 u187 u188 u189 u190 u191 u192 u193 u194 u195 u196 u197 u198 u199 u200 u201 u202 u203 u204 u205 u206 u207 u208 u209 u210 u211 u212 u213 u214 u215 u216 u217 u218 u219 u220 u221 u222 u223 u224 u225 u226 u227 u228 u229 u230 u231 u232 u233 u234 qJ qK2 qa3 k K S v L T hkn hk80 hgk hsm hLk wq hlt hlt80 wh fr tn pos xs b off hbw qleft Ab nb cb hncb hi1 hi2 hi3 hi4 hr qa2 hi80 f3 hf3 t3 ht3 qK1 qa1 qK0 qa0 wM hbox hrM K2 hxK hbel hT80 A5 c5 hc5 hA5 hrT hLM q0 q1 q2 q3 q4 HWM hLm hTl1 hTl2 HLT0 hci
  obtain ⟨hwx, hpx⟩ := caseOf_wh (a := 1) (c := 8) hci (by decide)
  clear hci
  have hw8 : wh = 8 := whOf_eq hwx (by decide)
  have hw0 : ¬ wh = 0 := by omega
  have hw1 : ¬ wh = 1 := by omega
  have hw2 : ¬ wh = 2 := by omega
  have hw3 : ¬ wh = 3 := by omega
  have hw4 : ¬ wh = 4 := by omega
  have hw5 : ¬ wh = 5 := by omega
  have hw6 : ¬ wh = 6 := by omega
  have hw7 : ¬ wh = 7 := by omega
  obtain ⟨hpg, hpb⟩ := posOf_big hpx
  clear hwx hpx
  have hpl : pos < 0 ∨ (L.length : Int) ≤ pos := .inr (by omega)
  have hpg2 : pos ≥ 0 := hpg
  have hpb2 : ¬ (pos < (T.length : Int)) := by omega
  have e0 : (wh == 0) = false := by rw [beq_eq_false_iff_ne]; omega
  have e1 : (wh == 1) = false := by rw [beq_eq_false_iff_ne]; omega
  have e2 : (wh == 2) = false := by rw [beq_eq_false_iff_ne]; omega
  have e3 : (wh == 3) = false := by rw [beq_eq_false_iff_ne]; omega
  have e4 : (wh == 4) = false := by rw [beq_eq_false_iff_ne]; omega
  have e5 : (wh == 5) = false := by rw [beq_eq_false_iff_ne]; omega
  have e6 : (wh == 6) = false := by rw [beq_eq_false_iff_ne]; omega
  have e7 : (wh == 7) = false := by rw [beq_eq_false_iff_ne]; omega
  have e8 : (wh == 8) = true := by rw [beq_iff_eq]; omega
  clear hw0 hw1 hw2 hw3 hw4 hw5 hw6 hw7 hw8
  have hnone := Corrupt_none wM S w.heap.size 4 v L hLM.net.net (by decide) pos hpl Ab nb cb
  clear hrT
  go_wp2_with fail
  refine hnone.mono ?_
  rintro e w4 ⟨rfl, hr4⟩
  obtain ⟨⟨S4, v4, hL4⟩, hc4⟩ := hLM.next hr4
  obtain ⟨y0, y1, y2, y3, y4⟩ := (hbox.chg hc4 (fun hn => hn hxK)).cells
  clear hLM hr4 hnone hc4
  have hlen := Len_calls _ _ _ _ _ _ hL4.net.net (by decide)
  have hTL : L.length = T.length := by rw [HLT0.out, List.length_map]
  rw [hTL] at hlen
  have HLINE := Lib.hid hL4
  have HLT := Lib.hid HLT0.out
  clear hTL 
  go_wp2_with fail
  refine hlen.mono ?_
  rintro e wE ⟨rfl, rfl⟩
  clear hlen
  go_wp2_with fail
  go_roundg (n - (k + 1))
  case measure => omega
  case rel => exact ⟨k + 1, _, _, _, _, _, by omega, by omega, rfl, by go_num, HLINE.out, hsm, by omega, HLT.out⟩
end Go.Proofs.Ytmkmbnfmmibifaa
