/-
  The walk of NetTrue, joined out of its cases.
-/
import Derived.Test.YtmkmbnfmmibifaaNetCutB
import Derived.Test.YtmkmbnfmmibifaaNetCutC
import Derived.Test.YtmkmbnfmmibifaaNetCutD
import Derived.Test.YtmkmbnfmmibifaaNetCutE
import Derived.Test.YtmkmbnfmmibifaaNetCutF
import Derived.Test.YtmkmbnfmmibifaaNetCutG
namespace Go.Proofs.Ytmkmbnfmmibifaa
open Go.RowKit

theorem caseOf_lt (wh pos : Int) (m : Nat) : caseOf wh pos m < 30 := by
  have h1 := whOf_le wh
  have h2 := posOf_le pos m
  unfold caseOf
  omega
theorem trueLeafO (i : Nat) : cutTrue.1 (i + 30) := by
  intro w n c os hc hnm i0 hi0 hz0 hz1 hz2 qQ w1 qK3 qa4 gk u2 u7 u8 u9 u10 u11 u12 u13 u20 u21 u22 u23 u24 u25 u26 u27 u28 u29 u30 u31 u32 u33 u34 u35 u36 u37 u38 u39 u40 u41 u42 u43 u44 u45 u46 u47 u48 u49 u50 u51 u52 u53 u54 u55 u56 u57 u58 u59 u60 u61 u62 u63 u64 u65 u66 u67 u68 u69 u70 u71 u72 u73 u74 u75 u76 u77 u78 u79 u80 u81 u82 u83 u84 u85 u86 u87 u88 u89 u90 u91 u92 u93 u94 u95 u96 u97 u98 u99 u100 u101 u102 u103 u104 u105 u106 u107 u108 u109 u110 u111 u112 u113 u114 u115 u116 u117 u118 u119 u120 u121 u122 u123 u124 u125 u126 u127 u128 u129 u130 u131 u132 u133 u134 u135 u136 u137 u138 u139 u140 u141 u142 u143 u144 u145 u146 u147 u148 u149 u150 u151 u152 u153 u154 u155 u156 u157 u158 u159 u160 u161 u162 u163 u164 u165 u166 u167 u168 u169 u170 u171 u172 u173 u174 u175 u176 u177 u178 u179 u180 u181 u182 u183 u184 u185 u186 u187 u188 u189 u190 u191 u192 u193 u194 u195 u196 u197 u198 u199 u200 u201 u202 u203 u204 u205 u206 u207 u208 u209 u210 u211 u212 u213 u214 u215 u216 u217 u218 u219 u220 u221 u222 u223 u224 u225 u226 u227 u228 u229 u230 u231 u232 u233 u234 qJ qK2 qa3 k K S v L T hkn hk80 hgk hsm hLk wq hlt hlt80 wh fr tn pos xs b off hbw qleft Ab nb cb hncb hi1 hi2 hi3 hi4 hr qa2 hi80 f3 hf3 t3 ht3 qK1 qa1 qK0 qa0 wM hbox hrM K2 hxK hbel hT80 A5 c5 hc5 hA5 hrT hLM q0 q1 q2 q3 q4 HWM hLm hTl1 hTl2 HLT0 hci
  have := caseOf_lt wh pos T.length
  omega
theorem trueLeafs : ∀ i, cutTrue.1 i
  | 0 => trueLeaf0
  | 1 => trueLeaf1
  | 2 => trueLeaf2
  | 3 => trueLeaf3
  | 4 => trueLeaf4
  | 5 => trueLeaf5
  | 6 => trueLeaf6
  | 7 => trueLeaf7
  | 8 => trueLeaf8
  | 9 => trueLeaf9
  | 10 => trueLeaf10
  | 11 => trueLeaf11
  | 12 => trueLeaf12
  | 13 => trueLeaf13
  | 14 => trueLeaf14
  | 15 => trueLeaf15
  | 16 => trueLeaf16
  | 17 => trueLeaf17
  | 18 => trueLeaf18
  | 19 => trueLeaf19
  | 20 => trueLeaf20
  | 21 => trueLeaf21
  | 22 => trueLeaf22
  | 23 => trueLeaf23
  | 24 => trueLeaf24
  | 25 => trueLeaf25
  | 26 => trueLeaf26
  | 27 => trueLeaf27
  | 28 => trueLeaf28
  | 29 => trueLeaf29
  | i + 30 => trueLeafO i
theorem netTrue_walk (w : World) (A : Option Addr) (n c : Nat) (os : List Opr) (hr : Rd elOp w (fun k => k < w.heap.size) A n os) (hc : n ≤ c) :
    Calls Try.prog 3 #[.slice A n c] w fun e w' => e = .returned (.bool true) ∧ Below w.heap.size w w' := cutTrue.2 trueLeafs w A n c os hr hc
end Go.Proofs.Ytmkmbnfmmibifaa
