/-
  The walk of NetTrue.
-/
import Derived.Test.YtmkmbnfmmibifaaNetT
import Derived.Test.YtmkmbnfmmibifaaNetO
import Derived.Deep.CutBlock
import Derived.Deep.LoopGhost
namespace Go.Proofs.Ytmkmbnfmmibifaa
open Go.RowKit


theorem Rd.belowQ {α : Type} {E : El α} {w W : World} {A : Option Addr} {n : Nat} {xs : List α} (h : Rd E w (fun k => k < w.heap.size) A n xs) (hb : Below w.heap.size w W) : Rd E W (fun k => k < w.heap.size) A n xs := h.keep hb.size fun k hk _ => hb.block k hk
theorem build33 (wh f3 t3 pos : Int) (A : Option Addr) (n c : Nat) (W : World) : (Instr.build 33 #[(0, .agg #[.int .i64 wh, .int .i64 f3, .int .i64 t3, .int .i64 pos, .slice A n c]), (2, .bool true)]).run Try.prog W = .ok (.agg #[.int .i64 wh, .int .i64 f3, .int .i64 t3, .int .i64 pos, .slice A n c, .slice none 0 0, .bool true]) W := by kernel_rfl
theorem wpList_build_run {P : Program} {ops : Array Oper} {rest : List Oper} {o : Oper} {a : Act} {Q : Exit → Act → World → Prop} {W : World} (hgd : Region.wanted o (yielded ops a.tmps) = true) (T : TypeId) (i j : Nat) (x y : Operand)
    (ho : o.op = .build T #[(i, x), (j, y)]) (u v r : Value) (hx : a.eval x = u) (hy : a.eval y = v) (hr : (Instr.build T #[(i, u), (j, v)]).run P W = .ok r W)
    (h : wpList P ops Q rest (a.put o.dst r) W) : wpList P ops Q (o :: rest) a W := by
  refine wpList_wanted hgd fun G hG => ?_
  unfold Oper.wp execOp
  simp only [ho, Sem.run_bind, Sem.run_pure, Result.andThen_ok, List.map_toArray, List.map_cons, List.map_nil, hx, hy, hr]
  exact hG _ _ h
theorem wpList_bslice_run {P : Program} {ops : Array Oper} {rest : List Oper} {o : Oper} {a : Act} {Q : Exit → Act → World → Prop} {W W1 : World} (hgd : Region.wanted o (yielded ops a.tmps) = true) (T : TypeId) (n i : Nat) (x : Operand)
    (ho : o.op = .buildSlice T n #[(i, x)]) (u r : Value) (hx : a.eval x = u) (hr : (Instr.buildSlice T n #[(i, u)]).run P W = .ok r W1)
    (h : wpList P ops Q rest (a.put o.dst r) W1) : wpList P ops Q (o :: rest) a W := by
  refine wpList_wanted hgd fun G hG => ?_
  unfold Oper.wp execOp
  simp only [ho, Sem.run_bind, Sem.run_pure, Result.andThen_ok, List.map_toArray, List.map_cons, List.map_nil, hx, hr]
  exact hG _ _ h
theorem bslice33 (wh f3 t3 pos : Int) (A : Option Addr) (n c : Nat) (W : World) : (Instr.buildSlice 27 1 #[(0, .agg #[.int .i64 wh, .int .i64 f3, .int .i64 t3, .int .i64 pos, .slice A n c, .slice none 0 0, .bool true])]).run Try.prog W = .ok (.slice (some ⟨W.heap.size, 0, none⟩) 1 1) (W.alloc (.cells #[.int .i64 wh, .int .i64 f3, .int .i64 t3, .int .i64 pos, .slice A n c, .slice none 0 0, .bool true] 33)) := by kernel_rfl
theorem stepRun {P : Program} {ops : Array Oper} {o : Oper} {a : Act} {Q : Exit → Act → World → Prop} {G : Act → World → Prop} {X : Prop} {W W1 : World} (hgd : o.guard = none) (s y : Operand) (st : TypeId)
    (ho : o.op = .call { callee := .builtin .append, args := #[s, y], argTypes := #[st, st] }) (v yv v1 : Value) (hs : a.eval s = v) (hy : a.eval y = yv) (hr : (Builtin.append_ #[st, st] o.type #[v, yv]).run P W = .ok v1 W1)
    (h : G (a.put o.dst v1) W1) : if Region.wanted o (yielded ops a.tmps) = true then Oper.wp P o a W G Q else X := by
  have hw : Region.wanted o (yielded ops a.tmps) = true := by simp [Region.wanted, hgd]
  rw [if_pos hw]
  unfold Oper.wp execOp
  simp only [ho, resolve, invoke, builtin, Sem.run_bind, Sem.run_pure, Result.andThen_ok, List.map_toArray, List.map_cons, List.map_nil, hs, hy, hr]
  exact h
theorem wpList_list_run {P : Program} {ops : Array Oper} {rest : List Oper} {o : Oper} {a : Act} {Q : Exit → Act → World → Prop} {W W1 : World} {v yv v1 : Value} (hgd : Region.wanted o (yielded ops a.tmps) = true) (s y : Operand) (st : TypeId)
    (ho : o.op = .call { callee := .builtin .append, args := #[s, y], argTypes := #[st, st] }) (hs : a.eval s = v) (hy : a.eval y = yv) (hr : (Builtin.append_ #[st, st] o.type #[v, yv]).run P W = .ok v1 W1)
    (h : wpList P ops Q rest (a.put o.dst v1) W1) : wpList P ops Q (o :: rest) a W := by
  refine wpList_wanted hgd fun G hG => ?_
  unfold Oper.wp execOp
  simp only [ho, resolve, invoke, builtin, Sem.run_bind, Sem.run_pure, Result.andThen_ok, List.map_toArray, List.map_cons, List.map_nil, hs, hy, hr]
  exact hG _ _ h
/-- Which case of NetTrue's round. -/
def whOf (wh : Int) : Nat := if wh = 0 then 0 else if wh = 1 then 1 else if wh = 2 then 2 else if wh = 3 then 3 else if wh = 4 then 4 else if wh = 5 then 5 else if wh = 6 then 6 else if wh = 7 then 7 else if wh = 8 then 8 else 9
def posOf (pos : Int) (m : Nat) : Nat := if pos < 0 then 0 else if (m : Int) ≤ pos then 1 else 2
def caseOf (wh pos : Int) (m : Nat) : Nat := 10 * posOf pos m + whOf wh
theorem whOf_le (wh : Int) : whOf wh ≤ 9 := by
  unfold whOf
  (repeat' split) <;> omega
theorem posOf_le (pos : Int) (m : Nat) : posOf pos m ≤ 2 := by
  unfold posOf
  (repeat' split) <;> omega
theorem caseOf_wh {wh pos : Int} {m a c : Nat} (h : caseOf wh pos m = 10 * a + c) (hc : c ≤ 9) : whOf wh = c ∧ posOf pos m = a := by
  have := whOf_le wh
  unfold caseOf at h
  omega
theorem whOf_eq {wh : Int} {c : Nat} (h : whOf wh = c) (hc : c ≤ 8) : wh = (c : Int) := by
  unfold whOf at h
  repeat' split at h
  all_goals omega
theorem whOf_else {wh : Int} (h : whOf wh = 9) : ¬ wh = 0 ∧ ¬ wh = 1 ∧ ¬ wh = 2 ∧ ¬ wh = 3 ∧ ¬ wh = 4 ∧ ¬ wh = 5 ∧ ¬ wh = 6 ∧ ¬ wh = 7 ∧ ¬ wh = 8 := by
  unfold whOf at h
  repeat' split at h
  all_goals first | omega | (refine ⟨?_, ?_, ?_, ?_, ?_, ?_, ?_, ?_, ?_⟩ <;> assumption)
theorem posOf_neg {pos : Int} {m : Nat} (h : posOf pos m = 0) : pos < 0 := by
  unfold posOf at h
  repeat' split at h
  all_goals omega
theorem posOf_big {pos : Int} {m : Nat} (h : posOf pos m = 1) : 0 ≤ pos ∧ (m : Int) ≤ pos := by
  unfold posOf at h
  repeat' split at h
  all_goals omega
theorem posOf_there {pos : Int} {m : Nat} (h : posOf pos m = 2) : 0 ≤ pos ∧ pos < (m : Int) := by
  unfold posOf at h
  repeat' split at h
  all_goals omega
def NTSaid : Prop := ∀ (w : World) (A : Option Addr) (n c : Nat) (os : List Opr), Rd elOp w (fun k => k < w.heap.size) A n os → n ≤ c →
    Calls Try.prog 3 #[.slice A n c] w fun e w' => e = .returned (.bool true) ∧ Below w.heap.size w w'
set_option maxRecDepth 100000 in
set_option maxHeartbeats 16000000 in
noncomputable def cutTrue : PSigma fun p : Nat → Prop => (∀ i, p i) → NTSaid := by
  apply PSigma.mk
  case snd =>
    intro hp w A n c os hr hc
    have hnm := hr.max
    obtain ⟨i0, hi0, hzz⟩ := Option.map_eq_some_iff.1 info_tr
    simp only [Prod.mk.injEq] at hzz
    obtain ⟨hz0, hz1, hz2⟩ := hzz
    go_enter Try.func3, Try.ntmps3
    go_wp2_with fail
    refine (New_calls w 4 (by decide) (by decide)).mono ?_
    rintro e w1 ⟨rfl, hn1, hb1⟩
    have hO : Line w w1 (fun k => k < w.heap.size) (fun k => k = w.heap.size) w.heap.size (.slice none 0 0) [] (.slice none 0 0) [] :=
      ⟨⟨hn1, fun k hk => by omega, fun k hk => ⟨Nat.lt_of_lt_of_le hk hb1.size, by omega⟩, hb1⟩, Keep.nil _ _ _ _ _, fun q hq => hq⟩
    clear hn1 hb1
    go_wp2_with fail
    go_loopg [5, 6] n (fun g s5 s6 wr => ∃ (k : Nat) (K S : Nat → Prop) (v : Value) (L : List Par) (T : List Tr), k ≤ n ∧ k ≤ 80 ∧ g = n - k ∧ s6 = .int .i64 (k : Int) ∧ Line w wr K S w.heap.size v L s5 T ∧
      Small L ∧ L.length ≤ k ∧ L = T.map parOf)
    case atStart => exact ⟨0, _, _, _, [], [], Nat.zero_le _, by omega, by omega, rfl, hO, fun p hp => (by cases hp), Nat.le_refl _, rfl⟩
    case round =>
      clear hO
      obtain ⟨k, K, S, v, L, T, hkn, hk80, hgk, rfl, hLn, hsm, hLk, hLT⟩ := hrel
      obtain ⟨wq, hwq⟩ : ∃ wq, wq = wr := ⟨_, rfl⟩
      subst hwq
      by_cases hgo : k < n ∧ k < 80
      · obtain ⟨hlt, hlt80⟩ := hgo
        obtain ⟨o, ho⟩ : ∃ o, os[k]? = some o := ⟨_, List.getElem?_eq_getElem (by rw [hr.len]; exact hlt)⟩
        obtain ⟨wh, fr, tn, pos, xs⟩ := o
        obtain ⟨b, off, vs, hA, hbw, _, hV, hcl⟩ := (hr.belowQ hLn.net.bel).at_ k _ ho
        obtain ⟨Ab, nb, cb, rfl, hncb, hi1, hi2, hi3, hi4, hrb⟩ := op_open hV
        subst hA
        have k0 : wq.cell? ⟨b, off + k * 5, none⟩ = some (.int .i64 wh) := hcl 0 _ rfl
        have k1 : wq.cell? ⟨b, off + k * 5 + 1, none⟩ = some (.int .i64 fr) := hcl 1 _ rfl
        have k2 : wq.cell? ⟨b, off + k * 5 + 2, none⟩ = some (.int .i64 tn) := hcl 2 _ rfl
        have k3 : wq.cell? ⟨b, off + k * 5 + 3, none⟩ = some (.int .i64 pos) := hcl 3 _ rfl
        have k4 : wq.cell? ⟨b, off + k * 5 + 4, none⟩ = some (.slice Ab nb cb) := hcl 4 _ rfl
        have hi80 : (k : Int) < 80 := by omega
        obtain ⟨f3, hf3, hfe⟩ := mask3 fr
        obtain ⟨t3, ht3, hte⟩ := mask3 tn
        go_upto_region 10 with (fail)
        obtain ⟨wM, hwM⟩ : ∃ wM, wq.alloc (.cells #[.int .i64 wh, .int .i64 (f3 : Int), .int .i64 (t3 : Int), .int .i64 pos, .slice Ab nb cb] 30) = wM := ⟨_, rfl⟩
        have hbM : Below wq.heap.size wq wM := by rw [← hwM]; exact allocBelow' _ _
        have hbox : BoxQ wM wq.heap.size wh f3 t3 pos (.slice Ab nb cb) := by rw [← hwM]; exact BoxQ.made _ _ _ _ _ _
        have hLM := hLn.made hbM
        have hxK : (fun q => K q ∨ New wq wM q) wq.heap.size := .inr ⟨Nat.le_refl _, hbox.lt⟩
        have hrM : RdB wM (fun q => q < w.heap.size) Ab nb xs := hrb.below hbM
        obtain ⟨K2, hK2⟩ : ∃ K2, K2 = (fun q => K q ∨ New wq wM q) := ⟨_, rfl⟩
        rw [← hK2] at hLM hxK
        have hbel := hLM.net.bel
        have hTl : T.length = L.length := by rw [hLT, List.length_map]
        have hT80 : T.length ≤ 80 := by omega
        obtain ⟨A5, c5, e5, hc5, hA5, hrT⟩ := hLM.row.rd (by omega)
        subst e5
        obtain ⟨q0, q1, q2, q3, q4⟩ := hbox.cells
        have HWM := Lib.hid hwM
        have hLm : L.length ≤ 80 := by omega
        have hTl1 : T.length ≤ L.length := by omega
        have hTl2 : L.length ≤ T.length := by omega
        have HLT0 := Lib.hid hLT
        clear hTl hLT
        clear hK2 hwM hLn hrb k0 k1 k2 k3 k4 hV hcl ho hbM hfe hte
        rw [HWM.out]
        obtain ⟨ci, hci⟩ : ∃ ci, caseOf wh pos T.length = ci := ⟨_, rfl⟩
        rename_i qQ qK3 qa4 qJ qK2 qa3 qleft qa2 qK1 qa1 qK0 qa0
        revert w n c os hc hnm i0 hi0 hz0 hz1 hz2 qQ w1 qK3 qa4 gk u2 u7 u8 u9 u10 u11 u12 u13 u20 u21 u22 u23 u24 u25 u26 u27 u28 u29 u30 u31 u32 u33 u34 u35 u36 u37 u38 u39 u40 u41 u42 u43 u44 u45 u46 u47 u48 u49 u50 u51 u52 u53 u54 u55 u56 u57 u58 u59 u60 u61 u62 u63 u64 u65 u66 u67 u68 u69 u70 u71 u72 u73 u74 u75 u76 u77 u78 u79 u80 u81 u82 u83 u84 u85 u86 u87 u88 u89 u90 u91 u92 u93 u94 u95 u96 u97 u98 u99 u100 u101 u102 u103 u104 u105 u106 u107 u108 u109 u110 u111 u112 u113 u114 u115 u116 u117 u118 u119 u120 u121 u122 u123 u124 u125 u126 u127 u128 u129 u130 u131 u132 u133 u134 u135 u136 u137 u138 u139 u140 u141 u142 u143 u144 u145 u146 u147 u148 u149 u150 u151 u152 u153 u154 u155 u156 u157 u158 u159 u160 u161 u162 u163 u164 u165 u166 u167 u168 u169 u170 u171 u172 u173 u174 u175 u176 u177 u178 u179 u180 u181 u182 u183 u184 u185 u186 u187 u188 u189 u190 u191 u192 u193 u194 u195 u196 u197 u198 u199 u200 u201 u202 u203 u204 u205 u206 u207 u208 u209 u210 u211 u212 u213 u214 u215 u216 u217 u218 u219 u220 u221 u222 u223 u224 u225 u226 u227 u228 u229 u230 u231 u232 u233 u234 qJ qK2 qa3 k K S v L T hkn hk80 hgk hsm hLk wq hlt hlt80 wh fr tn pos xs b off hbw qleft Ab nb cb hncb hi1 hi2 hi3 hi4 hr qa2 hi80 f3 hf3 t3 ht3 qK1 qa1 qK0 qa0 wM hbox hrM K2 hxK hbel hT80 A5 c5 hc5 hA5 hrT hLM q0 q1 q2 q3 q4 HWM hLm hTl1 hTl2 HLT0 hci
        exact hp ci
      · have hcases : (k = n) ∨ (k < n ∧ k = 80) := by omega
        have hbel := hLn.net.bel
        clear hLn hgo hLT hsm
        rcases hcases with rfl | ⟨hlt, rfl⟩
        all_goals
          go_wp2_with fail
          refine (wakes_calls _).mono ?_
          rintro e w9 ⟨rfl, hb9⟩
          have hbb := stepBelow hbel hb9
          dsimp only
          go_wp2_with fail
          go_ret
          exact ⟨rfl, hbb⟩
end Go.Proofs.Ytmkmbnfmmibifaa
