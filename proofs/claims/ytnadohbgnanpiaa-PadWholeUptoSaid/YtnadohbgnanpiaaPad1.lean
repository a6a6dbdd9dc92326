/-
  Words on rows of rows of bytes: read, and of a call's own; what an append makes of them; Same of the fifth chapter's answer.
-/
import Derived.Test.YtnadohbgnanpiaaBytes
namespace Go.Proofs.Ytnadohbgnanpiaa
open Go.RowKit

def lrow (ls : List (List UInt8)) (j : Nat) : List UInt8 := ls[j]?.getD []
theorem lrow_eq (ls : List (List UInt8)) (j : Nat) (h : j < ls.length) : lrow ls j = ls[j] := by simp [lrow, h]
theorem lrow_left (ls ms : List (List UInt8)) (j : Nat) (h : j < ls.length) : lrow (ls ++ ms) j = lrow ls j := by unfold lrow; rw [List.getElem?_append_left h]
theorem lrow_new (ls : List (List UInt8)) (m : List UInt8) : lrow (ls ++ [m]) ls.length = m := by simp [lrow]
/-- The slice '.slice A n c' of slices reads as ls; all its blocks meet 'ok'. -/
def RdBB (w : World) (ok : Nat → Prop) (A : Option Addr) (n : Nat) (ls : List (List UInt8)) : Prop :=
  ls.length = n ∧ n ≤ 9223372036854775807 ∧ (0 < n → ∃ ad, A = some ad ∧ ok ad.block ∧ ad.block < w.heap.size ∧ ad.spot = none ∧
    ∀ j, j < n → ∃ Aj nj cj, w.cell? (ad.add j) = some (.slice Aj nj cj) ∧ nj ≤ cj ∧ RdB w ok Aj nj (lrow ls j))
/-- A row of slices of the call's own; what it holds lies elsewhere, at or beyond base. -/
def OwnBB (w : World) (base : Nat) (v : Value) (ls : List (List UInt8)) : Prop :=
  ∃ vs : List Value, vs.length = ls.length ∧ w.ownsRow base 28 1 v vs.length vs ∧
    ∀ j, j < ls.length → ∃ Aj nj cj, vs[j]? = some (.slice Aj nj cj) ∧ nj ≤ cj ∧ RdB w (fun k => base ≤ k ∧ v.ownBlock ≠ some k) Aj nj (lrow ls j)
section
variable {w w' : World} {ok ok' : Nat → Prop} {A : Option Addr} {n : Nat} {ls ms : List (List UInt8)} {base : Nat} {v : Value}
theorem RdBB.len (h : RdBB w ok A n ls) : ls.length = n := h.1
theorem RdBB.max (h : RdBB w ok A n ls) : n ≤ 9223372036854775807 := h.2.1
theorem RdBB.keep (h : RdBB w ok A n ls) (hs : w.heap.size ≤ w'.heap.size) (hk : ∀ k, ok k → k < w.heap.size → w'.heap[k]? = w.heap[k]?) : RdBB w' ok A n ls := by
  refine ⟨h.1, h.2.1, fun hn => ?_⟩
  obtain ⟨ad, e, ho, hl, hs', hc⟩ := h.2.2 hn
  refine ⟨ad, e, ho, by omega, hs', fun j hj => ?_⟩
  obtain ⟨Aj, nj, cj, h1, h2, h3⟩ := hc j hj
  exact ⟨Aj, nj, cj, (World.cell?_of_block (by rw [addBlock]; exact hk _ ho hl)).trans h1, h2, h3.keep hs hk⟩
theorem RdBB.mono (h : RdBB w ok A n ls) (hk : ∀ k, ok k → k < w.heap.size → ok' k) : RdBB w ok' A n ls := by
  refine ⟨h.1, h.2.1, fun hn => ?_⟩
  obtain ⟨ad, e, ho, hl, hs', hc⟩ := h.2.2 hn
  refine ⟨ad, e, hk _ ho hl, hl, hs', fun j hj => ?_⟩
  obtain ⟨Aj, nj, cj, h1, h2, h3⟩ := hc j hj
  exact ⟨Aj, nj, cj, h1, h2, h3.mono hk⟩
theorem RdBB.below (h : RdBB w ok A n ls) (hb : Below w.heap.size w w') : RdBB w' ok A n ls := h.keep hb.size fun k _ hl => hb.block k hl
theorem RdBB.grown {row : Option Nat} (h : RdBB w ok A n ls) (hg : w.grownBy w' row) (hr : ∀ k, ok k → some k ≠ row) : RdBB w' ok A n ls := h.keep hg.size fun k ho hl => hg.block k hl (hr k ho)
theorem RdBB.drewN (h : RdBB w ok A n ls) (m : Nat) : RdBB (w.drewN m) ok A n ls := h
theorem RdBB.drew (h : RdBB w ok A n ls) : RdBB w.drew ok A n ls := h
theorem RdBB.alloc (h : RdBB w ok A n ls) (o : Obj) : RdBB (w.alloc o) ok A n ls := h.below ((Below.refl _ _).alloc (Nat.le_refl _) o)
theorem RdBB.nil (w : World) (ok : Nat → Prop) (A : Option Addr) : RdBB w ok A 0 [] := ⟨rfl, by omega, fun h => absurd h (by omega)⟩
theorem RdBB.at_ (h : RdBB w ok A n ls) (j : Nat) (hj : j < n) : ∃ b o Aj nj cj, A = some ⟨b, o, none⟩ ∧ ok b ∧ b < w.heap.size ∧ w.cell? ⟨b, o + j, none⟩ = some (.slice Aj nj cj) ∧ nj ≤ cj ∧ RdB w ok Aj nj (lrow ls j) := by
  obtain ⟨⟨b, o, s⟩, e, ho, hl, hs, hc⟩ := h.2.2 (by omega)
  simp only at hs
  subst hs
  obtain ⟨Aj, nj, cj, h1, h2, h3⟩ := hc j hj
  exact ⟨b, o, Aj, nj, cj, e, ho, hl, by rw [← addPlain]; exact h1, h2, h3⟩
theorem RdBB.take (h : RdBB w ok A n ls) (m : Nat) (hm : m ≤ n) : RdBB w ok A m (ls.take m) := by
  refine ⟨by rw [List.length_take, h.1]; omega, by have := h.2.1; omega, fun h0 => ?_⟩
  obtain ⟨ad, e, ho, hl, hs', hc⟩ := h.2.2 (by omega)
  refine ⟨ad, e, ho, hl, hs', fun j hj => ?_⟩
  obtain ⟨Aj, nj, cj, h1, h2, h3⟩ := hc j (by omega)
  refine ⟨Aj, nj, cj, h1, h2, ?_⟩
  have e2 : lrow (ls.take m) j = lrow ls j := by unfold lrow; rw [List.getElem?_take, if_pos hj]
  rw [e2]
  exact h3
theorem OwnBB.nil (w : World) (base : Nat) : OwnBB w base (.slice none 0 0) [] := ⟨[], rfl, World.ownsRow_nil w base _ 1, fun j hj => absurd hj (by simp)⟩
theorem OwnBB.grown {row : Option Nat} (h : OwnBB w base v ls) (hg : w.grownBy w' row) (hr : ∀ k, row = some k → k < base) : OwnBB w' base v ls := by
  obtain ⟨vs, h1, h2, h3⟩ := h
  refine ⟨vs, h1, World.ownsRow.kept h2 hg ?_, fun j hj => ?_⟩
  · cases e : v.ownBlock with
    | none => exact .inl rfl
    | some k => exact .inr (fun he => by have := (World.ownsRow.lt h2 k e).1; have := hr k he.symm; omega)
  · obtain ⟨Aj, nj, cj, k1, k2, k3⟩ := h3 j hj
    exact ⟨Aj, nj, cj, k1, k2, k3.grown hg fun k hk e => by have := hr k e.symm; omega⟩
theorem OwnBB.below (h : OwnBB w base v ls) (hb : Below w.heap.size w w') : OwnBB w' base v ls := h.grown (grownOfBelow hb none) (by simp)
theorem OwnBB.drewN (h : OwnBB w base v ls) (m : Nat) : OwnBB (w.drewN m) base v ls := h
theorem OwnBB.lower (h : OwnBB w base v ls) {b : Nat} (hb : b ≤ base) : OwnBB w b v ls := by
  obtain ⟨vs, h1, h2, h3⟩ := h
  refine ⟨vs, h1, ⟨h2.1, ?_⟩, fun j hj => ?_⟩
  · rcases h2.2 with h4 | ⟨g, cap, cur, h4, h5, r⟩
    · exact .inl h4
    · exact .inr ⟨g, cap, cur, h4, by omega, r⟩
  · obtain ⟨Aj, nj, cj, k1, k2, k3⟩ := h3 j hj
    exact ⟨Aj, nj, cj, k1, k2, k3.mono fun k hk _ => ⟨by omega, hk.2⟩⟩
theorem OwnBB.rd (h : OwnBB w base v ls) : ∃ A c, v = .slice A ls.length c ∧ ls.length ≤ c ∧ RdBB w (fun k => base ≤ k) A ls.length ls := by
  obtain ⟨vs, h1, h2, h3⟩ := h
  rcases h2.2 with ⟨rfl, h0⟩ | ⟨g, cap, cur, rfl, hb, hg, hn, hm, hc, ht⟩
  · have e : ls.length = 0 := by omega
    exact ⟨none, 0, by rw [e], by omega, by rw [e, List.eq_nil_of_length_eq_zero e]; exact RdBB.nil _ _ _⟩
  · refine ⟨_, cap, by rw [h1], by omega, rfl, by simp only [maxLen] at hm; omega, fun h0 => ⟨⟨g, 0, none⟩, rfl, hb, (Array.getElem?_eq_some_iff.1 hg).1, rfl, fun j hj => ?_⟩⟩
    obtain ⟨Aj, nj, cj, k1, k2, k3⟩ := h3 j hj
    exact ⟨Aj, nj, cj, World.ownsRow.cells h2 (g := g) rfl j _ k1, k2, k3.mono fun k hk _ => hk.1⟩
end
theorem RdBB.lit (w : World) (ok : Nat → Prop) (ls : List (List UInt8)) (vs : List Value) (n : Nat) (hn : ls.length = n) (hm : n ≤ 9223372036854775807) (hok : ok w.heap.size) (cs : Array Value) (hc : vs.toArray = cs)
    (hv : ∀ j, j < n → ∃ Aj nj cj, vs[j]? = some (.slice Aj nj cj) ∧ nj ≤ cj ∧ RdB w ok Aj nj (lrow ls j)) :
    RdBB (w.alloc (.cells cs 28)) ok (some ⟨w.heap.size, 0, none⟩) n ls := by
  subst hc
  refine ⟨hn, hm, fun _ => ⟨_, rfl, hok, by simp, rfl, fun j hj => ?_⟩⟩
  obtain ⟨Aj, nj, cj, h1, h2, h3⟩ := hv j hj
  refine ⟨Aj, nj, cj, ?_, h2, h3.alloc _⟩
  rw [addPlain, World.cell?_alloc_new]
  simpa using h1
theorem info_bb : (Try.prog.info? 28).map (fun i => (i.zero, i.size, i.bytes)) = some (some (.slice none 0 0), 1, 24) := by kernel_rfl

/-! ### append(own, one more) -/
section
variable {P : Program} {ops : Array Oper} {rest : List Oper} {o : Oper} {a : Act} {Q : Exit → Act → World → Prop}
theorem run_appBB {W : World} (base : Nat) (ty : TypeId) (v : Value) (ls : List (List UInt8)) (m : List UInt8) (Am : Option Addr) (nm cm : Nat)
    (HO : OwnBB W base v ls) (hcm : nm ≤ cm) (HR : RdB W (fun k => base ≤ k ∧ v.ownBlock ≠ some k) Am nm m) (hbase : base ≤ W.heap.size) (hl : ls.length ≤ 1099511627776) :
    ∃ v1 w1, (Builtin.append_ #[25, 25] ty #[v, .slice (some ⟨W.heap.size, 0, none⟩) 1 1]).run Try.prog (W.alloc (.cells #[.slice Am nm cm] 28)) = .ok v1 w1 ∧ OwnBB w1 base v1 (ls ++ [m]) ∧
      (W.alloc (.cells #[.slice Am nm cm] 28)).grownBy w1 v.ownBlock ∧ (v1.ownBlock = v.ownBlock ∨ v1.ownBlock = some (W.heap.size + 1)) := by
  obtain ⟨i0, hi, hzz⟩ := Option.map_eq_some_iff.1 info_bb
  simp only [Prod.mk.injEq] at hzz
  obtain ⟨hz0, hz1, hz2⟩ := hzz
  obtain ⟨vs, h1, h2, h3⟩ := HO
  have hz : base ≤ (W.alloc (.cells #[.slice Am nm cm] 28)).heap.size := by simp; omega
  have h2a : (W.alloc (.cells #[.slice Am nm cm] 28)).ownsRow base 28 1 v vs.length vs := h2.alloc _
  obtain ⟨v1, w1, hr, k2, k3, _, k5⟩ := run_append_own_at (P := Try.prog) (W.alloc (.cells #[.slice Am nm cm] 28)) base 25 ty 28 i0 (.slice none 0 0) 1 24 Try.underlying25 hi hz0 hz1 hz2 rfl (by omega) v vs.length vs h2a ⟨W.heap.size, 0, none⟩ 1 1 [.slice Am nm cm] rfl
    (cell_one_new _ _ _) (by simp [Value.oneCell']) (by simp only [maxLen]; omega) (by omega) hz
  refine ⟨v1, w1, hr, ⟨vs ++ [.slice Am nm cm], by simp [h1], by simpa using k2, fun j hj => ?_⟩, k3, by simpa using k5⟩
  have hown : ∀ k, base ≤ k ∧ v.ownBlock ≠ some k → k < W.heap.size → base ≤ k ∧ v1.ownBlock ≠ some k := fun k hk hl => ⟨hk.1, fun e => by
    rcases k5 with k5 | k5
    · exact hk.2 (by rw [← k5]; exact e)
    · rw [k5] at e
      simp at e
      omega⟩
  have keepB : ∀ {X : Option Addr} {nx : Nat} {xs : List UInt8}, RdB W (fun k => base ≤ k ∧ v.ownBlock ≠ some k) X nx xs → RdB w1 (fun k => base ≤ k ∧ v1.ownBlock ≠ some k) X nx xs := fun hx =>
    (((hx.mono fun k hk hl => show (base ≤ k ∧ v1.ownBlock ≠ some k) ∧ v.ownBlock ≠ some k from ⟨hown k hk hl, hk.2⟩).alloc _).grown k3 fun k hk e => hk.2 e.symm).mono fun k hk _ => hk.1
  rw [List.length_append, List.length_singleton] at hj
  by_cases hlt : j < ls.length
  · obtain ⟨Aj, nj, cj, q1, q2, q3⟩ := h3 j hlt
    exact ⟨Aj, nj, cj, by rw [List.getElem?_append_left (by omega)]; exact q1, q2, by rw [lrow_left _ _ _ hlt]; exact keepB q3⟩
  · obtain rfl : j = ls.length := by omega
    exact ⟨Am, nm, cm, by rw [List.getElem?_append_right (by omega), h1]; simp, hcm, by rw [lrow_new]; exact keepB HR⟩
theorem appBB {w0 W : World} (B base : Nat) (hgd : Region.wanted o (yielded ops a.tmps) = true) (s x : Operand)
    (ho : o.op = .call { callee := .builtin .append, args := #[s, x], argTypes := #[25, 25] })
    (v : Value) (ls : List (List UInt8)) (m : List UInt8) (Am : Option Addr) (nm cm : Nat) (hs : a.eval s = v) (hx : a.eval x = .slice (some ⟨W.heap.size, 0, none⟩) 1 1)
    (HO : OwnBB W base v ls) (hcm : nm ≤ cm) (HR : RdB W (fun k => base ≤ k ∧ v.ownBlock ≠ some k) Am nm m) (HB : Below B w0 W) (hbase : base ≤ W.heap.size) (hBb : B ≤ base) (hl : ls.length ≤ 1099511627776)
    (h : ∀ v1 w1, OwnBB w1 base v1 (ls ++ [m]) → Below B w0 w1 → W.grownBy w1 v.ownBlock → (v1.ownBlock = v.ownBlock ∨ v1.ownBlock = some (W.heap.size + 1)) → wpList Try.prog ops Q rest (a.put o.dst v1) w1) :
    wpList Try.prog ops Q (o :: rest) a (W.alloc (.cells #[.slice Am nm cm] 28)) := by
  obtain ⟨v1, w1, hr, h2, h3, h5⟩ := run_appBB base o.type v ls m Am nm cm HO hcm HR hbase hl
  obtain ⟨vs, _, hvs, _⟩ := HO
  refine wpList_wanted hgd fun K hK => ?_
  unfold Oper.wp execOp
  simp only [ho, resolve, invoke, builtin, Sem.run_bind, Sem.run_pure, Result.andThen_ok, List.map_toArray, List.map_cons, List.map_nil, hs, hx, hr]
  refine hK _ _ (h v1 w1 h2 ((HB.alloc (by omega) _).grown h3 (by simp; omega) (fun k hk => by have := World.ownsRow.lt hvs k hk; omega)) ?_ h5)
  exact (World.grownBy_alloc W _ _).trans h3
end

/-! ### Same -/
theorem bb_same_len (A A' : Option Addr) (n c n' c' : Nat) (w : World) (h : n ≠ n') :
    Calls Try.prog 17 #[.slice A n c, .slice A' n' c'] w fun e w' => e = .returned (.bool false) ∧ w = w' := by
  have hne : ((n : Int) != (n' : Int)) = true := by rw [bne_iff_ne]; omega
  clear h
  go_enter Try.func17, Try.ntmps17
  go_wp2
  go_ret
  exact ⟨rfl, rfl⟩
set_option maxHeartbeats 800000 in
theorem bb_same_eq (A A' : Option Addr) (n c c' : Nat) (ls : List (List UInt8)) (w : World) (ok ok' : Nat → Prop) (hr : RdBB w ok A n ls) (hr' : RdBB w ok' A' n ls) :
    Calls Try.prog 17 #[.slice A n c, .slice A' n c'] w fun e w' => e = .returned (.bool true) ∧ ∃ m, w' = w.drewN m := by
  have hm := hr.max
  go_enter Try.func17, Try.ntmps17
  go_wp2
  go_loopw [5] (fun i wr => ∃ k m : Nat, k ≤ n ∧ i = .int .i64 k ∧ wr = w.drewN m) (fun i _ => n - (intOf i).toNat)
  case atStart => exact ⟨0, 0, Nat.zero_le _, rfl, rfl⟩
  case round =>
    obtain ⟨k, m, hk, rfl, rfl⟩ := hrel
    by_cases hlt : k < n
    · obtain ⟨b1, o1, A1, n1, c1, e1, _, _, k1, _, q1⟩ := hr.at_ k hlt
      obtain ⟨b2, o2, A2, n2, c2, e2, _, _, k2, _, q2⟩ := hr'.at_ k hlt
      subst e1
      subst e2
      have v1 : ∀ d, (convert 28 9 (.slice A1 n1 c1)).run Try.prog (w.drewN d) = _ := fun d => conv_string (q1.drewN d) c1
      have v2 : ∀ d, (convert 28 9 (.slice A2 n2 c2)).run Try.prog (w.drewN d) = _ := fun d => conv_string (q2.drewN d) c2
      go_wp2_with fail
      go_quiet (fail)
      go_wp2_with fail
      go_roundw
      case rel => exact ⟨k + 1, m + nq, by omega, by go_num, rfl⟩
      case measure => simp [intOf]; omega
    · obtain rfl : k = n := by omega
      go_wp2
      go_ret
      exact ⟨rfl, _, rfl⟩
end Go.Proofs.Ytnadohbgnanpiaa
