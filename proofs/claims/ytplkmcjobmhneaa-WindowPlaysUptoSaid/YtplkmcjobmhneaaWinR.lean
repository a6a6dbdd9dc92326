/-
  The walks of window's functions that go over 'each' (a bound method, called by a range): each, AppendSeq, Collect, All, Move.
-/
import Derived.RangeFuncNested
import Derived.RangeFuncBound
import Derived.RangeFuncCalls
import Derived.RangeFuncLeaves
import Derived.RangeFuncBox
import Derived.Shelf.Abstract
import Derived.Shelf.RegionOpen
import Derived.OwnWalkIn
import Derived.TacticsInMore
import Derived.LoopNIn
import Derived.LoopIn
import Derived.Test.YtplkmcjobmhneaaWin4
namespace Go.Proofs.Ytplkmcjobmhneaa
open Go.RowKit Go.Shelf
attribute [local go_sem] Oper.semAt_some

/-- What a bound iterator owes whose rounds always go on. -/
def SeqB {α : Type} (F : Fence) (n : Nat) (P : Program) (g : Nat) (fb : Array Value) (encs : α → Array Value) (Kp : World → World → Prop) (ys : List α) (w : World) : Prop :=
  ∀ (l : Nat) (J : List α → World → Prop) (W : World), Below w.heap.size w W → (∀ pre A k, J pre A → J pre (World.drewN A k)) →
    (∀ pre x A, J pre A → pre.length < ys.length → YieldAt F (n - 1) P l (encs x) A fun e A' => e = .returned (.bool true) ∧ J (pre ++ [x]) A' ∧ Kp A A') →
    J [] W → CallsIn F n P g (fb ++ #[.func (.yield l) #[] #[]]) W fun e W' => (∃ v, e = .returned v) ∧ J ys W'

/-- The law on a range over a bound method whose body always goes on. -/
theorem wpIn_rangeB {F : Fence} {n : Nat} {P : Program} {α : Type} {g : Operand} {ps : Array Tmp} {assign body : Code} {Q : Exit → Act → World → Prop} {a : Act} {w : World}
    (hro : F.round = none) (h1 : 1 ≤ n) {gf : Nat} {fb : Array Value} (hg : a.eval g = .func (.func gf) fb #[]) (hFg : F.fn gf) (eg : ∀ args w, (callFunc gf args).run P w = .ok (.enter gf args) w)
    {encs : α → Array Value} {Kp : World → World → Prop} {ys : List α} (hseq : SeqB F (n - 1) P gf fb encs Kp ys w)
    (hKt : ∀ {A B C : World}, Kp A B → Kp B C → Kp A C) (hKb : ∀ (W : World) (l : Nat) (o o' : Obj), w.heap.size ≤ l → W.heap[l]? = some o → o.isCells = false → o.isWalk = false → Kp W (W.putObj l o')) (hps : ∀ x, (encs x).size = ps.size)
    (I : List α → World → Prop) (hI : OwnFrom w.heap.size I) (hId : ∀ pre A k, I pre A → I pre (World.drewN A k)) (h0 : I [] w) (a₁ : α → Act)
    (hassign : ∀ (l : Nat) (x : α) (W : World) (K : Act → World → Prop), K (a₁ x) W →
      assign.wpIn (F.inRound l) (n - 1 - 1) P (Exit.then K (fun _ _ _ => False)) { tmps := (ps.zip (encs x)).foldl (fun t (p, v) => t.setIfInBounds p v) a.tmps, defers := [] } W)
    (hbody : ∀ (l : Nat) (pre : List α) (x : α) (W : World), I pre W → pre.length < ys.length → body.wpIn (F.inRound l) (n - 1 - 1) P (ownPostG w.heap.size Kp I (fun _ _ _ => False) (pre ++ [x]) W) (a₁ x) W)
    (hdone : ∀ (D : Nat) (W : World), w.heap.size ≤ D → I ys W → W.heap[D]? = some (.deferred (some [])) → Q .normal { a with defers := { target := .collected D, args := #[] } :: a.defers } W) :
    (Code.rangeFunc g ps assign body).wpIn F n P Q a w := by
  refine wpIn_rangeFunc fun fn hfn => ?_
  rw [hro]
  let rec' : LoopState → Option Code → Loop := fun st pe => { state := st, pending := pe, fn, tmps := a.tmps, params := ps, assign, body, defers := w.heap.size }
  obtain ⟨rec, hrec⟩ : ∃ rec, rec = rec' := ⟨_, rfl⟩
  obtain ⟨W1, hW1⟩ : ∃ W1, (w.alloc (.deferred (some []))).alloc (.loop (rec .ready none)) = W1 := ⟨_, rfl⟩
  have hL1 : W1.heap[w.heap.size + 1]? = some (.loop (rec .ready none)) := by
    have h := World.alloc_heap_new (w.alloc (.deferred (some []))) (.loop (rec .ready none))
    rw [World.size_alloc, hW1] at h
    exact h
  have hK1 : W1.heap[w.heap.size]? = some (.deferred (some [])) := by
    rw [← hW1]; exact (Below.heap_alloc _ _ _ (by simp)).trans (World.alloc_heap_new w _)
  have hI1 : I [] W1 := by rw [← hW1]; exact hI.alloc _ (hI.alloc _ h0)
  have hb1 : Below w.heap.size w W1 := by rw [← hW1]; exact ((Below.refl _ w).alloc (Nat.le_refl _) _).alloc (by simp) _
  refine ⟨w.heap.size + 1, [{ target := .collected w.heap.size, args := #[] }], W1, { target := .fn (.func gf) #[], args := fb ++ #[.func (.yield (w.heap.size + 1)) #[] #[]] }, W1, gf,
    fb ++ #[.func (.yield (w.heap.size + 1)) #[] #[]], W1, ?_, ?_, ?_, ?_, fun _ => h1, ?_⟩
  · rw [← hW1, hrec]; exact run_enterLoop_outer _ _ _ _ _
  · simp only [resolve, hg]
    simp [go_sem]
  · intro f' hf'; simp [Target.leads] at hf'; subst hf'; exact hFg
  · simp [invoke, go_sem, eg]
  · refine (hseq (w.heap.size + 1)
      (fun pre W => I pre W ∧ W.heap[w.heap.size + 1]? = some (.loop (rec .ready none)) ∧ W.heap[w.heap.size]? = some (.deferred (some [])))
      W1 hb1 (fun pre A k h => ⟨hId _ _ _ h.1, h.2.1, h.2.2⟩) ?_ ⟨hI1, hL1, hK1⟩).mono ?_
    · rintro pre x W ⟨hi, hl, hk⟩ hlen
      have hlt : w.heap.size + 1 < W.heap.size := (Array.getElem?_eq_some_iff.1 hl).1
      have hy := run_yield (P := P) (args := encs x) hl (by rw [hrec]; exact hps x)
      rw [hrec] at hy
      refine ⟨fn, _, assign, body, hy, roundIn_of_wpIn hfn (hassign _ x W _ ⟨_, run_beginRound hl (by rw [hrec]), ?_⟩)⟩
      obtain ⟨W2, hW2⟩ : ∃ W2, W.putObj (w.heap.size + 1) (.loop { rec .ready none with state := .busy }) = W2 := ⟨_, rfl⟩
      have hl2 : W2.heap[w.heap.size + 1]? = some (.loop { rec .ready none with state := .busy }) := by rw [← hW2]; exact World.putObj_heap_same hlt
      have hk2 : W2.heap[w.heap.size]? = some (.deferred (some [])) := by rw [← hW2]; exact (World.putObj_heap_other (by omega)).trans hk
      have hw2 : Kp W W2 := by rw [← hW2]; exact hKb _ _ _ _ (by omega) hl rfl rfl
      have hi2 : I pre W2 := by rw [← hW2]; exact hI.putObj _ hi (by omega) hl rfl
      rw [hW2]
      refine wpIn_mono (hbody _ pre x W2 hi2 hlen) ?_
      rintro e a3 W3 hp
      cases e with
      | normal =>
        obtain ⟨hk3, hkp3, hi3⟩ := hp
        have hl3 := hk3.same _ _ (by omega) hl2 rfl
        have hr := run_endRound (P := P) none hl3
        rw [hrec] at hr
        have hl4 := World.putObj_heap_same (o := .loop (rec .ready none)) (Array.getElem?_eq_some_iff.1 hl3).1
        refine ⟨_, _, hr, rfl, ⟨hI.putObj _ hi3 (by omega) hl3 rfl, ?_, ?_⟩, hKt (hKt hw2 hkp3) (hKb _ _ _ _ (by omega) hl3 rfl rfl)⟩
        · rw [hrec] at hl4 ⊢; exact hl4
        · exact (World.putObj_heap_other (by omega)).trans (hk3.same _ _ (Nat.le_refl _) hk2 rfl)
      | ret => exact hp.2.elim
      | exit id => exact hp.2.elim
      | goto t => exact hp.2.elim
      | panic ch => exact hp.elim
      | outgrown => exact hp.elim
    · rintro e W2 ⟨⟨v, rfl⟩, hi, hl, hk⟩
      have hend := run_endLoop (P := P) hl (by rw [hrec]; simp [rec'])
      rw [hrec] at hend
      exact ⟨none, _, hend, hdone _ _ (Nat.le_refl _) (hI.putObj _ hi (by omega) hl rfl) ((World.putObj_heap_other (by omega)).trans hk)⟩

set_option maxRecDepth 100000 in
set_option maxHeartbeats 1000000 in
theorem each_in (n l g b nn n₀ : Nat) (hgn : g < n₀) (J : List Nat → World → Prop) (hJd : ∀ pre A k, J pre A → J pre (World.drewN A k)) (hn : 1 ≤ n)
    (hY : ∀ pre (x : Nat) A, J pre A → pre.length < (els b nn).length → YieldAt Fence.wide (n - 1) Try.prog l #[.int .u64 (x : Int)] A fun e A' => e = .returned (.bool true) ∧ J (pre ++ [x]) A' ∧ Below n₀ A A')
    (W : World) (hW : Win W g b nn) (_hn₀ : n₀ ≤ W.heap.size) (h0 : J [] W) :
    CallsIn Fence.wide n Try.prog 22 #[.pointer (some ⟨g, 0, none⟩), .func (.yield l) #[] #[]] W fun e W' => (∃ v, e = .returned v) ∧ J (els b nn) W' := by
  have hb0 := hW.1
  have hb16 := hW.2.2.1
  obtain ⟨e, he⟩ : ∃ e, wend b nn = e := ⟨_, rfl⟩
  have hbe : b ≤ e := by rw [← he]; unfold wend; omega
  have hem : e ≤ 1099511627776 := by rw [← he]; unfold wend; omega
  have HE := Lib.hid he
  have hL : (els b nn).length = e - b := by rw [els_length, he]
  have HL := Lib.hid hL
  clear he hL
  refine callsIn_of_wp Try.func22 rfl trivial ?_ rfl
  simp only [Try.ntmps22, List.size_toArray, List.length_cons, List.length_nil, Nat.reduceAdd, Nat.reduceSub, Array.replicate_succ, Array.replicate_zero, List.push_toArray, List.append_toArray, List.nil_append, List.cons_append]
  gi_wp2
  refine ⟨trivial, (callsIn_wide.2 (base_calls g b nn W hW)).mono ?_⟩
  rintro e' w' ⟨rfl, rfl⟩
  gi_wp2
  gi_loopw [4] (fun i wr => ∃ x : Nat, b ≤ x ∧ x ≤ e ∧ i = .int .u64 (x : Int) ∧ J (List.range' b (x - b)) wr ∧ Below n₀ W wr) (fun i _ => e - (intOf i).toNat)
  case atStart => exact ⟨b, Nat.le_refl _, hbe, rfl, by simpa using h0, Below.refl _ _⟩
  case round =>
    obtain ⟨x, hbx, hxe, rfl, hJ, hbel⟩ := hrel
    have hWr : Win wr g b nn := hW.keep hbel.size (hbel.block g hgn)
    by_cases hlt : x < e
    · have hw1 : IntKind.u64.wrap ((x : Int) + 1) = (x : Int) + 1 := IntWalk.u64_in _ ⟨by omega, by omega⟩
      have hr1 : List.range' b (x + 1 - b) = List.range' b (x - b) ++ [x] := by
        have e1 : x + 1 - b = (x - b) + 1 := by omega
        rw [e1, List.range'_concat]
        simp
        omega
      gi_wp2
      refine ⟨trivial, (callsIn_wide.2 (end_calls g b nn wr hWr)).mono ?_⟩
      rw [HE.out]
      rintro e' w' ⟨rfl, k, rfl⟩
      obtain ⟨fn, tmps, assign, body, hy, hR⟩ := hY (List.range' b (x - b)) x (wr.drewN k) (hJd _ _ _ hJ) (by rw [HL.out, List.length_range']; omega)
      clear hJ
      gi_wp2
      refine hR.mono ?_
      rintro e' W3 ⟨rfl, hJ3, hk3⟩
      have hb3 : Below n₀ W W3 := (belowDrewN hbel k).trans hk3
      gi_wp2
      go_roundw
      case rel => exact ⟨x + 1, by omega, by omega, by go_num, by rw [hr1]; exact hJ3, hb3⟩
      case measure => simp [intOf]; omega
    · gi_wp2
      refine ⟨trivial, (callsIn_wide.2 (end_calls g b nn wr hWr)).mono ?_⟩
      rw [HE.out]
      rintro e' w' ⟨rfl, k, rfl⟩
      have hx : e = x := by omega
      subst hx
      gi_wp2
      refine ⟨fun _ h => (by cases h), ?_⟩
      gi_wp2
      go_end0
      exact ⟨⟨_, rfl⟩, by rw [els, HE.out]; exact hJd _ _ _ hJ⟩
/-- The word of w.each, in the world w (n₀: the size there). -/
theorem each_seq (n g b nn : Nat) (hn : 1 ≤ n) (w : World) (n₀ : Nat) (hgn : g < n₀) (hn₀ : n₀ ≤ w.heap.size) (h : Win w g b nn) :
    SeqB Fence.wide n Try.prog 22 #[.pointer (some ⟨g, 0, none⟩)] (fun x : Nat => #[Value.int .u64 (x : Int)]) (Below n₀) (els b nn) w :=
  fun l J W hW hJd hY h0 => each_in n l g b nn n₀ hgn J hJd hn hY W (h.below hW) (Nat.le_trans hn₀ hW.size) h0
end Go.Proofs.Ytplkmcjobmhneaa
