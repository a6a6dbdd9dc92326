/-
  Members: who stands at whose edges; a row of ints that is asked.
-/
import Derived.Test.YthgnjojkncodeaaGreatMbK
namespace Go.Proofs.YthgnjojkncodeaaGreat
open Go.RowKit
set_option linter.unusedVariables false
set_option linter.unusedSimpArgs false

theorem next_in {hops : List (List Ed)} {fl x y : Int} : y ∈ nextOf hops fl x ↔ (x, y) ∈ edgesOf hops fl := by
  unfold nextOf
  rw [(endsOf_spec _ _).2]
  constructor
  · rintro ⟨e, he, h1, h2⟩
    have : e = (x, y) := Prod.ext (by simpa using h1) (by simpa using h2)
    rwa [← this]
  · intro h
    exact ⟨(x, y), h, by simp, rfl⟩
theorem prev_in {hops : List (List Ed)} {fl x y : Int} : x ∈ prevOf hops fl y ↔ (x, y) ∈ edgesOf hops fl := by
  unfold prevOf
  rw [(endsOf_spec _ _).2]
  constructor
  · rintro ⟨e, he, h1, h2⟩
    have : e = (x, y) := Prod.ext (by simpa using h2) (by simpa using h1)
    rwa [← this]
  · intro h
    exact ⟨(x, y), h, by simp, rfl⟩
theorem next_prev (hops : List (List Ed)) (fl x y : Int) : (nextOf hops fl x).contains y = (prevOf hops fl y).contains x := by
  rw [Bool.eq_iff_iff, List.contains_iff_mem, List.contains_iff_mem, next_in, prev_in]
theorem all_in {F : Nat → List Int} {n : Nat} {y : Int} : y ∈ Lib.compact (sortI (allF F n)) ↔ ∃ i, i < n ∧ y ∈ F i := by
  rw [(compact_spec _ (sortI_spec _).1).2, (sortI_spec _).2]
  unfold allF
  simp only [List.mem_flatten, List.mem_map, List.mem_range]
  constructor
  · rintro ⟨l, ⟨i, hi, rfl⟩, hy⟩; exact ⟨i, hi, hy⟩
  · rintro ⟨i, hi, hy⟩; exact ⟨_, ⟨i, hi, rfl⟩, hy⟩
theorem nexts_any (hops : List (List Ed)) (x y : Int) : (nextsOf hops x).contains y = (List.range hops.length).any fun i => (nextOf hops (i : Int) x).contains y := by
  rw [Bool.eq_iff_iff, List.contains_iff_mem, List.any_eq_true]
  unfold nextsOf
  rw [all_in]
  constructor
  · rintro ⟨i, hi, hy⟩; exact ⟨i, List.mem_range.2 hi, List.contains_iff_mem.2 hy⟩
  · rintro ⟨i, hi, hy⟩; exact ⟨i, List.mem_range.1 hi, List.contains_iff_mem.1 hy⟩
theorem prevs_any (hops : List (List Ed)) (x y : Int) : (prevsOf hops y).contains x = (List.range hops.length).any fun i => (nextOf hops (i : Int) x).contains y := by
  rw [Bool.eq_iff_iff, List.contains_iff_mem, List.any_eq_true]
  unfold prevsOf
  rw [all_in]
  constructor
  · rintro ⟨i, hi, hy⟩; exact ⟨i, List.mem_range.2 hi, by rw [next_prev]; exact List.contains_iff_mem.2 hy⟩
  · rintro ⟨i, hi, hy⟩; rw [next_prev] at hy; exact ⟨i, List.mem_range.1 hi, List.contains_iff_mem.1 hy⟩
theorem may_facts {nodes : Int} {flows : List Flw} {win que ep : Int} {up : List Bool} {hops : List (List Ed)} (h : mayOk nodes flows win que ep up hops = true) :
    configOk nodes flows win que = true ∧ 1 ≤ ep ∧ ep ≤ 1125899906842624 ∧ (up.length : Int) = nodes ∧ hops.length = flows.length := by
  unfold mayOk at h
  simp only [Bool.and_eq_true, Bool.not_eq_true', decide_eq_false_iff_not, beq_iff_eq] at h
  obtain ⟨⟨⟨⟨⟨h1, h2⟩, h3⟩, h4⟩, h5⟩, _⟩ := h
  exact ⟨h1, by omega, by omega, h4, by omega⟩
theorem new_in {nodes : Int} {flows : List Flw} {win que node : Int} (h : configOk nodes flows win que = true) (h0 : 0 ≤ node) (h1 : node < nodes) : newOk nodes flows win que node = true := by
  unfold newOk
  rw [h, decide_eq_false (by omega : ¬ node < 0), decide_eq_false (by omega : ¬ node ≥ nodes)]
  rfl
/-- New, of a node that is one. -/
theorem new_yes (w : World) (vc : Value) (nodes : Int) (flows : List Flw) (win que node : Int) (okC : Nat → Prop) (hok : ∀ k, okC k → k < w.heap.size) (hC : ConfV w okC vc nodes flows win que) (hc : configOk nodes flows win que = true) (h0 : 0 ≤ node) (h1 : node < nodes) :
    Calls Tryz.prog 5 #[vc, .int .i64 node] w fun e w' => ∃ M, e = .returned (.tuple #[.pointer (some ⟨M, 0, none⟩), .int .i64 0]) ∧ w.heap.size ≤ M ∧ MB w' M (fun k => okC k ∨ (w.heap.size ≤ k ∧ k ≠ M)) nodes flows win que node 0 [] [] ∧ Below w.heap.size w w' := by
  have hn := (config_nodes hc).2
  refine (new_calls w vc nodes flows win que node okC hok hC ⟨by omega, by omega⟩).mono ?_
  rintro e w' ⟨hb, ⟨h2, _⟩ | ⟨_, M, h2, h3, h4⟩⟩
  · rw [new_in hc h0 h1] at h2; cases h2
  · exact ⟨M, h2, h3, h4, hb⟩
theorem any_next (p : Nat → Bool) (k : Nat) : (List.range (k + 1)).any p = ((List.range k).any p || p k) := by simp [List.range_succ]
theorem of_ask {flows : List Flw} {node ep : Int} {hops : List (List Ed)} {kind frm flow : Int} (hk : knownB kind = true) (hf : flowB kind flow flows.length = true) (he : 1 ≤ ep) (r : Bool) (hr : isB hops node kind frm flow = r) :
    ofRes flows node ep hops kind frm node ep flow = if r = true then 0 else 6 := by
  unfold ofRes
  rw [if_neg (fun hh => hh.elim (fun h => by rw [hk] at h; cases h) fun hh => hh.elim (fun h => h rfl) fun h => by rw [hf] at h; cases h), if_neg (fun hh => hh.elim (fun h => h rfl) fun h => by omega), hr]
theorem flowB_in {kind : Int} {k n : Nat} (h : k < n) : flowB kind (k : Int) n = true := by
  unfold flowB
  rw [decide_eq_true (by omega : (0 : Int) ≤ k), decide_eq_true (by omega : (k : Int) < n)]
  simp
theorem isB_data (hops : List (List Ed)) (x y fl : Int) : isB hops y 1 x fl = (nextOf hops fl x).contains y := by unfold isB; rw [if_pos (.inl rfl), next_prev]
theorem isB_back (hops : List (List Ed)) (x y fl : Int) : isB hops x 2 y fl = (nextOf hops fl x).contains y := by unfold isB; rw [if_neg (by decide), if_pos rfl]
theorem isB_credit (hops : List (List Ed)) (x y fl : Int) : isB hops x 3 y fl = (nextsOf hops x).contains y := by unfold isB; rw [if_neg (by decide), if_neg (by decide), if_pos rfl]
theorem isB_probe (hops : List (List Ed)) (x y fl : Int) : isB hops y 4 x fl = (prevsOf hops y).contains x := by unfold isB; rw [if_neg (by decide), if_neg (by decide), if_neg (by decide)]
end Go.Proofs.YthgnjojkncodeaaGreat
