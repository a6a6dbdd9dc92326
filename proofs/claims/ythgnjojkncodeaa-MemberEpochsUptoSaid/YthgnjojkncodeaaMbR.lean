/-
  More words for MemberEpochs: calls over its boxes; the edges asked one by one.
-/
import Derived.Test.YthgnjojkncodeaaMbQ
import Derived.Test.YthgnjojkncodeaaMbN
namespace Go.Proofs.Ythgnjojkncodeaa
open Go.RowKit
set_option linter.unusedVariables false
set_option linter.unusedSimpArgs false

section
variable {w w' : World} {PC PF : Nat} {nodes : Int} {AF : Option Addr} {nF cF : Nat} {flows : List Flw} {win que : Int} {AL : Option Addr} {nL : Nat} {ls : List (Nat × List Bool × List (List Ed))} {r : FrR} {kind frm dst fep flow : Int} {ok S : Nat → Prop}
theorem EB.config (h : EB w PC PF nodes AF nF cF flows win que AL nL ls r kind frm dst fep flow ok) (b : Bool) (hr : configOk nodes flows win que = b) :
    Calls Try.prog 8 #[.agg #[.int .i64 nodes, .slice AF nF cF, .int .i64 win, .int .i64 que]] w fun e w' => e = .returned (.bool b) ∧ Below w.heap.size w w' := by
  rw [← hr]; exact config_calls w _ nodes flows win que ⟨_, _, _, rfl, h.le, h.i.1, h.i.2.1, h.i.2.2, h.rf.mono fun k _ hk => hk⟩
theorem EB.may (h : EB w PC PF nodes AF nF cF flows win que AL nL ls r kind frm dst fep flow ok) {vt : Value} {ep2 : Int} {up2 : List Bool} {hops2 : List (List Ed)} {okT : Nat → Prop} (hT : TopoV w okT vt ep2 up2 hops2) (hf : Few hops2) (b : Bool) (hr : mayOk nodes flows win que ep2 up2 hops2 = b) :
    Calls Try.prog 9 #[.agg #[.int .i64 nodes, .slice AF nF cF, .int .i64 win, .int .i64 que], vt] w fun e w' => e = .returned (.bool b) ∧ Below w.heap.size w w' := by
  rw [← hr]; exact may_calls w _ _ nodes flows win que ep2 up2 hops2 ⟨_, _, _, rfl, h.le, h.i.1, h.i.2.1, h.i.2.2, h.rf.mono fun k _ hk => hk⟩ (hT.mono fun k _ hk => hk) hf
theorem EB.newNo (h : EB w PC PF nodes AF nF cF flows win que AL nL ls r kind frm dst fep flow ok) (hc : configOk nodes flows win que = false) (x : Int) (hx : inI x) :
    Calls Try.prog 10 #[.agg #[.int .i64 nodes, .slice AF nF cF, .int .i64 win, .int .i64 que], .int .i64 x] w fun e w' => e = .returned (.tuple #[.pointer none, .int .i64 1]) ∧ Below w.heap.size w w' :=
  new_no w _ nodes flows win que x ⟨_, _, _, rfl, h.le, h.i.1, h.i.2.1, h.i.2.2, h.rf.mono fun k _ hk => hk⟩ hx (by unfold newOk; rw [hc]; rfl)
theorem EB.new (h : EB w PC PF nodes AF nF cF flows win que AL nL ls r kind frm dst fep flow ok) (hok : ∀ k, ok k → k < w.heap.size) (hc : configOk nodes flows win que = true) (x : Int) (h0 : 0 ≤ x) (h1 : x < nodes) :
    Calls Try.prog 10 #[.agg #[.int .i64 nodes, .slice AF nF cF, .int .i64 win, .int .i64 que], .int .i64 x] w fun e w' => ∃ M, e = .returned (.tuple #[.pointer (some ⟨M, 0, none⟩), .int .i64 0]) ∧ w.heap.size ≤ M ∧ MB w' M (fun k => ok k ∨ (w.heap.size ≤ k ∧ k ≠ M)) nodes flows win que x 0 [] [] ∧ Below w.heap.size w w' :=
  new_yes w _ nodes flows win que x ok hok ⟨_, _, _, rfl, h.le, h.i.1, h.i.2.1, h.i.2.2, h.rf⟩ hc h0 h1
theorem EB.f (h : EB w PC PF nodes AF nF cF flows win que AL nL ls r kind frm dst fep flow ok) : w.cell? ⟨PF, 0, none⟩ = some (.int .i64 kind) ∧ w.cell? ⟨PF, 1, none⟩ = some (.int .i64 frm) ∧ w.cell? ⟨PF, 2, none⟩ = some (.int .i64 dst) ∧ w.cell? ⟨PF, 3, none⟩ = some (.int .u64 fep) ∧ w.cell? ⟨PF, 4, none⟩ = some (.int .u64 r.life) ∧ w.cell? ⟨PF, 5, none⟩ = some (.int .i64 flow) ∧ w.cell? ⟨PF, 6, none⟩ = some (.int .u64 r.gen) ∧ w.cell? ⟨PF, 7, none⟩ = some (.int .u64 r.seq) ∧ w.cell? ⟨PF, 8, none⟩ = some (.int .u64 r.fo) ∧ w.cell? ⟨PF, 9, none⟩ = some (.slice r.A r.nA r.cA) ∧ w.cell? ⟨PF, 10, none⟩ = some (.slice r.B r.nB r.cB) ∧ w.cell? ⟨PF, 11, none⟩ = some (.slice r.C r.nC r.cC) ∧ w.cell? ⟨PF, 12, none⟩ = some (.int .u64 r.te) ∧ w.cell? ⟨PF, 13, none⟩ = some (.slice r.D r.nD r.cD) ∧ w.cell? ⟨PF, 14, none⟩ = some (.slice r.E r.nE r.cE) := by
  have hb := h.bf
  unfold frCells at hb
  refine ⟨?_, ?_, ?_, ?_, ?_, ?_, ?_, ?_, ?_, ?_, ?_, ?_, ?_, ?_, ?_⟩ <;> simp [World.cell?, hb]
theorem EB.fz (h : EB w PC PF nodes AF nF cF flows win que AL nL ls r kind frm dst fep flow ok) (i : Nat) : w.frozen? ⟨PF, i, none⟩ = false := by
  have hb := h.bf
  simp [World.frozen?, hb]
theorem of_zero {flows : List Flw} {node ep : Int} {hops : List (List Ed)} {kind frm dst fep flow : Int} (h : ofRes flows node ep hops kind frm dst fep flow = 0) : fep = ep ∧ fep ≠ 0 := by
  unfold ofRes at h
  split at h
  · cases h
  · split at h
    · cases h
    · rename_i hh
      omega
/-- The k-th topology. -/
theorem EB.el (h : EB w PC PF nodes AF nF cF flows win que AL nL ls r kind frm dst fep flow ok) {j : Nat} (hj : j < nL) :
    ∃ b o ep2 up2 hops2 A n c B m d, (ep2, up2, hops2) ∈ ls ∧ AL = some ⟨b, o, none⟩ ∧ (w.cell? ⟨b, o + j * 3, none⟩ = some (.int .u64 (ep2 : Int)) ∧ w.cell? ⟨b, o + j * 3 + 1, none⟩ = some (.slice A n c) ∧ w.cell? ⟨b, o + j * 3 + 2, none⟩ = some (.slice B m d)) ∧
      TopoV w ok (.agg #[.int .u64 (ep2 : Int), .slice A n c, .slice B m d]) (ep2 : Int) up2 hops2 ∧ ep2 ≤ 18446744073709551615 := by
  have hl := h.rl.len
  obtain ⟨⟨ep2, up2, hops2⟩, hx⟩ : ∃ t, ls[j]? = some t := ⟨ls[j]'(by omega), List.getElem?_eq_getElem _⟩
  obtain ⟨b, o, vs, hA, _, _, hV, hc⟩ := h.rl.at_ j _ hx
  obtain ⟨us, ws, rfl, ⟨rfl, he⟩, us2, ws2, rfl, ⟨A, n, c, rfl, hn, hr⟩, B, m, d, rfl, hm, hr2⟩ := hV
  refine ⟨b, o, ep2, up2, hops2, A, n, c, B, m, d, List.mem_of_getElem? hx, hA, ⟨?_, ?_, ?_⟩, ⟨_, _, _, _, _, _, rfl, hn, hm, hr, hr2⟩, he⟩
  · exact hc 0 _ rfl
  · exact (hc 1 _ rfl)
  · exact (hc 2 _ rfl)
end
theorem TopoV.chgT {w w' : World} {ok S : Nat → Prop} {v : Value} {ep : Int} {up : List Bool} {hops : List (List Ed)} (h : TopoV w ok v ep up hops) (hc : Chg S w w') (hs : ∀ b, b < w.heap.size → ok b → ¬ S b) : TopoV w' ok v ep up hops := by
  obtain ⟨A, n, c, B, m, d, rfl, h1, h2, h3, h4⟩ := h
  exact ⟨A, n, c, B, m, d, rfl, h1, h2, h3.chg hc hs, h4.chg hc hs⟩
theorem edge_there (hops : List (List Ed)) (k x y : Int) : (edgesOf hops k).any (fun e => e.1 == x && e.2 == y) = (prevOf hops k y).contains x := by
  rw [Bool.eq_iff_iff, List.contains_iff_mem, prev_in]
  simp only [List.any_eq_true, Bool.and_eq_true, beq_iff_eq]
  exact ⟨fun ⟨e, h, h1, h2⟩ => by rw [← h1, ← h2]; exact h, fun h => ⟨_, h, rfl, rfl⟩⟩
theorem edge_back (hops : List (List Ed)) (k x y : Int) : (edgesOf hops k).any (fun e => e.1 == y && e.2 == x) = (nextOf hops k y).contains x := by
  rw [Bool.eq_iff_iff, List.contains_iff_mem, next_in]
  simp only [List.any_eq_true, Bool.and_eq_true, beq_iff_eq]
  exact ⟨fun ⟨e, h, h1, h2⟩ => by rw [← h1, ← h2]; exact h, fun h => ⟨_, h, rfl, rfl⟩⟩
theorem any_takeE {α : Type} (p : α → Bool) (es : List α) (i : Nat) (e : α) (h : es[i]? = some e) : (es.take (i + 1)).any p = ((es.take i).any p || p e) := by
  rw [List.take_add_one, h]
  simp
theorem any_allE {α : Type} (p : α → Bool) (es : List α) (n : Nat) (h : es.length = n) : (es.take n).any p = es.any p := by rw [List.take_of_length_le (by omega)]
end Go.Proofs.Ythgnjojkncodeaa
