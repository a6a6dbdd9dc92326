/-
  A topology of one flow in a box, whose edges may be laid anew; plain laws on edges taken away, and laid again.
-/
import Derived.Test.YtgfnlfkbbedkaaaTpZ
import Derived.Test.YtgfnlfkbbedkaaaTpQ
namespace Go.Proofs.Ytgfnlfkbbedkaaa
open Go.RowKit
set_option linter.unusedVariables false

structure T1 (w : World) (P : Nat) (AU : Option Addr) (nU cU : Nat) (H d : Nat) (C : Option Addr) (p q : Nat) (ep : Int) (up : List Bool) (es : List Ed) : Prop where
  lt : P < w.heap.size
  cells : w.cell? ⟨P, 0, none⟩ = some (.int .u64 ep) ∧ w.cell? ⟨P, 1, none⟩ = some (.slice AU nU cU) ∧ w.cell? ⟨P, 2, none⟩ = some (.slice (some ⟨H, 0, none⟩) 1 d)
  hlt : H < w.heap.size
  hne : H ≠ P
  hd : 1 ≤ d
  edge : w.cell? ⟨H, 0, none⟩ = some (.slice C p q)
  free : w.frozen? ⟨H, 0, none⟩ = false
  hu : nU ≤ cU
  ru : Rd El.bool w (fun k => k < w.heap.size ∧ k ≠ H) AU nU up
  hpq : p ≤ q
  re : Rd elEd w (fun k => k < w.heap.size ∧ k ≠ H) C p es
section
variable {w w' : World} {P : Nat} {AU : Option Addr} {nU cU H d : Nat} {C : Option Addr} {p q : Nat} {ep : Int} {up : List Bool} {es es' : List Ed}
theorem T1.below (h : T1 w P AU nU cU H d C p q ep up es) (hb : Below w.heap.size w w') : T1 w' P AU nU cU H d C p q ep up es :=
  ⟨Nat.lt_of_lt_of_le h.lt hb.size, ⟨cellBelow hb h.cells.1, cellBelow hb h.cells.2.1, cellBelow hb h.cells.2.2⟩, Nat.lt_of_lt_of_le h.hlt hb.size, h.hne, h.hd, cellBelow hb h.edge, (hb.frozen (p := ⟨H, 0, none⟩) h.hlt).trans h.free, h.hu,
    (h.ru.below hb).mono fun k hk _ => ⟨Nat.lt_of_lt_of_le hk.1 hb.size, hk.2⟩, h.hpq, (h.re.below hb).mono fun k hk _ => ⟨Nat.lt_of_lt_of_le hk.1 hb.size, hk.2⟩⟩
theorem T1.box (h : T1 w P AU nU cU H d C p q ep up es) : TBox w P AU nU cU (some ⟨H, 0, none⟩) 1 d ep up [es] := by
  refine ⟨h.lt, h.cells, _, _, _, _, _, _, rfl, h.hu, h.hd, h.ru.mono fun k hk _ => hk.1, rfl, by decide, fun _ => ⟨H, 0, rfl, h.hlt, h.hlt, fun j x hj => ?_⟩⟩
  match j, hj with
  | 0, hj =>
    simp at hj; subst hj
    exact ⟨_, ⟨C, p, q, rfl, h.hpq, h.re.mono fun k hk _ => hk.1⟩, fun r u hu => by
      cases r with
      | zero => simp at hu; subst hu; simpa using h.edge
      | succ r => simp at hu⟩
  | j + 1, hj => simp at hj
theorem T1.put (h : T1 w P AU nU cU H d C p q ep up es) {C' : Option Addr} {p' q' : Nat} (hpq : p' ≤ q') (hr : Rd elEd w (fun k => k < w.heap.size ∧ k ≠ H) C' p' es') :
    T1 (w.setCell ⟨H, 0, none⟩ (.slice C' p' q')) P AU nU cU H d C' p' q' ep up es' := by
  have hc := Chg.set w ⟨H, 0, none⟩ (.slice C' p' q')
  have hs : (w.setCell ⟨H, 0, none⟩ (.slice C' p' q')).heap.size = w.heap.size := by simp [World.setCell]
  refine ⟨by rw [hs]; exact h.lt, ⟨hc.cell h.cells.1 fun e => h.hne (Eq.symm e), hc.cell h.cells.2.1 fun e => h.hne (Eq.symm e), hc.cell h.cells.2.2 fun e => h.hne (Eq.symm e)⟩, by rw [hs]; exact h.hlt, h.hne, h.hd, ?_, ?_, h.hu,
    (h.ru.chg hc fun k _ hk e => hk.2 e).mono fun k hk _ => ⟨by rw [hs]; exact hk.1, hk.2⟩, hpq, (hr.chg hc fun k _ hk e => hk.2 e).mono fun k hk _ => ⟨by rw [hs]; exact hk.1, hk.2⟩⟩
  · exact World.cell?_setCell_same _ _ _ h.edge
  · rw [World.frozen?_setCell]; exact h.free
/-- The edges are laid anew behind a change elsewhere. -/
theorem T1.chg {w1 : World} {D SU : Nat → Prop} {C' : Option Addr} {p' q' : Nat} (h : T1 w P AU nU cU H d C p q ep up es) (hU : Own El.bool 4 w SU (.slice AU nU cU) up) (hSU : ∀ k, SU k → k ≠ H) (hm : up.length ≤ 9223372036854775807) (hc : Chg D w w1) (hD : ∀ k, D k → k ≠ P ∧ k ≠ H ∧ ¬ SU k)
    (hpq : p' ≤ q') (hr : Rd elEd w1 (fun k => k < w1.heap.size ∧ k ≠ H) C' p' es') :
    T1 (w1.setCell ⟨H, 0, none⟩ (.slice C' p' q')) P AU nU cU H d C' p' q' ep up es' := by
  have hUl := hU.chg hc fun k _ hk hd => (hD k hd).2.2 hk
  obtain ⟨A', c', e', hc', hrU⟩ := hUl.rd hm
  injection e' with e1 e2 e3
  subst e1 e2 e3
  have hs := Chg.set w1 ⟨H, 0, none⟩ (.slice C' p' q')
  have hss : (w1.setCell ⟨H, 0, none⟩ (.slice C' p' q')).heap.size = w1.heap.size := by simp [World.setCell]
  have hP : ¬ D P := fun hd => (hD P hd).1 rfl
  have hH : ¬ D H := fun hd => (hD H hd).2.1 rfl
  have hcell : w1.cell? ⟨H, 0, none⟩ = some (.slice C p q) := hc.cell h.edge hH
  have hfro : w1.frozen? ⟨H, 0, none⟩ = false := by
    have := h.free
    unfold World.frozen? at this ⊢
    rw [hc.block H h.hlt hH]
    exact this
  refine ⟨by rw [hss]; exact Nat.lt_of_lt_of_le h.lt hc.size, ⟨hs.cell (hc.cell h.cells.1 hP) fun e => h.hne (Eq.symm e), hs.cell (hc.cell h.cells.2.1 hP) fun e => h.hne (Eq.symm e), hs.cell (hc.cell h.cells.2.2 hP) fun e => h.hne (Eq.symm e)⟩, by rw [hss]; exact Nat.lt_of_lt_of_le h.hlt hc.size, h.hne, h.hd, ?_, ?_, h.hu,
    ?_, hpq, (hr.chg hs fun k _ hk e => hk.2 e).mono fun k hk _ => ⟨by rw [hss]; exact hk.1, hk.2⟩⟩
  · exact World.cell?_setCell_same _ _ _ hcell
  · rw [World.frozen?_setCell]; exact hfro
  · exact ((hrU.mono (ok' := fun k => k < w1.heap.size ∧ k ≠ H) fun k hk hl => ⟨hl, hSU k hk⟩).chg hs fun k _ hk e => hk.2 e).mono fun k hk _ => ⟨by rw [hss]; exact hk.1, hk.2⟩
/-- What Copy leaves, laid in a box. -/
theorem T1.made {L : Nat} {v : Value} (hT : TOwn L w v ep up [es]) (hm : up.length ≤ 9223372036854775807) (hme : es.length ≤ 9223372036854775807) : ∃ AU nU cU H d C p q, v = .agg #[.int .u64 ep, .slice AU nU cU, .slice (some ⟨H, 0, none⟩) 1 d] ∧
    T1 (w.alloc (.cells #[.int .u64 ep, .slice AU nU cU, .slice (some ⟨H, 0, none⟩) 1 d] 27)) w.heap.size AU nU cU H d C p q ep up es ∧
    Own elEd 42 (w.alloc (.cells #[.int .u64 ep, .slice AU nU cU, .slice (some ⟨H, 0, none⟩) 1 d] 27)) (fun k => L ≤ k ∧ k < w.heap.size ∧ k ≠ H ∧ (Value.slice AU nU cU).ownBlock ≠ some k) (.slice C p q) es ∧
    Own El.bool 4 (w.alloc (.cells #[.int .u64 ep, .slice AU nU cU, .slice (some ⟨H, 0, none⟩) 1 d] 27)) (fun k => L ≤ k ∧ k < w.heap.size ∧ k ≠ H ∧ (Value.slice AU nU cU).ownBlock = some k) (.slice AU nU cU) up ∧ L ≤ H := by
  obtain ⟨vU, vH, rfl, hU, hH⟩ := hT
  obtain ⟨g, cap, vs, rfl, hSg, hgl, hcap, ⟨ve, rfl, hown⟩, hcl, hfr⟩ := hH.at_ 0 es rfl
  have hUl := hU.lt
  have hel := hown.lt
  have hU2 := hU.shrink (S' := fun k => L ≤ k ∧ k < w.heap.size ∧ k ≠ g ∧ vU.ownBlock = some k) flat_bool fun k hk => ⟨(hUl k hk).1, (hUl k hk).2, fun e => hSg.2 (by rw [← e]; exact hk), hk⟩
  have hE2 := hown.shrink (S' := fun k => L ≤ k ∧ k < w.heap.size ∧ k ≠ g ∧ vU.ownBlock ≠ some k) flat_ed fun k hk => ⟨(hel k hk).1.1.1, (hel k hk).2, (hel k hk).1.2, (hel k hk).1.1.2⟩
  obtain ⟨AU, cU, rfl, hcU, hRU⟩ := hU2.rd hm
  obtain ⟨C, q, rfl, hpq, hrd⟩ := hE2.rd hme
  have b1 : Below w.heap.size w (w.alloc (.cells #[.int .u64 ep, .slice AU up.length cU, .slice (some ⟨g, 0, none⟩) 1 cap] 27)) := (Below.refl _ _).alloc (Nat.le_refl _) _
  have hc0 : w.cell? ⟨g, 0, none⟩ = some (.slice C es.length q) := by simpa using hcl 0 _ rfl
  exact ⟨AU, _, cU, g, cap, C, _, q, rfl, ⟨by simp, by simp, by simp; omega, by omega, hcap, cellBelow b1 hc0, (b1.frozen (p := ⟨g, 0, none⟩) hgl).trans (hfr 0), hcU, (hRU.below b1).mono fun k hk _ => ⟨by simp; omega, hk.2.2.1⟩, hpq,
    (hrd.below b1).mono fun k hk _ => ⟨Nat.lt_of_lt_of_le hk.2.1 b1.size, hk.2.2.1⟩⟩, hE2.below b1, hU2.below b1, hSg.1⟩
end
/-- The edges' cell of a topology of one flow. -/
theorem TBox.first {w : World} {P : Nat} {A : Option Addr} {n c : Nat} {B : Option Addr} {m d : Nat} {ep : Int} {up : List Bool} {es : List Ed} (h : TBox w P A n c B m d ep up [es]) :
    ∃ b o C p q, B = some ⟨b, o, none⟩ ∧ m = 1 ∧ b < w.heap.size ∧ w.cell? ⟨b, o, none⟩ = some (.slice C p q) ∧ p ≤ q ∧ Rd elEd w (fun k => k < w.heap.size) C p es := by
  obtain ⟨A', n', c', B', m', d', e, h1, h2, h3, h4⟩ := h.tv
  injection e with e
  have e0 := congrArg Array.toList e
  simp at e0
  obtain ⟨⟨rfl, rfl, rfl⟩, rfl, rfl, rfl⟩ := e0
  have hm := h4.len
  simp at hm
  obtain ⟨b, o, vs, rfl, _, hb, ⟨C, p, q, rfl, hpq, hrd⟩, hcl⟩ := h4.at_ 0 es rfl
  have hc0 := hcl 0 _ rfl
  exact ⟨b, o, C, p, q, rfl, hm.symm, hb, by simpa using hc0, hpq, hrd⟩
theorem cutFullR {α : Type} {P : Program} (E : El α) (t : TypeId) (ht : P.underlying t = some (.slice (P.elem t))) (hs : ∀ W, (sizeOf (P.elem t)).run P W = .ok E.k W) (A : Option Addr) (n c hi : Nat) (h2 : hi ≤ n) (h3 : n ≤ c) (hA : A = none → n = 0) :
    ∃ A' : Option Addr, (∀ (kh km : IntKind) (W : World), (Instr.slice t (.slice A n c) none (some (.int kh (hi : Int))) (some (.int km (hi : Int)))).run P W = .ok (.slice A' hi hi) W) ∧ (A' = none → hi = 0) ∧
      ∀ (w : World) (ok : Nat → Prop) (xs : List α), Rd E w ok A n xs → Rd E w ok A' hi (xs.take hi) := by
  refine ⟨if hi = 0 then A else A.map fun a => a.add (0 * E.k), fun kh km W => ?_, fun e => ?_, fun w ok xs h => ?_⟩
  · rw [run_slice_hm W _ A n c ht kh km hi hi (by omega) (by omega) (by omega), hs]
    rfl
  · rcases Nat.eq_zero_or_pos hi with h0 | h0
    · exact h0
    · rw [if_neg (by omega)] at e
      cases A with
      | none => have := hA rfl; omega
      | some a => cases e
  · rcases Nat.eq_zero_or_pos hi with h0 | h0
    · subst h0
      rw [List.take_zero]
      exact Rd.nil _ _ _ _
    · have h5 := h.cut (c := c) (lo := 0) (hi := hi) (Nat.zero_le _) h2 h3
      rw [if_neg (by omega)] at h5
      rw [if_neg (by omega)]
      exact h5
/-- What Order hands back, in one form. -/
def errOf (ro : Option (List Int)) : Int := if ro.isSome then 0 else 1
def RetX (w : World) (ro : Option (List Int)) (e : Ending) (w' : World) : Prop := ∃ A n c, e = .returned (.tuple #[.slice A n c, .int .i64 (errOf ro)]) ∧ RowI w' A n (ro.getD []) ∧ Below w.heap.size w w'
theorem RetO.x {w : World} {ro : Option (List Int)} {e : Ending} {w' : World} (h : RetO w ro e w') : RetX w ro e w' := by
  cases ro with
  | none => exact ⟨none, 0, 0, h.1, RdI.nil _ _ _, h.2⟩
  | some o =>
    obtain ⟨v, rfl, hO, hb⟩ := h
    obtain ⟨A, N, c, rfl, _, hr, _⟩ := hO.row
    exact ⟨A, N, c, rfl, hr, hb⟩
theorem TBox.orderX {w : World} {P : Nat} {A : Option Addr} {n c : Nat} {B : Option Addr} {m d : Nat} {ep : Int} {up : List Bool} {es : List Ed} (h : TBox w P A n c B m d ep up [es]) (hf : Few [es]) (ro : Option (List Int)) (hr : orderOf es = ro) :
    Calls Try.prog 10 #[.agg #[.int .u64 ep, .slice A n c, .slice B m d], .int .i64 0] w (RetX w ro) := by
  have := h.order hf 0 es rfl
  rw [hr] at this
  exact this.mono fun _ _ h => RetO.x h
/-! ### Plain laws -/
theorem reach_sub {a b : List Ed} (h : ∀ e ∈ a, e ∈ b) {x y : Int} (hr : Reaches a x y) : Reaches b x y := by
  induction hr with
  | one h1 => exact .one (h _ h1)
  | more _ h1 ih => exact .more ih (h _ h1)
theorem reach_ext {a b : List Ed} (h : ∀ e, e ∈ a ↔ e ∈ b) (x y : Int) : Reaches a x y ↔ Reaches b x y := ⟨reach_sub fun e he => (h e).1 he, reach_sub fun e he => (h e).2 he⟩
theorem free_ext {a b : List Ed} (h : ∀ e, e ∈ a ↔ e ∈ b) : free a = free b := by
  funext left n
  unfold free
  congr 1
  rw [Bool.eq_iff_iff, List.any_eq_true, List.any_eq_true]
  constructor
  · rintro ⟨e, h1, h2⟩; exact ⟨e, (h e).1 h1, h2⟩
  · rintro ⟨e, h1, h2⟩; exact ⟨e, (h e).2 h1, h2⟩
theorem loop_ext {a b : List Ed} (h : ∀ e, e ∈ a ↔ e ∈ b) : ∀ (f : Nat) (left out : List Int), orderLoop a f left out = orderLoop b f left out
  | f, [], out => by cases f <;> rfl
  | 0, _ :: _, out => rfl
  | f + 1, l :: ls, out => by
    show (match (l :: ls).findIdx? (free a (l :: ls)) with | none => none | some i => orderLoop a f ((l :: ls).eraseIdx i) (out ++ [(l :: ls)[i]?.getD 0])) =
      (match (l :: ls).findIdx? (free b (l :: ls)) with | none => none | some i => orderLoop b f ((l :: ls).eraseIdx i) (out ++ [(l :: ls)[i]?.getD 0]))
    rw [free_ext h]
    cases (l :: ls).findIdx? (free b (l :: ls)) with
    | none => rfl
    | some i => exact loop_ext h f _ _
theorem order_ext {a b : List Ed} (h : ∀ e, e ∈ a ↔ e ∈ b) : orderOf a = orderOf b := by
  have hn : nodesOf a = nodesOf b := rise_ext _ _ (nodes_spec a).1 (nodes_spec b).1 fun x => by
    rw [(nodes_spec a).2, (nodes_spec b).2]
    constructor
    · rintro ⟨e, h1, h2⟩; exact ⟨e, (h e).1 h1, h2⟩
    · rintro ⟨e, h1, h2⟩; exact ⟨e, (h e).2 h1, h2⟩
  unfold orderOf
  rw [hn, loop_ext h]
theorem order_less {a b : List Ed} (h : ∀ e ∈ a, e ∈ b) {o : List Int} (ho : orderOf b = some o) : ∃ o', orderOf a = some o' := by
  cases hq : orderOf a with
  | some o' => exact ⟨o', rfl⟩
  | none =>
    obtain ⟨x, hx⟩ := (order_none_iff a).1 hq
    have := (order_none_iff b).2 ⟨x, reach_sub h hx⟩
    rw [ho] at this; cases this
theorem again_mem (es : List Ed) (k : Nat) (x : Ed) (hx : es[k]? = some x) : ∀ e, e ∈ es.take k ++ es.drop (k + 1) ++ [x] ↔ e ∈ es := by
  intro e
  have hk : k < es.length := (List.getElem?_eq_some_iff.1 hx).1
  have hxk : es[k] = x := by rw [List.getElem?_eq_getElem hk] at hx; injection hx
  have hs : es.take k ++ x :: es.drop (k + 1) = es := by
    rw [← hxk, ← List.drop_eq_getElem_cons hk, List.take_append_drop]
  constructor
  · intro h
    rw [← hs]
    simp only [List.mem_append, List.mem_cons, List.mem_singleton, List.not_mem_nil, or_false] at h ⊢
    rcases h with (h | h) | h
    · exact .inl h
    · exact .inr (.inr h)
    · exact .inr (.inl h)
  · intro h
    rw [← hs] at h
    simp only [List.mem_append, List.mem_cons, List.mem_singleton, List.not_mem_nil, or_false] at h ⊢
    rcases h with h | h | h
    · exact .inl (.inl h)
    · exact .inr h
    · exact .inl (.inr h)
theorem less_mem (es : List Ed) (k : Nat) : ∀ e ∈ es.take k ++ es.drop (k + 1), e ∈ es := fun e he => by
  rcases List.mem_append.1 he with h | h
  · exact List.mem_of_mem_take h
  · exact List.mem_of_mem_drop h
theorem rows_ext {a b : List Ed} (h : ∀ e, e ∈ a ↔ e ∈ b) {x : Int} {xs ys : List Int} (h1 : xs.Pairwise (· < ·)) (h2 : ∀ y, y ∈ xs ↔ Reaches a x y) (h3 : ys.Pairwise (· < ·)) (h4 : ∀ y, y ∈ ys ↔ Reaches b x y) : xs = ys :=
  rise_ext _ _ h1 h3 fun y => (h2 y).trans ((reach_ext h x y).trans (h4 y).symm)
end Go.Proofs.Ytgfnlfkbbedkaaa
