/-
  NetTrue: words.
-/
import Derived.Test.YtmkmbnfmmibifaaNetL
import Derived.Test.YtmkmbnfmmibifaaSt3
namespace Go.Proofs.Ytmkmbnfmmibifaa
open Go.RowKit

/-- A row that may be appended to: it is owned, or full. -/
def Keep {α : Type} (E : El α) (T : TypeId) (w : World) (B : Nat) (K : Nat → Prop) (v : Value) (xs : List α) : Prop :=
  (Own E T w K v xs ∧ ∀ q, v.ownBlock = some q → B ≤ q) ∨ ∃ A, v = .slice A xs.length xs.length ∧ (A = none → xs.length = 0) ∧ Rd E w K A xs.length xs
section
variable {α : Type} {E : El α} {T : TypeId} {w w' : World} {B : Nat} {K K' D ok : Nat → Prop} {v : Value} {xs ys : List α}
theorem Keep.nil (E : El α) (T : TypeId) (w : World) (B : Nat) (K : Nat → Prop) : Keep E T w B K (.slice none 0 0) [] := .inl ⟨Own.nil _ _ _ _, fun q hq => by simp [Value.ownBlock] at hq⟩
theorem Keep.rd (h : Keep E T w B K v xs) (hm : xs.length ≤ 9223372036854775807) : ∃ A c, v = .slice A xs.length c ∧ xs.length ≤ c ∧ (A = none → xs.length = 0) ∧ Rd E w K A xs.length xs := by
  rcases h with ⟨h, _⟩ | ⟨A, e, hA, hr⟩
  · obtain ⟨A, c, e, hc, hr⟩ := h.rd hm
    refine ⟨A, c, e, hc, fun e2 => ?_, hr⟩
    rcases Nat.eq_zero_or_pos xs.length with h0 | h0
    · exact h0
    · obtain ⟨b, o, e3, _⟩ := hr.2.2 h0
      rw [e2] at e3
      cases e3
  · exact ⟨A, _, e, Nat.le_refl _, hA, hr⟩
theorem Keep.chg (h : Keep E T w B K v xs) (hc : Chg D w w') (hs : ∀ k, K k → ¬ D k) : Keep E T w' B K v xs := by
  rcases h with ⟨h, hq⟩ | ⟨A, e, hA, hr⟩
  · exact .inl ⟨h.chg hc fun k _ hk => hs k hk, hq⟩
  · exact .inr ⟨A, e, hA, hr.chg hc fun k _ hk => hs k hk⟩
theorem Keep.below (h : Keep E T w B K v xs) (hb : Below w.heap.size w w') : Keep E T w' B K v xs := h.chg (D := NoB) (Chg.ofBelow hb) fun _ _ h => h
theorem Keep.mono (h : Keep E T w B K v xs) (hk : ∀ k, k < w.heap.size → K k → K' k) : Keep E T w B K' v xs := by
  rcases h with ⟨h, hq⟩ | ⟨A, e, hA, hr⟩
  · exact .inl ⟨h.mono hk, hq⟩
  · exact .inr ⟨A, e, hA, hr.mono fun k h1 h2 => hk k h2 h1⟩
/-- append(s[:n:n], others...): s itself where nothing is appended, or a new row. -/
theorem run_app_keep {P : Program} {W : World} (st ty : TypeId) (i : TypeInfo) (z : Value) (bytes : Nat) (ht : P.underlying st = some (.slice T)) (hi : P.info? T = some i) (hz : i.zero = some z)
    (hsize : i.size = E.k) (hby : i.bytes = bytes) (hzs : z.cells.size = E.k) (hk : 0 < E.k) (A : Option Addr) (n : Nat) (HX : Rd E W ok A n xs) (hA : A = none → n = 0) (A' : Option Addr) (m c : Nat) (HY : Rd E W ok A' m ys)
    (hm : n + m ≤ maxLen) (hb : (n + m) * bytes ≤ 140737488355328) (hB : B ≤ W.heap.size) :
    ∃ v1 w1, (Builtin.append_ #[st, st] ty #[.slice A n n, .slice A' m c]).run P W = .ok v1 w1 ∧ Keep E T w1 B (fun k => ok k ∨ New W w1 k) v1 (xs ++ ys) ∧ (0 < m → Own E T w1 (fun k => ok k ∨ New W w1 k) v1 (xs ++ ys)) ∧ Below W.heap.size W w1 := by
  have hxl := HX.len
  have hyl := HY.len
  rcases Nat.eq_zero_or_pos m with h0 | h0
  · subst h0
    obtain ⟨A1, c1, w1, hr, h1, h2, h3, h4⟩ := run_app_full (P := P) (W := W) st ty i z bytes ht hi hz hsize hby hzs hk A n HX hA A' 0 c HY hm hb
    obtain rfl : ys = [] := List.eq_nil_of_length_eq_zero hyl
    have hl0 : ∀ ad : Addr, (loadCells ad 0).run P W = .ok #[] W := fun _ => rfl
    have hr2 : (Builtin.append_ #[st, st] ty #[.slice A n n, .slice A' 0 c]).run P W = .ok (.slice A n n) W := by
      cases A' with
      | none =>
        cases A with
        | none => simp [Builtin.append_, run_underlying ht, sizeOf, typeInfo, hi, Builtin.lenOf, Builtin.firstCells]
        | some a0 => simp [Builtin.append_, run_underlying ht, sizeOf, typeInfo, hi, Builtin.lenOf, Builtin.firstCells, storeCells]
      | some ad =>
        cases A with
        | none =>
          have := hA rfl
          subst this
          simp [Builtin.append_, run_underlying ht, sizeOf, typeInfo, hi, Builtin.lenOf, Builtin.firstCells, hl0]
        | some a0 => simp [Builtin.append_, run_underlying ht, sizeOf, typeInfo, hi, Builtin.lenOf, Builtin.firstCells, hl0, storeCells]
    refine ⟨_, W, hr2, .inr ⟨A, by rw [List.append_nil, hxl], by rw [List.append_nil, hxl]; exact hA, ?_⟩, fun h => absurd h (by omega), Below.refl _ _⟩
    rw [List.append_nil, hxl]
    exact HX.mono fun k hk _ => .inl hk
  · suffices h : ∃ v1 w1, (Builtin.append_ #[st, st] ty #[.slice A n n, .slice A' m c]).run P W = .ok v1 w1 ∧ (Own E T w1 (fun k => ok k ∨ New W w1 k) v1 (xs ++ ys) ∧ ∀ q, v1.ownBlock = some q → W.heap.size ≤ q) ∧ Below W.heap.size W w1 by
      obtain ⟨v1, w1, h1, h2, h3⟩ := h
      exact ⟨v1, w1, h1, .inl ⟨h2.1, fun q hq => by have := h2.2 q hq; omega⟩, fun _ => h2.1, h3⟩
    cases A with
    | none =>
      have := hA rfl
      subst this
      obtain rfl : xs = [] := List.eq_nil_of_length_eq_zero hxl
      obtain ⟨v1, w1, hr, q2, q3, q5⟩ := Own.apps (E := E) (T := T) (P := P) (W := W) st ty i z bytes ht hi hz hsize hby hzs hk (Own.nil E T W ok) HY (fun q _ hq => ⟨hq, by simp [Value.ownBlock]⟩) (by simpa using hm) (by simpa using hb) c
      have hb1 : Below W.heap.size W w1 := (Below.refl _ _).grown q3 (Nat.le_refl _) (fun k hk => by simp [Value.ownBlock] at hk)
      refine ⟨v1, w1, hr, ⟨q2.mono fun k hl hk => hk.imp_right fun e => ⟨by omega, hl⟩, fun q hq => ?_⟩, hb1⟩
      rcases q5 with q5 | q5
      · rw [q5] at hq; simp [Value.ownBlock] at hq
      · rw [q5] at hq; injection hq with hq; omega
    | some a0 =>
      obtain ⟨b', o', e', _, _, hc'⟩ := HY.2.2 h0
      subst e'
      obtain ⟨wss, k1, k2⟩ := Rd.cells (E := E) hk ys b' o' hc'
      have hnews : ∀ j u, wss.flatten[j]? = some u → W.cell? ((⟨b', o', none⟩ : Addr).add j) = some u := fun j u hu => by rw [addPlain]; exact k2 j u hu
      have hol : ∃ vss, Cells E W ok vss xs ∧ ∀ j u, vss.flatten[j]? = some u → W.cell? (a0.add j) = some u := by
        rcases Nat.eq_zero_or_pos n with h1 | h1
        · obtain rfl : xs = [] := List.eq_nil_of_length_eq_zero (by omega)
          exact ⟨[], .nil, fun j u h => by simp at h⟩
        · obtain ⟨b, o, e, _, _, hc⟩ := HX.2.2 h1
          injection e with e
          subst e
          obtain ⟨vss, j1, j2⟩ := Rd.cells (E := E) hk xs b o hc
          exact ⟨vss, j1, fun j u hu => by rw [addPlain]; exact j2 j u hu⟩
      obtain ⟨vss, j1, j2⟩ := hol
      obtain ⟨v1, w1, hr, q2, q3⟩ := run_append_arg_grows (P := P) W st ty T i z E.k bytes ht hi hz hsize hby hzs hk a0 n n vss.flatten (by rw [j1.flat, hxl]) j2 ⟨b', o', none⟩ m c wss.flatten (by rw [k1.flat, hyl]) hnews (by omega) hm hb
      have hb1 : Below W.heap.size W w1 := (Below.refl _ _).grown q3 (Nat.le_refl _) (fun k hk => by cases hk)
      rcases q2.2 with ⟨_, h2⟩ | ⟨g, cap, cur, rfl, hgb, hgr⟩
      · omega
      · have hgl : g < w1.heap.size := (Array.getElem?_eq_some_iff.1 hgr.1).1
        have hall : Cells E W ok (vss ++ wss) (xs ++ ys) := j1.append k1
        refine ⟨_, w1, hr, ⟨⟨vss ++ wss, ?_, ?_, fun q hq => ?_⟩, fun q hq => ?_⟩, hb1⟩
        · refine ((hall.mono (ok' := fun k => ok k ∧ k < W.heap.size) fun k hk hl => ⟨hk, hl⟩).keep hb1.size fun k hk hl => hb1.block k hl).mono fun k hk _ => ⟨.inl hk.1, fun e => ?_⟩
          injection e with e
          have e : k = g := e
          have := hk.2
          omega
        · rw [List.length_append, hxl, hyl, List.flatten_append]
          exact ⟨q2.1, .inr ⟨g, cap, cur, rfl, Nat.zero_le _, hgr⟩⟩
        · injection hq with hq; subst hq; exact .inr ⟨hgb, hgl⟩
        · injection hq with hq; subst hq; exact hgb
/-- The step of a region that draws: append(s[:n:n], others...). -/
theorem stepKeep {P : Program} {ops : Array Oper} {o : Oper} {a : Act} {Q : Exit → Act → World → Prop} {G : Act → World → Prop} {X : Prop} {W : World} (B : Nat) (hgd : o.guard = none) (s y : Operand) (st : TypeId)
    (ho : o.op = .call { callee := .builtin .append, args := #[s, y], argTypes := #[st, st] }) (i : TypeInfo) (z : Value) (bytes : Nat) (ht : P.underlying st = some (.slice T)) (hi : P.info? T = some i) (hz : i.zero = some z)
    (hsize : i.size = E.k) (hby : i.bytes = bytes) (hzs : z.cells.size = E.k) (hk : 0 < E.k) (A : Option Addr) (n : Nat) (hs : a.eval s = .slice A n n) (HX : Rd E W ok A n xs) (hA : A = none → n = 0) (A' : Option Addr) (m c : Nat) (hy : a.eval y = .slice A' m c) (HY : Rd E W ok A' m ys)
    (hm : n + m ≤ maxLen) (hb : (n + m) * bytes ≤ 140737488355328) (hB : B ≤ W.heap.size)
    (h : ∀ v1 w1, Keep E T w1 B (fun k => ok k ∨ New W w1 k) v1 (xs ++ ys) → Below W.heap.size W w1 → G (a.put o.dst v1) w1) :
    if Region.wanted o (yielded ops a.tmps) = true then Oper.wp P o a W G Q else X := by
  have hw : Region.wanted o (yielded ops a.tmps) = true := by simp [Region.wanted, hgd]
  rw [if_pos hw]
  obtain ⟨v1, w1, hr, h1, _, h4⟩ := run_app_keep (B := B) st o.type i z bytes ht hi hz hsize hby hzs hk A n HX hA A' m c HY hm hb hB
  unfold Oper.wp execOp
  simp only [ho, resolve, invoke, builtin, Sem.run_bind, Sem.run_pure, Result.andThen_ok, List.map_toArray, List.map_cons, List.map_nil, hs, hy, hr]
  exact h v1 w1 h1 h4
/-- append(s, x). -/
theorem Keep.run_one {P : Program} {W : World} (st ty : TypeId) (i : TypeInfo) (z : Value) (bytes : Nat) (ht : P.underlying st = some (.slice T)) (hi : P.info? T = some i) (hz : i.zero = some z)
    (hsize : i.size = E.k) (hby : i.bytes = bytes) (hzs : z.cells.size = E.k) (hk : 0 < E.k) (HO : Keep E T W B K v xs) (b c : Nat) (hbl : b < W.heap.size) (hKb : K b) (vs : List Value) (x : α) (hV : E.V W (fun k => K k ∧ k < B) vs x)
    (hx : ∀ j u, vs[j]? = some u → W.cell? ((⟨b, 0, none⟩ : Addr).add j) = some u) (hm : xs.length + 1 ≤ maxLen) (hb : (xs.length + 1) * bytes ≤ 140737488355328) (hB : B ≤ W.heap.size) :
    ∃ v1 w1, (Builtin.append_ #[st, st] ty #[v, .slice (some ⟨b, 0, none⟩) 1 c]).run P W = .ok v1 w1 ∧ Keep E T w1 B (fun k => K k ∨ New W w1 k) v1 (xs ++ [x]) ∧ Chg (fun k => K k ∧ B ≤ k) W w1 := by
  rcases HO with ⟨h, hq⟩ | ⟨A, rfl, hA, hr⟩
  · obtain ⟨v1, w1, hr, h2, h3, h5⟩ := Own.app st ty i z bytes ht hi hz hsize hby hzs hk h ⟨b, 0, none⟩ vs x (E.mono hV fun k hk _ => ⟨hk.1, fun e => by have := hq k e.symm; have := hk.2; omega⟩) hx hm hb c
    refine ⟨v1, w1, hr, .inl ⟨h2.mono fun k hl hk => hk.imp_right fun e => ⟨by omega, hl⟩, fun q hq1 => ?_⟩, (Chg.ofGrown h3).mono fun k _ hk => ⟨(h.lt k hk.symm).1, hq k hk.symm⟩⟩
    rcases h5 with h5 | h5
    · exact hq q (h5.symm.trans hq1)
    · rw [h5] at hq1; injection hq1 with hq1; omega
  · have HY : Rd E W K (some ⟨b, 0, none⟩) 1 [x] := ⟨rfl, by decide, fun _ => ⟨b, 0, rfl, hKb, hbl, fun j y hy => by
      have hj : j = 0 := by have := (List.getElem?_eq_some_iff.1 hy).1; simp at this; exact this
      subst hj
      injection hy with hy
      subst hy
      exact ⟨vs, E.mono hV fun k hk _ => hk.1, fun r u hu => by have := hx r u hu; rw [addPlain] at this; simpa using this⟩⟩⟩
    obtain ⟨v1, w1, hr1, h1, _, h4⟩ := run_app_keep (B := B) (P := P) st ty i z bytes ht hi hz hsize hby hzs hk A xs.length hr hA _ 1 c HY hm hb hB
    exact ⟨v1, w1, hr1, h1, Chg.ofBelow h4⟩
theorem Keep.list {P : Program} {ops : Array Oper} {rest : List Oper} {o : Oper} {a : Act} {Q : Exit → Act → World → Prop} {W : World} (hgd : Region.wanted o (yielded ops a.tmps) = true) (s y : Operand) (st : TypeId)
    (ho : o.op = .call { callee := .builtin .append, args := #[s, y], argTypes := #[st, st] }) (i : TypeInfo) (z : Value) (bytes : Nat) (ht : P.underlying st = some (.slice T)) (hi : P.info? T = some i) (hz : i.zero = some z)
    (hsize : i.size = E.k) (hby : i.bytes = bytes) (hzs : z.cells.size = E.k) (hk : 0 < E.k) (hs : a.eval s = v) (HO : Keep E T W B K v xs) (b c : Nat) (hbl : b < W.heap.size) (hKb : K b) (vs : List Value) (x : α) (hy : a.eval y = .slice (some ⟨b, 0, none⟩) 1 c) (hV : E.V W (fun k => K k ∧ k < B) vs x)
    (hx : ∀ j u, vs[j]? = some u → W.cell? ((⟨b, 0, none⟩ : Addr).add j) = some u) (hm : xs.length + 1 ≤ maxLen) (hb : (xs.length + 1) * bytes ≤ 140737488355328) (hB : B ≤ W.heap.size)
    (h : ∀ v1 w1, Keep E T w1 B (fun k => K k ∨ New W w1 k) v1 (xs ++ [x]) → Chg (fun k => K k ∧ B ≤ k) W w1 → wpList P ops Q rest (a.put o.dst v1) w1) :
    wpList P ops Q (o :: rest) a W := by
  obtain ⟨v1, w1, hr, h2, h3⟩ := Keep.run_one st o.type i z bytes ht hi hz hsize hby hzs hk HO b c hbl hKb vs x hV hx hm hb hB
  refine wpList_wanted hgd fun G hG => ?_
  unfold Oper.wp execOp
  simp only [ho, resolve, invoke, builtin, Sem.run_bind, Sem.run_pure, Result.andThen_ok, List.map_toArray, List.map_cons, List.map_nil, hs, hy, hr]
  exact hG _ _ (h v1 w1 h2 h3)
end
abbrev Tr := Opr × List UInt8 × Bool
abbrev elTr : El Tr := El.prod elOp (El.prod El.bytes El.bool)
abbrev TT : TypeId := 33
theorem tr_open {w : World} {ok : Nat → Prop} {vs : List Value} {t : Tr} (h : elTr.V w ok vs t) : ∃ A n c B m d, vs = [.int .i64 t.1.1, .int .i64 t.1.2.1, .int .i64 t.1.2.2.1, .int .i64 t.1.2.2.2.1, .slice A n c, .slice B m d, .bool t.2.2] ∧
    n ≤ c ∧ m ≤ d ∧ inI t.1.1 ∧ inI t.1.2.1 ∧ inI t.1.2.2.1 ∧ inI t.1.2.2.2.1 ∧ RdB w ok A n t.1.2.2.2.2 ∧ RdB w ok B m t.2.1 := by
  obtain ⟨us, ws, rfl, h1, _, _, rfl, ⟨B, m, d, rfl, h2, h3⟩, rfl⟩ := h
  obtain ⟨A, n, c, rfl, h4, h5, h6, h7, h8, h9⟩ := op_open h1
  exact ⟨A, n, c, B, m, d, rfl, h4, h2, h5, h6, h7, h8, h9, h3⟩
theorem tr_mk {w : World} {ok : Nat → Prop} {A B : Option Addr} {n c m d : Nat} {a f t p : Int} {xs ys : List UInt8} {b : Bool} (ha : inI a) (hf : inI f) (ht : inI t) (hp : inI p) (hc : n ≤ c) (hd : m ≤ d) (hr : RdB w ok A n xs) (hr2 : RdB w ok B m ys) :
    elTr.V w ok [.int .i64 a, .int .i64 f, .int .i64 t, .int .i64 p, .slice A n c, .slice B m d, .bool b] ((a, f, t, p, xs), ys, b) :=
  ⟨_, _, rfl, ⟨_, _, rfl, ⟨rfl, ha⟩, _, _, rfl, ⟨rfl, hf⟩, _, _, rfl, ⟨rfl, ht⟩, _, _, rfl, ⟨rfl, hp⟩, A, n, c, rfl, hc, hr⟩, _, _, rfl, ⟨B, m, d, rfl, hd, hr2⟩, rfl⟩
theorem info_tr : (Try.prog.info? 33).map (fun i => (i.zero, i.size, i.bytes)) = some (some (.agg #[.int .i64 0, .int .i64 0, .int .i64 0, .int .i64 0, .slice none 0 0, .slice none 0 0, .bool false]), 7, 88) := by kernel_rfl
/-- What a trace says of its parcel. -/
def parOf (t : Tr) : Par := (t.1.2.1, t.1.2.2.1, if t.2.2 then t.1.2.2.2.2 else t.2.1, t.2.2)
theorem par_snoc (T : List Tr) (a f t p : Int) (xs : List UInt8) : T.map parOf ++ [(f, t, xs, true)] = (T ++ [((a, f, t, p, xs), [], true)]).map parOf := by rw [List.map_append]; rfl
theorem par_erase (T : List Tr) (k : Nat) : (T.map parOf).eraseIdx k = (T.take k ++ T.drop (k + 1)).map parOf := by
  rw [List.eraseIdx_eq_take_drop_succ, List.map_append, List.map_take, List.map_drop]
theorem par_at (T : List Tr) (k : Nat) (p : Par) (h : (T.map parOf)[k]? = some p) : ∃ t, T[k]? = some t ∧ p = parOf t := by
  rw [List.getElem?_map] at h
  obtain ⟨t, h1, h2⟩ := Option.map_eq_some_iff.1 h
  exact ⟨t, h1, h2.symm⟩
theorem par_set (T : List Tr) (k : Nat) (o : Opr) (ys zs : List UInt8) (b : Bool) (_h : T[k]? = some (o, zs, b)) : (T.map parOf).set k (o.2.1, o.2.2.1, ys, false) = (T.set k (o, ys, false)).map parOf := by
  rw [List.map_set]
  rfl
theorem mask3 (z : Int) : ∃ k : Nat, k ≤ 3 ∧ bits .and .i64 z 3 = (k : Int) := by
  refine ⟨(BitVec.ofInt 64 z &&& BitVec.ofInt 64 3).toNat, ?_, ?_⟩
  · rw [BitVec.toNat_and]
    exact Nat.and_le_right
  · have h : (BitVec.ofInt 64 z &&& BitVec.ofInt 64 3).toNat ≤ 3 := by rw [BitVec.toNat_and]; exact Nat.and_le_right
    have h2 : IntKind.i64.wrap ((BitVec.ofInt 64 z &&& BitVec.ofInt 64 3).toNat : Int) = ((BitVec.ofInt 64 z &&& BitVec.ofInt 64 3).toNat : Int) := IntWalk.i64_in _ ⟨by omega, by omega⟩
    exact h2
/-- A net, and the blocks that it does not write. -/
structure OneN (N : Int) (w0 w : World) (K S : Nat → Prop) (P : Nat) (v : Value) (L : List Par) : Prop where
  net : PNet w S P N v L
  s : ∀ k, S k → w0.heap.size ≤ k
  ks : ∀ k, K k → k < w.heap.size ∧ ¬ S k
  bel : Below w0.heap.size w0 w
section
variable {N : Int} {w0 w w1 : World} {K K' S D : Nat → Prop} {P : Nat} {v : Value} {L L' : List Par}
theorem OneN.keep (h : OneN N w0 w K S P v L) (hc : Chg D w w1) (hd : ∀ k, D k → w0.heap.size ≤ k ∧ ¬ S k) (hK : ∀ k, K' k → K k ∨ New w w1 k) : OneN N w0 w1 K' S P v L := by
  refine ⟨h.net.chg hc fun k hk hD => (hd k hD).2 hk, h.s, fun k hk => ?_, hc.below h.bel h.bel.size fun k hk => (hd k hk).1⟩
  rcases hK k hk with hk | hk
  · exact ⟨Nat.lt_of_lt_of_le (h.ks k hk).1 hc.size, (h.ks k hk).2⟩
  · exact ⟨hk.2, fun hs => by have := h.net.lt k hs; have := hk.1; omega⟩
theorem OneN.below (h : OneN N w0 w K S P v L) (hb : Below w.heap.size w w1) : OneN N w0 w1 K S P v L := h.keep (D := NoB) (Chg.ofBelow hb) (fun _ h => h.elim) fun _ hk => .inl hk
theorem OneN.next (h : OneN N w0 w K S P v L) (hr : RetNet TN TP w S P N L' w1) : (∃ S' v', OneN N w0 w1 K S' P v' L') ∧ Chg (fun k => ¬ K k) w w1 := by
  obtain ⟨S', v', h1, h2, h3⟩ := hr
  refine ⟨⟨S', v', h1, fun k hk => ?_, fun k hk => ⟨Nat.lt_of_lt_of_le (h.ks k hk).1 h2.size, fun hs => ?_⟩, h2.below h.bel h.bel.size h.s⟩, h2.mono fun k _ hk hK => (h.ks k hK).2 hk⟩
  · rcases h3 k hk with h' | h'
    · exact h.s k h'
    · have := h.bel.size; omega
  · rcases h3 k hs with h' | h'
    · exact (h.ks k hk).2 h'
    · have := (h.ks k hk).1; omega
/-- NetTrue's state: the net, the row of traces. -/
structure Line (w0 w : World) (K S : Nat → Prop) (P : Nat) (v : Value) (L : List Par) (s : Value) (T : List Tr) : Prop where
  net : OneN 4 w0 w K S P v L
  row : Keep elTr TT w w0.heap.size K s T
  old : ∀ q, q < w0.heap.size → K q
variable {s : Value} {T : List Tr}
theorem Line.keep (h : Line w0 w K S P v L s T) (hc : Chg D w w1) (hd : ∀ k, D k → w0.heap.size ≤ k ∧ ¬ S k ∧ ¬ K k) (hK : ∀ k, K k → K' k) (hK' : ∀ k, K' k → K k ∨ New w w1 k) : Line w0 w1 K' S P v L s T :=
  ⟨h.net.keep hc (fun k hk => ⟨(hd k hk).1, (hd k hk).2.1⟩) hK', (h.row.chg hc fun k hk hD => (hd k hD).2.2 hk).mono fun k _ hk => hK k hk, fun q hq => hK q (h.old q hq)⟩
theorem Line.below (h : Line w0 w K S P v L s T) (hb : Below w.heap.size w w1) : Line w0 w1 K S P v L s T := h.keep (D := NoB) (Chg.ofBelow hb) (fun _ h => h.elim) (fun _ hk => hk) fun _ hk => .inl hk
theorem Line.made (h : Line w0 w K S P v L s T) (hb : Below w.heap.size w w1) : Line w0 w1 (fun k => K k ∨ New w w1 k) S P v L s T := h.keep (D := NoB) (Chg.ofBelow hb) (fun _ h => h.elim) (fun _ hk => .inl hk) fun _ hk => hk
theorem Line.next (h : Line w0 w K S P v L s T) (hr : RetNet TN TP w S P 4 L' w1) : (∃ S' v', Line w0 w1 K S' P v' L' s T) ∧ Chg (fun k => ¬ K k) w w1 := by
  obtain ⟨⟨S', v', h1⟩, h2⟩ := h.net.next hr
  exact ⟨⟨S', v', h1, h.row.chg h2 fun k hk hn => hn hk, h.old⟩, h2⟩
theorem Line.put {v1 : Value} {T1 : List Tr} (h : Line w0 w K S P v L s T) (hc : Chg (fun k => K k ∧ w0.heap.size ≤ k) w w1) (hk : Keep elTr TT w1 w0.heap.size (fun k => K k ∨ New w w1 k) v1 T1) : Line w0 w1 (fun k => K k ∨ New w w1 k) S P v L v1 T1 :=
  ⟨h.net.keep hc (fun k hk => ⟨hk.2, (h.net.ks k hk.1).2⟩) fun _ hk => hk, hk, fun q hq => .inl (h.old q hq)⟩
end
/-- The box x holds the call. -/
def BoxQ (w : World) (x : Nat) (a f t p : Int) (u : Value) : Prop := w.heap[x]? = some (.cells #[.int .i64 a, .int .i64 f, .int .i64 t, .int .i64 p, u] 30 (0, 0))
section
variable {S : Nat → Prop} {w w' : World} {x : Nat} {a f t p : Int} {u : Value}
theorem BoxQ.cells (h : BoxQ w x a f t p u) : w.cell? ⟨x, 0, none⟩ = some (.int .i64 a) ∧ w.cell? ⟨x, 1, none⟩ = some (.int .i64 f) ∧ w.cell? ⟨x, 2, none⟩ = some (.int .i64 t) ∧ w.cell? ⟨x, 3, none⟩ = some (.int .i64 p) ∧ w.cell? ⟨x, 4, none⟩ = some u := by
  unfold BoxQ at h
  exact ⟨by simp [World.cell?, h], by simp [World.cell?, h], by simp [World.cell?, h], by simp [World.cell?, h], by simp [World.cell?, h]⟩
theorem BoxQ.lt (h : BoxQ w x a f t p u) : x < w.heap.size := by
  unfold BoxQ at h
  exact (Array.getElem?_eq_some_iff.1 h).1
theorem BoxQ.chg (h : BoxQ w x a f t p u) (hc : Chg S w w') (hs : ¬ S x) : BoxQ w' x a f t p u := (hc.block x h.lt hs).trans h
theorem BoxQ.below (h : BoxQ w x a f t p u) (hb : Below w.heap.size w w') : BoxQ w' x a f t p u := h.chg (Chg.ofBelow (S := NoB) hb) id
theorem BoxQ.made (w : World) (a f t p : Int) (u : Value) : BoxQ (w.alloc (.cells #[.int .i64 a, .int .i64 f, .int .i64 t, .int .i64 p, u] 30)) w.heap.size a f t p u := heap_alloc_new w _
end
/-- The box x holds a trace. -/
def BoxV (w : World) (x : Nat) (a f t p : Int) (u1 u2 : Value) (b : Bool) : Prop := w.heap[x]? = some (.cells #[.int .i64 a, .int .i64 f, .int .i64 t, .int .i64 p, u1, u2, .bool b] 33 (0, 0))
theorem BoxV.cells {w : World} {x : Nat} {a f t p : Int} {u1 u2 : Value} {b : Bool} (h : BoxV w x a f t p u1 u2 b) : w.cell? ⟨x, 0, none⟩ = some (.int .i64 a) ∧ w.cell? ⟨x, 1, none⟩ = some (.int .i64 f) ∧ w.cell? ⟨x, 2, none⟩ = some (.int .i64 t) ∧ w.cell? ⟨x, 3, none⟩ = some (.int .i64 p) ∧
    w.cell? ⟨x, 4, none⟩ = some u1 ∧ w.cell? ⟨x, 5, none⟩ = some u2 ∧ w.cell? ⟨x, 6, none⟩ = some (.bool b) := by
  unfold BoxV at h
  exact ⟨by simp [World.cell?, h], by simp [World.cell?, h], by simp [World.cell?, h], by simp [World.cell?, h], by simp [World.cell?, h], by simp [World.cell?, h], by simp [World.cell?, h]⟩
theorem BoxV.made (w : World) (a f t p : Int) (u1 u2 : Value) (b : Bool) : BoxV (w.alloc (.cells #[.int .i64 a, .int .i64 f, .int .i64 t, .int .i64 p, u1, u2, .bool b] 33)) w.heap.size a f t p u1 u2 b := heap_alloc_new w _
end Go.Proofs.Ytmkmbnfmmibifaa
