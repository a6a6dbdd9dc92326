/-
  Rows of structs appended to a row of a call's own; cuts of slices of structs.
-/
import Derived.Test.YthgnjojkncodeaaGreatNSt
namespace Go.Proofs.YthgnjojkncodeaaGreat
open Go.RowKit

section
variable {α : Type} {E : El α} {T : TypeId} {w w' : World} {ok ok' S D S' : Nat → Prop} {v : Value} {x : α} {xs ys : List α} {A : Option Addr} {n : Nat}
/-- What a slice reads as, cell by cell. -/
theorem Rd.cells (hk : 0 < E.k) : ∀ (ys : List α) (b o : Nat), (∀ j x, ys[j]? = some x → ∃ vs, E.V w ok vs x ∧ ∀ r u, vs[r]? = some u → w.cell? ⟨b, o + (j * E.k + r), none⟩ = some u) →
    ∃ vss, Cells E w ok vss ys ∧ ∀ q u, vss.flatten[q]? = some u → w.cell? ⟨b, o + q, none⟩ = some u := by
  intro ys
  induction ys with
  | nil => intro b o _; exact ⟨[], .nil, fun q u h => by simp at h⟩
  | cons y ys ih =>
    intro b o h
    obtain ⟨vs, h1, h2⟩ := h 0 y rfl
    obtain ⟨vss, h3, h4⟩ := ih b (o + E.k) fun j x hx => by
      obtain ⟨vs, k1, k2⟩ := h (j + 1) x (by simpa using hx)
      refine ⟨vs, k1, fun r u hu => ?_⟩
      rw [← k2 r u hu]
      congr 2
      rw [Nat.succ_mul]
      omega
    refine ⟨vs :: vss, .cons h1 h3, fun q u hq => ?_⟩
    have hl := E.len h1
    rw [List.flatten_cons] at hq
    by_cases hlt : q < vs.length
    · rw [List.getElem?_append_left hlt] at hq
      have := h2 q u hq
      simpa using this
    · rw [List.getElem?_append_right (by omega)] at hq
      have := h4 (q - vs.length) u hq
      rw [← this]
      congr 2
      omega
/-- append(own, others...). -/
theorem Own.apps {P : Program} {W : World} (st ty : TypeId) (i : TypeInfo) (z : Value) (bytes : Nat) (ht : P.underlying st = some (.slice T)) (hi : P.info? T = some i) (hz : i.zero = some z)
    (hsize : i.size = E.k) (hby : i.bytes = bytes) (hzs : z.cells.size = E.k) (hk : 0 < E.k) (HO : Own E T W S v xs) (HR : Rd E W ok A n ys) (hdis : ∀ q, q < W.heap.size → ok q → S q ∧ some q ≠ v.ownBlock)
    (hm : xs.length + n ≤ maxLen) (hb : (xs.length + n) * bytes ≤ 140737488355328) (c : Nat) :
    ∃ v1 w1, (Builtin.append_ #[st, st] ty #[v, .slice A n c]).run P W = .ok v1 w1 ∧ Own E T w1 (fun k => S k ∨ k = W.heap.size) v1 (xs ++ ys) ∧ W.grownBy w1 v.ownBlock ∧
      (v1.ownBlock = v.ownBlock ∨ v1.ownBlock = some W.heap.size) := by
  have HO' := HO
  obtain ⟨vss, h1, h2, h3⟩ := HO
  have hyl := HR.len
  rcases A with _ | ad
  · have h0 : n = 0 := by
      rcases Nat.eq_zero_or_pos n with h0 | h0
      · exact h0
      · obtain ⟨b, o, h, _⟩ := HR.2.2 h0
        cases h
    subst h0
    obtain rfl : ys = [] := List.eq_nil_of_length_eq_zero hyl
    refine ⟨v, W, ?_, by rw [List.append_nil]; exact HO'.mono fun k _ hk => .inl hk, World.grownBy.refl W _, .inl rfl⟩
    rcases h2.2 with ⟨rfl, hn⟩ | ⟨g, cap, cur, rfl, _, _, hnc, _⟩
    · simp [Builtin.append_, run_underlying ht, sizeOf, typeInfo, hi, Builtin.lenOf, Builtin.firstCells]
    · simp [Builtin.append_, run_underlying ht, sizeOf, typeInfo, hi, Builtin.lenOf, Builtin.firstCells, hnc, storeCells]
  · have hcl : ∃ wss, Cells E W ok wss ys ∧ ∀ q u, wss.flatten[q]? = some u → W.cell? (ad.add q) = some u := by
      rcases Nat.eq_zero_or_pos n with h0 | h0
      · obtain rfl : ys = [] := List.eq_nil_of_length_eq_zero (by omega)
        exact ⟨[], .nil, fun q u h => by simp at h⟩
      · obtain ⟨b, o, e, _, _, hc⟩ := HR.2.2 h0
        injection e with e
        subst e
        obtain ⟨wss, k1, k2⟩ := Rd.cells (E := E) hk ys b o hc
        exact ⟨wss, k1, fun q u hu => by rw [addPlain]; exact k2 q u hu⟩
    obtain ⟨wss, k1, k2⟩ := hcl
    have hone : ∀ u ∈ wss.flatten, u.oneCell' = true := fun u hu => by
      obtain ⟨vs, hvs, huv⟩ := List.mem_flatten.1 hu
      obtain ⟨q, hq⟩ := List.mem_iff_getElem?.1 hvs
      have hq2 : q < ys.length := by have := (List.getElem?_eq_some_iff.1 hq).1; rw [k1.length] at this; exact this
      obtain ⟨us, j1, j2, _⟩ := k1.at_ q ys[q] (List.getElem?_eq_getElem hq2)
      rw [hq] at j1
      injection j1 with j1
      subst j1
      exact E.one j2 u huv
    obtain ⟨v1, w1, hr, q2, q3, _, q5⟩ := run_append_own_at (P := P) W 0 st ty T i z E.k bytes ht hi hz hsize hby hzs hk v xs.length vss.flatten h2 ad n c wss.flatten (by rw [k1.flat, hyl]) k2 hone hm hb (Nat.zero_le _)
    refine ⟨v1, w1, hr, ⟨vss ++ wss, ?_, ?_, ?_⟩, q3, q5⟩
    · have hall : Cells E W (fun k => S k ∧ some k ≠ v.ownBlock) (vss ++ wss) (xs ++ ys) := h1.append (k1.mono fun k hk hl => hdis k hl hk)
      refine (hall.mono (ok' := fun k => (S k ∨ k = W.heap.size) ∧ some k ≠ v1.ownBlock ∧ some k ≠ v.ownBlock) fun k hk hl => ⟨.inl hk.1, ?_, hk.2⟩).keep q3.size (fun k hk hl => q3.block k hl hk.2.2) |>.mono fun k hk _ => ⟨hk.1, hk.2.1⟩
      rcases q5 with q5 | q5
      · rw [q5]; exact hk.2
      · rw [q5]; intro e; injection e with e; omega
    · rw [List.length_append, hyl, List.flatten_append]
      exact q2
    · intro g hg
      rcases q5 with q5 | q5
      · exact .inl (h3 g (by rw [← q5]; exact hg))
      · rw [hg] at q5; injection q5 with q5; exact .inr q5
/-- At the list of a plain region's operations. -/
theorem Own.lists {P : Program} {ops : Array Oper} {rest : List Oper} {o : Oper} {a : Act} {Q : Exit → Act → World → Prop} {W : World} (hgd : Region.wanted o (yielded ops a.tmps) = true) (s y : Operand) (st : TypeId)
    (ho : o.op = .call { callee := .builtin .append, args := #[s, y], argTypes := #[st, st] }) (i : TypeInfo) (z : Value) (bytes : Nat) (ht : P.underlying st = some (.slice T)) (hi : P.info? T = some i) (hz : i.zero = some z)
    (hsize : i.size = E.k) (hby : i.bytes = bytes) (hzs : z.cells.size = E.k) (hk : 0 < E.k) (v : Value) (hs : a.eval s = v) (HO : Own E T W S v xs) (A : Option Addr) (n c : Nat) (hy : a.eval y = .slice A n c) (HR : Rd E W ok A n ys)
    (hdis : ∀ q, q < W.heap.size → ok q → S q ∧ some q ≠ v.ownBlock) (hm : xs.length + n ≤ maxLen) (hb : (xs.length + n) * bytes ≤ 140737488355328)
    (h : ∀ v1 w1, Own E T w1 (fun k => S k ∨ k = W.heap.size) v1 (xs ++ ys) → W.grownBy w1 v.ownBlock → (v1.ownBlock = v.ownBlock ∨ v1.ownBlock = some W.heap.size) → wpList P ops Q rest (a.put o.dst v1) w1) :
    wpList P ops Q (o :: rest) a W := by
  obtain ⟨v1, w1, hr, h2, h3, h5⟩ := Own.apps st o.type i z bytes ht hi hz hsize hby hzs hk HO HR hdis hm hb c
  refine wpList_wanted hgd fun K hK => ?_
  unfold Oper.wp execOp
  simp only [ho, resolve, invoke, builtin, Sem.run_bind, Sem.run_pure, Result.andThen_ok, List.map_toArray, List.map_cons, List.map_nil, hs, hy, hr]
  exact hK _ _ (h v1 w1 h2 h3 h5)
end
/-! ### Cuts -/
theorem sliceTo {P : Program} (t : TypeId) (k : Nat) (ht : P.underlying t = some (.slice (P.elem t))) (hs : ∀ W, (sizeOf (P.elem t)).run P W = .ok k W) (A : Option Addr) (n c hi : Nat) (h2 : hi ≤ n) (h3 : n ≤ c) (kh : IntKind) (W : World) :
    (Instr.slice t (.slice A n c) none (some (.int kh (hi : Int))) none).run P W = .ok (.slice (if c = 0 then A else A.map fun a => a.add (0 * k)) hi c) W := by
  rw [run_slice_h W _ A n c ht kh hi (by omega) (by omega), hs]
  rfl
theorem sliceFrom {P : Program} (t : TypeId) (k : Nat) (ht : P.underlying t = some (.slice (P.elem t))) (hs : ∀ W, (sizeOf (P.elem t)).run P W = .ok k W) (A : Option Addr) (n c lo : Nat) (h2 : lo ≤ n) (h3 : n ≤ c) (kh : IntKind) (W : World) :
    (Instr.slice t (.slice A n c) (some (.int kh (lo : Int))) none none).run P W = .ok (.slice (if c = lo then A else A.map fun a => a.add (lo * k)) (n - lo) (c - lo)) W := by
  rw [run_slice_l W _ A n c ht kh lo (by omega) (by omega), hs]
  rfl
theorem sliceMid {P : Program} (t : TypeId) (k : Nat) (ht : P.underlying t = some (.slice (P.elem t))) (hs : ∀ W, (sizeOf (P.elem t)).run P W = .ok k W) (A : Option Addr) (n c lo hi : Nat) (h1 : lo ≤ hi) (h2 : hi ≤ n) (h3 : n ≤ c) (kl kh : IntKind) (W : World) :
    (Instr.slice t (.slice A n c) (some (.int kl (lo : Int))) (some (.int kh (hi : Int))) none).run P W = .ok (.slice (if c = lo then A else A.map fun a => a.add (lo * k)) (hi - lo) (c - lo)) W := by
  rw [run_slice_lh W _ A n c ht kl kh lo hi (by omega) (by omega) (by omega), hs]
  rfl
theorem cutToR {α : Type} {P : Program} (E : El α) (t : TypeId) (ht : P.underlying t = some (.slice (P.elem t))) (hs : ∀ W, (sizeOf (P.elem t)).run P W = .ok E.k W) (A : Option Addr) (n c hi : Nat) (h2 : hi ≤ n) (h3 : n ≤ c) :
    ∃ A' : Option Addr, (∀ (kh : IntKind) (W : World), (Instr.slice t (.slice A n c) none (some (.int kh (hi : Int))) none).run P W = .ok (.slice A' hi c) W) ∧ ∀ (w : World) (ok : Nat → Prop) (xs : List α), Rd E w ok A n xs → Rd E w ok A' hi (xs.take hi) :=
  ⟨_, fun kh W => sliceTo t E.k ht hs A n c hi h2 h3 kh W, fun _ _ _ h => h.cut (Nat.zero_le _) h2 h3⟩
theorem cutFromR {α : Type} {P : Program} (E : El α) (t : TypeId) (ht : P.underlying t = some (.slice (P.elem t))) (hs : ∀ W, (sizeOf (P.elem t)).run P W = .ok E.k W) (A : Option Addr) (n c lo : Nat) (h2 : lo ≤ n) (h3 : n ≤ c) :
    ∃ A' : Option Addr, (∀ (kl : IntKind) (W : World), (Instr.slice t (.slice A n c) (some (.int kl (lo : Int))) none none).run P W = .ok (.slice A' (n - lo) (c - lo)) W) ∧ ∀ (w : World) (ok : Nat → Prop) (xs : List α), Rd E w ok A n xs → Rd E w ok A' (n - lo) (xs.drop lo) :=
  ⟨_, fun kl W => sliceFrom t E.k ht hs A n c lo h2 h3 kl W, fun w ok xs h => by
    have := h.cut (c := c) h2 (Nat.le_refl _) h3
    rwa [List.take_of_length_le (by rw [h.len]; exact Nat.le_refl _)] at this⟩
theorem cutMidR {α : Type} {P : Program} (E : El α) (t : TypeId) (ht : P.underlying t = some (.slice (P.elem t))) (hs : ∀ W, (sizeOf (P.elem t)).run P W = .ok E.k W) (A : Option Addr) (n c lo hi : Nat) (h1 : lo ≤ hi) (h2 : hi ≤ n) (h3 : n ≤ c) :
    ∃ A' : Option Addr, (∀ (kl kh : IntKind) (W : World), (Instr.slice t (.slice A n c) (some (.int kl (lo : Int))) (some (.int kh (hi : Int))) none).run P W = .ok (.slice A' (hi - lo) (c - lo)) W) ∧ ∀ (w : World) (ok : Nat → Prop) (xs : List α), Rd E w ok A n xs → Rd E w ok A' (hi - lo) ((xs.take hi).drop lo) :=
  ⟨_, fun kl kh W => sliceMid t E.k ht hs A n c lo hi h1 h2 h3 kl kh W, fun _ _ _ h => h.cut h1 h2 h3⟩
end Go.Proofs.YthgnjojkncodeaaGreat
