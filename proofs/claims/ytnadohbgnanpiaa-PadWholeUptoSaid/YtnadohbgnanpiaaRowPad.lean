/-
  Words for the rows: ints, rows of rows, and the law's structs that came in.
-/
import Derived.Test.YtnadohbgnanpiaaRow
import Derived.Test.YtnadohbgnanpiaaPad9
import Derived.Deep.SlicePairs
import Derived.Lib.SmallJoins
namespace Go.Proofs.Ytnadohbgnanpiaa
open Go.ChangeShapes Go.WideShapes Go.ChangeAt Go.RowKit

theorem bulk_mem {H : Type} (l : List (DataW H)) (d : DataW H) (h : d ∈ l) : Rows.uptoBulk d ≤ Rows.uptoBulkAll l := by
  induction l with
  | nil => cases h
  | cons x r ih =>
    simp only [Rows.uptoBulkAll]
    rcases List.mem_cons.1 h with rfl | h
    · omega
    · have := ih h; omega
theorem openBytesAt {H : Type} {enc : TypeId × Value → H} {W : World} {base : Nat} {spare : Nat → Bool} {held : Bool} {fuel : Nat} {u : Value} {x : DataW H × List MemPlace}
    (hf : DataW.trod enc Try.prog W base spare held fuel 28 [u] = some x) :
    ∃ A n c xs, u = .slice A n c ∧ n ≤ c ∧ RdB W (fun k => k < W.heap.size) A n xs ∧ n ≤ Rows.uptoBulk x.1 := by
  rcases open_ints Try.underlying28 Try.underlying5 (by kernel_rfl) hf with ⟨hcs, _⟩ | ⟨x1, l, c, zs, hcs, _, hl, hm, hz, hx, hcell, hwz⟩
  · injection hcs with hcs
    subst hcs
    exact ⟨none, 0, 0, [], rfl, Nat.le_refl _, RdB.nil _ _ _, Nat.zero_le _⟩
  · injection hcs with hcs
    subst hcs
    have hlz : l ≤ zs.length := by rw [hz]; split <;> omega
    have hd : x.1 = .slice (lits .u8 (zs.take l)) (lits .u8 (zs.drop l)) := congrArg Prod.fst hx
    refine ⟨_, l, c, (zs.take l).map fun z => UInt8.ofNat z.toNat, rfl, hl, ⟨by simp; omega, by simp only [maxLen] at hm; omega, fun h0 => ?_⟩, ?_⟩
    · have hc0 := hcell 0 (by omega)
      refine ⟨x1, rfl, ?_, ?_, addSpot x1 0 (spotNone hc0) rfl, fun j hj => ?_⟩
      · have := World.block_lt_of_cell? W _ hc0; rwa [addBlock] at this
      · have := World.block_lt_of_cell? W _ hc0; rwa [addBlock] at this
      · rw [hcell j (by omega)]
        have hjz : j < zs.length := by omega
        have hw := hwz _ (List.getElem_mem hjz)
        have hb : 0 ≤ zs[j] ∧ zs[j] ≤ 255 := by simpa [Lit.wf, IntKind.min, IntKind.max, IntKind.bits, IntKind.signed] using hw
        simp [byt, List.getD_eq_getElem?_getD, hjz, hj, UInt8.toNat_ofNat']
        omega
    · have := bulk_slice (lits (H := H) .u8 (zs.take l)) (lits .u8 (zs.drop l))
      rw [hd]
      have hll : (lits (H := H) .u8 (zs.take l)).length = l := by simp [lits]; omega
      omega
theorem openIntsAt {H : Type} {enc : TypeId × Value → H} {W : World} {base : Nat} {spare : Nat → Bool} {held : Bool} {fuel : Nat} {u : Value} {x : DataW H × List MemPlace}
    (hf : DataW.trod enc Try.prog W base spare held fuel 33 [u] = some x) :
    ∃ A n c zs, u = .slice A n c ∧ n ≤ c ∧ RdI W (fun k => k < W.heap.size) A n zs ∧ n ≤ Rows.uptoBulk x.1 := by
  rcases open_ints Try.underlying33 Try.underlying3 (by kernel_rfl) hf with ⟨hcs, _⟩ | ⟨x1, l, c, zs, hcs, _, hl, hm, hz, hx, hcell, hwz⟩
  · injection hcs with hcs
    subst hcs
    exact ⟨none, 0, 0, [], rfl, Nat.le_refl _, ⟨rfl, by omega, by simp, fun h => absurd h (by omega)⟩, Nat.zero_le _⟩
  · injection hcs with hcs
    subst hcs
    have hlz : l ≤ zs.length := by rw [hz]; split <;> omega
    have hd : x.1 = .slice (lits .i64 (zs.take l)) (lits .i64 (zs.drop l)) := congrArg Prod.fst hx
    refine ⟨_, l, c, zs.take l, rfl, hl, ⟨by simp; omega, by simp only [maxLen] at hm; omega, fun z hzm => ?_, fun h0 => ?_⟩, ?_⟩
    · have hw := hwz _ (List.mem_of_mem_take hzm)
      simpa [Lit.wf, IntKind.min, IntKind.max, IntKind.bits, IntKind.signed] using hw
    · have hc0 := hcell 0 (by omega)
      refine ⟨x1, rfl, ?_, ?_, addSpot x1 0 (spotNone hc0) rfl, fun j hj => ?_⟩
      · have := World.block_lt_of_cell? W _ hc0; rwa [addBlock] at this
      · have := World.block_lt_of_cell? W _ hc0; rwa [addBlock] at this
      · rw [hcell j (by omega)]
        simp [List.getD_eq_getElem?_getD, hj]
    · have := bulk_slice (lits (H := H) .i64 (zs.take l)) (lits .i64 (zs.drop l))
      rw [hd]
      have hll : (lits (H := H) .i64 (zs.take l)).length = l := by simp [lits]; omega
      omega
theorem openRowsAt {H : Type} {enc : TypeId × Value → H} {W : World} {base : Nat} {spare : Nat → Bool} {held : Bool} {fuel : Nat} {u : Value} {x : DataW H × List MemPlace}
    (hf : DataW.trod enc Try.prog W base spare held fuel 25 [u] = some x) :
    ∃ A n c ls, u = .slice A n c ∧ n ≤ c ∧ RdBB W (fun k => k < W.heap.size) A n ls ∧ n ≤ Rows.uptoBulk x.1 := by
  rcases Deep.open_slice Try.underlying25 hf with ⟨hcs, _⟩ | ⟨a, len, cap, m, k, D, Pl, hcs, _, hl, hm, hmm, hx, hi⟩
  · injection hcs with hcs
    subst hcs
    exact ⟨none, 0, 0, [], rfl, Nat.le_refl _, RdBB.nil _ _ _, Nat.zero_le _⟩
  · injection hcs with hcs
    subst hcs
    have hlm : len ≤ m := by rw [hmm]; split <;> omega
    have hd : x.1 = .slice ((List.range len).map D) ((List.range (m - len)).map fun j => D (len + j)) := congrArg Prod.fst hx
    have hC : Try.prog.cellsOf 28 = 1 := by kernel_rfl
    have hn0 := bulk_slice ((List.range len).map D) ((List.range (m - len)).map fun j => D (len + j))
    rw [List.length_map, List.length_range] at hn0
    have each : ∀ i, i < len → ∃ bs : List UInt8, ∃ A' n' c', W.cell? (a.add i) = some (.slice A' n' c') ∧ n' ≤ c' ∧ RdB W (fun k => k < W.heap.size) A' n' bs := by
      intro i hil
      obtain ⟨cs', h1, h2⟩ := hi i (by omega)
      rw [hC] at h1
      obtain ⟨_, hlen, hcell⟩ := World.cells?_some h1
      match cs', hlen with
      | [v0], _ =>
        have e0 := hcell 0 (by omega)
        rw [addAdd] at e0
        simp at e0
        obtain ⟨A', n', c', bs, rfl, hc', hr', _⟩ := openBytesAt h2
        exact ⟨bs, A', n', c', e0, hc', hr'⟩
    obtain ⟨f, hfx⟩ := Deep.choose_lt each
    refine ⟨some a, len, cap, (List.range len).map f, rfl, hl, ⟨by simp, by simp only [maxLen] at hm; omega, fun h0 => ?_⟩, by rw [hd]; omega⟩
    obtain ⟨A0, n0, c0, k0, _⟩ := hfx 0 h0
    have hb := World.block_lt_of_cell? W _ k0
    rw [addBlock] at hb
    refine ⟨a, rfl, hb, hb, addSpot a 0 (spotNone k0) rfl, fun i hil => ?_⟩
    obtain ⟨A', n', c', p1, p2, p3⟩ := hfx i hil
    have ef : lrow ((List.range len).map f) i = f i := by simp [lrow, hil]
    rw [ef]
    exact ⟨A', n', c', p1, p2, p3⟩
theorem openLaid {H : Type} {enc : TypeId × Value → H} {W : World} {b0 base : Nat} {spare : Nat → Bool} {held : Bool} {v : Value} {d : DataW H} {p : List MemPlace}
    (hv : Value.okWide Try.prog W .any b0 36 v) (h : DataW.Trod enc Try.prog W base spare held 36 v d p) :
    ∃ A n c xs B m e ls, v = .agg #[.slice A n c, .slice B m e] ∧ n ≤ c ∧ RdB W (fun k => k < W.heap.size) A n xs ∧ m ≤ e ∧ RdBB W (fun k => k < W.heap.size) B m ls ∧ n + m ≤ Rows.uptoBulk d := by
  obtain ⟨v0, v1, y0, y1, n, rfl, rfl, _, g0, g1⟩ := Go.Joins.open_agg2 Try.underlying36 (by kernel_rfl) (by kernel_rfl) hv h
  obtain ⟨A, n, c, xs, rfl, hc, hr, hn⟩ := openBytesAt g0
  obtain ⟨B, m, e, ls, rfl, he, hr2, hm⟩ := openRowsAt g1
  exact ⟨A, n, c, xs, B, m, e, ls, rfl, hc, hr, he, hr2, by simp only [Rows.uptoBulk, Rows.uptoBulkAll]; omega⟩
theorem openTwo {H : Type} {enc : TypeId × Value → H} {W : World} {b0 base : Nat} {spare : Nat → Bool} {held : Bool} {v : Value} {d : DataW H} {p : List MemPlace}
    (hv : Value.okWide Try.prog W .any b0 57 v) (h : DataW.Trod enc Try.prog W base spare held 57 v d p) :
    ∃ A n c xs B m e ys, v = .agg #[.slice A n c, .slice B m e] ∧ n ≤ c ∧ RdB W (fun k => k < W.heap.size) A n xs ∧ m ≤ e ∧ RdB W (fun k => k < W.heap.size) B m ys ∧ n + m ≤ Rows.uptoBulk d := by
  obtain ⟨v0, v1, y0, y1, n, rfl, rfl, _, g0, g1⟩ := Go.Joins.open_agg2 Try.underlying57 (by kernel_rfl) (by kernel_rfl) hv h
  obtain ⟨A, n, c, xs, rfl, hc, hr, hn⟩ := openBytesAt g0
  obtain ⟨B, m, e, ys, rfl, he, hr2, hm⟩ := openBytesAt g1
  exact ⟨A, n, c, xs, B, m, e, ys, rfl, hc, hr, he, hr2, by simp only [Rows.uptoBulk, Rows.uptoBulkAll]; omega⟩
theorem openStream {H : Type} {enc : TypeId × Value → H} {W : World} {b0 base : Nat} {spare : Nat → Bool} {held : Bool} {v : Value} {d : DataW H} {p : List MemPlace}
    (hv : Value.okWide Try.prog W .any b0 47 v) (h : DataW.Trod enc Try.prog W base spare held 47 v d p) :
    ∃ A n c xs B m e zs, v = .agg #[.slice A n c, .slice B m e] ∧ n ≤ c ∧ RdB W (fun k => k < W.heap.size) A n xs ∧ m ≤ e ∧ RdI W (fun k => k < W.heap.size) B m zs ∧ n + m ≤ Rows.uptoBulk d := by
  obtain ⟨v0, v1, y0, y1, n, rfl, rfl, _, g0, g1⟩ := Go.Joins.open_agg2 Try.underlying47 (by kernel_rfl) (by kernel_rfl) hv h
  obtain ⟨A, n, c, xs, rfl, hc, hr, hn⟩ := openBytesAt g0
  obtain ⟨B, m, e, zs, rfl, he, hr2, hm⟩ := openIntsAt g1
  exact ⟨A, n, c, xs, B, m, e, zs, rfl, hc, hr, he, hr2, by simp only [Rows.uptoBulk, Rows.uptoBulkAll]; omega⟩
end Go.Proofs.Ytnadohbgnanpiaa
