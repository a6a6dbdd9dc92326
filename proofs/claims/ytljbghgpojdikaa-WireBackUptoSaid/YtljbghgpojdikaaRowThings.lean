/-
  Words for the rows: a slice of things (a small number, a great one, bytes) that came in.
-/
import Derived.Test.YtljbghgpojdikaaRow
import Derived.Test.YtljbghgpojdikaaWireBack
import Derived.Deep.SlicePairs
namespace Go.Proofs.Ytljbghgpojdikaa
open Go.ChangeShapes Go.WideShapes Go.ChangeAt Go.RowKit

theorem bulk_mem {H : Type} (l : List (DataW H)) (d : DataW H) (h : d ∈ l) : Rows.uptoBulk d ≤ Rows.uptoBulkAll l := by
  induction l with
  | nil => cases h
  | cons x r ih =>
    simp only [Rows.uptoBulkAll]
    rcases List.mem_cons.1 h with rfl | h
    · omega
    · have := ih h; omega
theorem openBytesAt {H : Type} {enc : TypeId × Value → H} {W : World} {base : Nat} {spare : Nat → Bool} {held : Bool} {fuel : Nat} {u : Value} {x : DataW H × List MemPlace}
    (hf : DataW.trod enc Try.prog W base spare held fuel 22 [u] = some x) :
    ∃ A n c xs, u = .slice A n c ∧ n ≤ c ∧ RdB W (fun k => k < W.heap.size) A n xs ∧ n ≤ Rows.uptoBulk x.1 := by
  rcases open_ints Try.underlying22 Try.underlying5 (by kernel_rfl) hf with ⟨hcs, _⟩ | ⟨x1, l, c, zs, hcs, _, hl, hm, hz, hx, hcell, hwz⟩
  · injection hcs with hcs
    subst hcs
    exact ⟨none, 0, 0, [], rfl, Nat.le_refl _, RdB.nil _ _ _, Nat.zero_le _⟩
  · injection hcs with hcs
    subst hcs
    have hlz : l ≤ zs.length := by rw [hz]; split <;> omega
    have hd : x.1 = .slice (lits .u8 (zs.take l)) (lits .u8 (zs.drop l)) := congrArg Prod.fst hx
    refine ⟨_, l, c, (zs.take l).map fun z => UInt8.ofNat z.toNat, rfl, hl, ⟨by simp; omega, by simp only [maxLen] at hm; omega, fun h0 => ?_⟩, ?_⟩
    · have hc0 := hcell 0 (by omega)
      refine ⟨x1, rfl, ?_, ?_, addSpot x1 0 (spotNone hc0) rfl, fun j hj => ?_⟩
      · have := World.block_lt_of_cell? W _ hc0; rwa [addBlock] at this
      · have := World.block_lt_of_cell? W _ hc0; rwa [addBlock] at this
      · rw [hcell j (by omega)]
        have hjz : j < zs.length := by omega
        have hw := hwz _ (List.getElem_mem hjz)
        have hb : 0 ≤ zs[j] ∧ zs[j] ≤ 255 := by simpa [Lit.wf, IntKind.min, IntKind.max, IntKind.bits, IntKind.signed] using hw
        simp [byt, List.getD_eq_getElem?_getD, hjz, hj, UInt8.toNat_ofNat']
        omega
    · have := bulk_slice (lits (H := H) .u8 (zs.take l)) (lits .u8 (zs.drop l))
      rw [hd]
      have hll : (lits (H := H) .u8 (zs.take l)).length = l := by simp [lits]; omega
      omega
theorem openThings {H : Type} {enc : TypeId × Value → H} {W : World} {b0 base : Nat} {spare : Nat → Bool} {held : Bool} {v : Value} {d : DataW H} {p : List MemPlace}
    (hv : Value.okWide Try.prog W .any b0 53 v) (h : DataW.Trod enc Try.prog W base spare held 53 v d p) (hbulk : Rows.uptoBulk d ≤ 1048576) :
    ∃ A n c l, v = .slice A n c ∧ n ≤ c ∧ RdT W W.heap.size A n l ∧ n ≤ 1048576 := by
  obtain ⟨a0, len0, cap0, rfl⟩ := okWide_slice Try.underlying53 hv
  obtain ⟨fuel, hf⟩ := h
  rcases Deep.open_slice Try.underlying53 hf with ⟨hcs, _⟩ | ⟨a, len, cap, m, k, D, Pl, hcs, _, hl, hm, hmm, hx, hi⟩
  · simp [Value.cells] at hcs
    obtain ⟨rfl, rfl, rfl⟩ := hcs
    exact ⟨none, 0, 0, [], rfl, Nat.le_refl _, ⟨rfl, fun h => absurd h (by omega)⟩, Nat.zero_le _⟩
  · simp [Value.cells] at hcs
    obtain ⟨rfl, rfl, rfl⟩ := hcs
    have hlm : len0 ≤ m := by rw [hmm]; split <;> omega
    have hd : d = .slice ((List.range len0).map D) ((List.range (m - len0)).map fun j => D (len0 + j)) := congrArg Prod.fst hx
    have hC : Try.prog.cellsOf 56 = 3 := by kernel_rfl
    have hC0 : Try.prog.cellsOf 5 = 1 := by kernel_rfl
    have hC1 : Try.prog.cellsOf 23 = 1 := by kernel_rfl
    have hC2 : Try.prog.cellsOf 22 = 1 := by kernel_rfl
    rw [hd] at hbulk
    have hn0 := bulk_slice ((List.range len0).map D) ((List.range (m - len0)).map fun j => D (len0 + j))
    rw [List.length_map, List.length_range] at hn0
    have each : ∀ i, i < len0 → ∃ x : Thg, x.s < 256 ∧ x.n < 18446744073709551616 ∧ W.cell? (a.add (i * 3)) = some (.int .u8 (x.s : Int)) ∧ W.cell? (a.add (i * 3 + 1)) = some (.int .u64 (x.n : Int)) ∧
        ∃ A' n' c', W.cell? (a.add (i * 3 + 2)) = some (.slice A' n' c') ∧ n' ≤ c' ∧ n' ≤ 1048576 ∧ RdB W (fun k => k < W.heap.size) A' n' x.b := by
      intro i hil
      obtain ⟨cs', h1, h2⟩ := hi i (by omega)
      rw [hC] at h1
      obtain ⟨_, hlen, hcell⟩ := World.cells?_some h1
      obtain ⟨xs, k', hk', hxy, _, hxl, hfld⟩ := DataW.trod_struct Try.underlying56 h2
      match xs, hxl, cs', hlen with
      | [y0, y1, y2], _, [v0, v1, v2], _ =>
        have g0 := hfld 0 _ rfl
        have g1 := hfld 1 _ rfl
        have g2 := hfld 2 _ rfl
        simp [hC0, hC1, hC2] at g0 g1 g2
        have e0 := hcell 0 (by omega)
        have e1 := hcell 1 (by omega)
        have e2 := hcell 2 (by omega)
        rw [addAdd] at e0 e1 e2
        simp at e0 e1 e2
        obtain ⟨z0, c0, _, w0⟩ := DataW.trod_int Try.underlying5 g0
        obtain ⟨z1, c1, _, w1⟩ := DataW.trod_int Try.underlying23 g1
        obtain ⟨A', n', c', bs, rfl, hc', hr', hb'⟩ := openBytesAt g2
        injection c0 with c0
        injection c1 with c1
        subst c0
        subst c1
        obtain ⟨m0, rfl, hm0⟩ := openU 255 w0 rfl rfl
        obtain ⟨m1, rfl, hm1⟩ := openU 18446744073709551615 w1 rfl rfl
        have hDi : D i = .agg [y0.1, y1.1, y2.1] := by
          have := congrArg Prod.fst hxy
          simpa using this
        have hmem : D i ∈ (List.range len0).map D := List.mem_map.2 ⟨i, List.mem_range.2 hil, rfl⟩
        have hb1 := bulk_mem _ _ hmem
        have hb2 := bulk_elems ((List.range len0).map D) ((List.range (m - len0)).map fun j => D (len0 + j))
        rw [hDi] at hb1
        simp only [Rows.uptoBulk, Rows.uptoBulkAll] at hb1
        exact ⟨⟨m0, m1, bs⟩, by show m0 < 256; omega, by show m1 < _; omega, e0, e1, A', n', c', e2, hc', by omega, hr'⟩
    have hin : Inhabited Thg := ⟨⟨0, 0, []⟩⟩
    obtain ⟨f, hfx⟩ := Deep.choose_lt each
    refine ⟨some a, len0, cap0, (List.range len0).map f, rfl, hl, ⟨by simp, fun h0 => ?_⟩, by omega⟩
    have c0 := (hfx 0 h0).2.2.1
    rw [Nat.zero_mul] at c0
    have hs := addSpot a 0 (spotNone c0) rfl
    have hb := World.block_lt_of_cell? W _ c0
    rw [addBlock] at hb
    obtain ⟨b, o, s⟩ := a
    simp only at hs
    subst hs
    refine ⟨b, o, rfl, hb, fun i hil => ?_⟩
    have hil' : i < len0 := by simpa using hil
    obtain ⟨p1, p2, p3, p4, A', n', c', p5, p6, p7, p8⟩ := hfx i hil'
    rw [addPlain] at p3 p4 p5
    have ef : ((List.range len0).map f)[i] = f i := by simp
    rw [ef]
    exact ⟨p1, p2, p3, p4, A', n', c', p5, p6, p7, p8⟩
end Go.Proofs.Ytljbghgpojdikaa
