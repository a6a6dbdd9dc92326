/-
  Rows of calls, of bytes, of small numbers that came in.
-/
import Derived.Test.YtmkmbnfmmibifaaOpen
import Derived.Test.YtmkmbnfmmibifaaNetK
namespace Go.Proofs.Ytmkmbnfmmibifaa
open Go.ChangeShapes Go.WideShapes Go.ChangeAt Go.RowKit

theorem opensInt : Opens El.int 3 := Opens.int Try.underlying3
theorem opensBytes : Opens El.bytes 28 := Opens.bytes Try.underlying28 Try.underlying5 (by kernel_rfl)
theorem opensOp : Opens elOp 30 :=
  Opens.struct Try.underlying30 (by kernel_rfl) (OpensF.cons rfl (by kernel_rfl) opensInt (OpensF.cons rfl (by kernel_rfl) opensInt (OpensF.cons rfl (by kernel_rfl) opensInt (OpensF.cons rfl (by kernel_rfl) opensInt (OpensF.last rfl (by kernel_rfl) opensBytes)))))
theorem opensOps : Opens (El.slice elOp) 22 := Opens.slice Try.underlying22 (by kernel_rfl) (by decide) opensOp
theorem opensRows : Opens (El.slice El.bytes) 60 := Opens.slice Try.underlying60 (by kernel_rfl) (by decide) opensBytes
theorem sum_mem {α : Type} (f : α → Nat) : ∀ (l : List α) (x : α), x ∈ l → f x ≤ (l.map f).sum := by
  intro l
  induction l with
  | nil => intro x h; cases h
  | cons y l ih =>
    intro x h
    rw [List.map_cons, List.sum_cons]
    rcases List.mem_cons.1 h with rfl | h
    · omega
    · have := ih x h; omega
theorem sum_len {α : Type} (f : α → Nat) (hf : ∀ x, 1 ≤ f x) : ∀ (l : List α), l.length ≤ (l.map f).sum := by
  intro l
  induction l with
  | nil => simp
  | cons y l ih => rw [List.map_cons, List.sum_cons, List.length_cons]; have := hf y; omega
theorem openOps {H : Type} {enc : TypeId × Value → H} {W : World} {b0 base : Nat} {spare : Nat → Bool} {held : Bool} {v : Value} {d : DataW H} {p : List MemPlace}
    (hv : Value.okWide Try.prog W .any b0 22 v) (h : DataW.Trod enc Try.prog W base spare held 22 v d p) :
    ∃ A n c os, v = .slice A n c ∧ n ≤ c ∧ Rd elOp W (fun k => k < W.heap.size) A n os ∧ (∀ o ∈ os, o.2.2.2.2.length ≤ Rows.uptoBulk d) ∧ n ≤ Rows.uptoBulk d := by
  obtain ⟨A, n, c, os, e, hc, hr, hb⟩ := argSlice Try.underlying22 opensOps hv h
  have hb' : (os.map elOp.bulk).sum + 1 ≤ Rows.uptoBulk d := hb
  have hbk : ∀ o : Opr, elOp.bulk o = 1 + (1 + (1 + (1 + (o.2.2.2.2.length + 1)))) := fun _ => rfl
  refine ⟨A, n, c, os, e, hc, hr, fun o ho => ?_, ?_⟩
  · have := sum_mem elOp.bulk os o ho
    rw [hbk] at this
    omega
  · have := sum_len elOp.bulk (fun o => by rw [hbk]; omega) os
    have := hr.len
    omega
theorem openRowsB {H : Type} {enc : TypeId × Value → H} {W : World} {b0 base : Nat} {spare : Nat → Bool} {held : Bool} {v : Value} {d : DataW H} {p : List MemPlace}
    (hv : Value.okWide Try.prog W .any b0 60 v) (h : DataW.Trod enc Try.prog W base spare held 60 v d p) :
    ∃ A n c ls, v = .slice A n c ∧ n ≤ c ∧ Rd El.bytes W (fun k => k < W.heap.size) A n ls ∧ (∀ o ∈ ls, o.length ≤ Rows.uptoBulk d) ∧ n ≤ Rows.uptoBulk d := by
  obtain ⟨A, n, c, ls, e, hc, hr, hb⟩ := argSlice Try.underlying60 opensRows hv h
  have hb' : (ls.map El.bytes.bulk).sum + 1 ≤ Rows.uptoBulk d := hb
  have hbk : ∀ o : List UInt8, El.bytes.bulk o = o.length + 1 := fun _ => rfl
  refine ⟨A, n, c, ls, e, hc, hr, fun o ho => ?_, ?_⟩
  · have := sum_mem El.bytes.bulk ls o ho
    rw [hbk] at this
    omega
  · have := sum_len El.bytes.bulk (fun o => by rw [hbk]; omega) ls
    have := hr.len
    omega
end Go.Proofs.Ytmkmbnfmmibifaa
