/-
  The net's Drop.
-/
import Derived.Test.YtmkmbnfmmibifaaNet5
namespace Go.Proofs.Ytmkmbnfmmibifaa
open Go.RowKit

def RNet (S : Nat → Prop) (P : Nat) (N : Int) (w : World) (r0 : Int) (L' : List Par) (r : Int) (w' : World) : Prop := r = r0 ∧ RetNet TN TP w S P N L' w'
set_option maxRecDepth 100000 in
set_option maxHeartbeats 1600000 in
theorem drop1_calls (w : World) (S : Nat → Prop) (P : Nat) (N : Int) (L : List Par) (g cap : Nat) (h : PNet w S P N (.slice (some ⟨g, 0, none⟩) L.length cap) L) (i : Nat) (hi : i < L.length) (hm : L.length ≤ 4096) (x y : Nat)
    (hx : w.cell? ⟨x, 0, none⟩ = some (.pointer (some ⟨P, 0, none⟩))) (hy : w.cell? ⟨y, 0, none⟩ = some (.int .i64 (i : Int))) (hxs : ¬ S x) (hys : ¬ S y) :
    Calls Try.prog 28 #[.pointer (some ⟨g, i * 4, none⟩), .pointer (some ⟨x, 0, none⟩), .pointer (some ⟨y, 0, none⟩)] w fun e w' => ∃ r, e = .returned (.int .i64 r) ∧ RNet S P N w 0 (L.eraseIdx i) r w' := by
  have c1 := h.c1
  have hpl := h.plt
  have hdel := delete_calls w.drew _ _ L i h.drew.own hi hm
  have hgS := h.own.lt g rfl
  have hfz := h.fr
  have hwr : IntKind.i64.wrap ((i : Int) + 1) = (i : Int) + 1 := IntWalk.i64_in _ ⟨by omega, by omega⟩
  go_enter Try.func28, Try.ntmps28
  go_wp2_with fail
  go_region_law (first
    | (go_simp; go_at_call 29; (with_reducible refine hdel.mono ?_); unfold RetOwn; rintro e w2 ⟨v2, rfl, ho2, hc2⟩; obtain ⟨A2, n2, cc2, rfl, -, -⟩ := ho2.shape;
        have hcS : Chg (fun k => S k ∧ k ≠ P) w w2 := hc2.fromDrew.mono (fun k _ hk => (by injection hk with hk; subst hk; exact hgS.1));
        have hx2 := hcS.cell hx (fun hh => hxs hh.1);
        have hy2 := hcS.cell hy (fun hh => hys hh.1);
        have c2 := hcS.cell c1 (fun hh => hh.2 rfl);
        have hfr : ∀ i, w2.frozen? ⟨P, i, none⟩ = false := fun i => (World.frozen?_of_block (a := ⟨P, i, none⟩) (hcS.block P hpl (fun hh => hh.2 rfl))).trans (hfz i)))
  all_goals
    go_wp2_with fail
    have hp := h.put hcS ho2 (fun k hk => .inl hk)
    have hres : RNet S P N w 0 (L.eraseIdx i) 0 (w2.setCell ⟨P, 1, none⟩ (.slice A2 n2 cc2)) := ⟨rfl, _, _, hp, (hcS.mono fun k _ hk => hk.1).trans (Chg.set _ _ _) (fun k _ hk => by rw [hk]; exact h.sp), fun k hk => by
      rcases hk with hk | rfl
      · exact .inl hk.1
      · exact .inl h.sp⟩
    have HRES := Lib.hid hres
    clear hres hp
    go_ret
    exact ⟨0, rfl, HRES.out⟩
end Go.Proofs.Ytmkmbnfmmibifaa
