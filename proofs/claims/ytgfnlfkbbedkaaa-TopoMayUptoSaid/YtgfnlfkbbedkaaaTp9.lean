/-
  topo.Reach's walk.
-/
import Derived.Test.YtgfnlfkbbedkaaaTpR
namespace Go.Proofs.Ytgfnlfkbbedkaaa
open Go.RowKit

/-- What topo.Reach hands back: those that are reached, rising. -/
def RetR (w : World) (es : List Ed) (a : Int) (e : Ending) (w' : World) : Prop := ∃ xs, xs.Pairwise (· < ·) ∧ (∀ x, x ∈ xs ↔ Reaches es a x) ∧ RetI w xs e w'
theorem stepB1 {w w' : World} (h : Below w.drew.heap.size w.drew w') : Below w.heap.size w w' := ⟨h.os, h.tape, h.output, h.size, h.block⟩
theorem app_own {W : World} (base : Nat) (ty : TypeId) (v : Value) (zs : List Int) (z : Int)
    (HO : OwnI W base v zs) (hbase : base ≤ W.heap.size) (hl : zs.length ≤ 1099511627776) :
    ∃ v1 w1, (Builtin.append_ #[29, 29] ty #[v, .slice (some ⟨W.heap.size, 0, none⟩) 1 1]).run Try.prog (W.alloc (.cells #[.int .i64 z] 3)) = .ok v1 w1 ∧ OwnI w1 base v1 (zs ++ [z]) ∧
      Chg (fun k => v.ownBlock = some k) W w1 ∧ (v1.ownBlock = v.ownBlock ∨ ∃ k, v1.ownBlock = some k ∧ W.heap.size ≤ k) := by
  obtain ⟨i0, hi, hzz⟩ := Option.map_eq_some_iff.1 info_int
  simp only [Prod.mk.injEq] at hzz
  obtain ⟨hz0, hz1, hz2⟩ := hzz
  have hz : base ≤ (W.alloc (.cells #[.int .i64 z] 3)).heap.size := by simp; omega
  have h2a : (W.alloc (.cells #[.int .i64 z] 3)).ownsRow base 3 1 v zs.length (ivals zs) := World.ownsRow.alloc HO _
  obtain ⟨v1, w1, hr, k2, k3, _, k5⟩ := run_append_own_at (P := Try.prog) (W.alloc (.cells #[.int .i64 z] 3)) base 29 ty 3 i0 (.int .i64 0) 1 8 Try.underlying29 hi hz0 hz1 hz2 rfl (by omega) v zs.length (ivals zs) h2a ⟨W.heap.size, 0, none⟩ 1 1 [.int .i64 z] rfl
    (cell_one_new _ _ _) (by simp [Value.oneCell']) (by simp only [maxLen]; omega) (by omega) hz
  refine ⟨v1, w1, hr, by unfold OwnI; rw [List.length_append, ivals_append]; exact k2, ?_, k5.imp_right fun e => ⟨_, e, by simp⟩⟩
  have a : Chg (fun k => v.ownBlock = some k) W (W.alloc (.cells #[.int .i64 z] 3)) := Chg.ofBelow ((Below.refl _ _).alloc (Nat.le_refl _) _)
  exact a.trans (Chg.ofGrown k3) fun k hk e => e.symm
section
variable {ops : Array Oper} {rest : List Oper} {o : Oper} {a : Act} {Q : Exit → Act → World → Prop}
theorem appO {W : World} (base : Nat) (hgd : Region.wanted o (yielded ops a.tmps) = true) (s x : Operand)
    (ho : o.op = .call { callee := .builtin .append, args := #[s, x], argTypes := #[29, 29] })
    (v : Value) (zs : List Int) (z : Int) (hs : a.eval s = v) (hx : a.eval x = .slice (some ⟨W.heap.size, 0, none⟩) 1 1)
    (HO : OwnI W base v zs) (hbase : base ≤ W.heap.size) (hl : zs.length ≤ 1099511627776)
    (h : ∀ v1 w1, OwnI w1 base v1 (zs ++ [z]) → Chg (fun k => v.ownBlock = some k) W w1 → (v1.ownBlock = v.ownBlock ∨ ∃ k, v1.ownBlock = some k ∧ W.heap.size ≤ k) → wpList Try.prog ops Q rest (a.put o.dst v1) w1) :
    wpList Try.prog ops Q (o :: rest) a (W.alloc (.cells #[.int .i64 z] 3)) := by
  obtain ⟨v1, w1, hr, h2, h3, h4⟩ := app_own base o.type v zs z HO hbase hl
  refine wpList_wanted hgd fun K hK => ?_
  unfold Oper.wp execOp
  simp only [ho, resolve, invoke, builtin, Sem.run_bind, Sem.run_pure, Result.andThen_ok, List.map_toArray, List.map_cons, List.map_nil, hs, hx, hr]
  exact hK _ _ (h v1 w1 h2 h3 h4)
end
set_option maxRecDepth 20000 in
set_option maxHeartbeats 4000000 in
theorem reach_calls (w : World) (v : Value) (ep : Int) (up : List Bool) (hops : List (List Ed)) (h : TopoV w (fun k => k < w.heap.size) v ep up hops) (hf : Few hops) (flow node : Int) (h1 : inI flow) :
    Calls Try.prog 12 #[v, .int .i64 flow, .int .i64 node] w (RetR w (edgesOf hops flow) node) := by
  have hfe := hf.edges flow
  obtain ⟨es, hes⟩ : ∃ es, edgesOf hops flow = es := ⟨_, rfl⟩
  rw [hes] at hfe ⊢
  have hT0 := h
  obtain ⟨A, n, c, B, m, d, rfl, g1, g2, g3, g4⟩ := h
  obtain ⟨w1, hw1⟩ : ∃ w1, w.alloc (.cells #[.int .u64 ep, .slice A n c, .slice B m d] 27) = w1 := ⟨_, rfl⟩
  have b1 : Below w.heap.size w w1 := by rw [← hw1]; exact (Below.refl _ _).alloc (Nat.le_refl _) _
  have hs1 : w1.heap.size = w.heap.size + 1 := by rw [← hw1]; simp
  have hnx : ∀ (W : World) (x : Int), Below w1.heap.size w1 W → Calls Try.prog 14 #[.agg #[.int .u64 ep, .slice A n c, .slice B m d], .int .i64 flow, .int .i64 x] W (RetI W (endsOf (fun e : Ed => (e.2, e.1 == x)) es)) := by
    intro W x hb
    have hbw : Below w.heap.size w W := belowThen b1 b1.size (by exact hb)
    have := next_calls W _ ep up hops ((hT0.below hbw).mono fun k hk _ => by have := hbw.size; omega) hf flow x h1
    unfold nextOf at this
    rwa [hes] at this
  have hc : ∀ (W : World), Below w1.heap.size w1 W → W.cell? ⟨w.heap.size, 0, none⟩ = some (.int .u64 ep) ∧ W.cell? ⟨w.heap.size, 1, none⟩ = some (.slice A n c) ∧ W.cell? ⟨w.heap.size, 2, none⟩ = some (.slice B m d) := by
    intro W hb
    refine ⟨(hb.cell (p := ⟨w.heap.size, 0, none⟩) (show w.heap.size < w1.heap.size by omega)).trans ?_, (hb.cell (p := ⟨w.heap.size, 1, none⟩) (show w.heap.size < w1.heap.size by omega)).trans ?_, (hb.cell (p := ⟨w.heap.size, 2, none⟩) (show w.heap.size < w1.heap.size by omega)).trans ?_⟩ <;> rw [← hw1] <;> simp
  have hn0 := hnx w1 node (Below.refl _ _)
  obtain ⟨c0, c1, c2⟩ := hc w1 (Below.refl _ _)
  have HW1 := Lib.hid hw1
  have HS1 := Lib.hid hs1
  have B1 := Lib.hid b1
  have HNX := Lib.hid hnx
  have HC := Lib.hid hc
  clear hT0 g3 g4 hf hes hw1 hs1 b1 hnx hc
  go_enter Try.func12, Try.ntmps12
  go_upto_region 1 with (fail)
  rw [HW1.out]
  go_wp2_with (go_at_call 14; refine hn0.mono ?_; rintro e w2 ⟨v2, rfl, hO2, b2⟩)
  obtain ⟨A2, cc2, e2, hc2, _, _, _⟩ := hO2.rd
  obtain ⟨L0, hL0⟩ : ∃ L0, endsOf (fun e : Ed => (e.2, e.1 == node)) es = L0 := ⟨_, rfl⟩
  have hR0 := RInv.init es node
  rw [hL0] at hR0 hO2 e2 hc2
  subst e2
  have hl0 := hR0.len
  have HO2 := Lib.hid hO2
  have BB2 := Lib.hid b2
  have HR0 := Lib.hid hR0
  clear hn0 hL0 c0 c1 c2 hO2 b2 hR0
  go_loopg [7, 8] 1048577 (fun gg s7 s8 wr => ∃ (i : Nat) (out : List Int) (A2 : Option Addr) (N cc : Nat), s8 = .int .i64 (i : Int) ∧ s7 = .slice A2 N cc ∧ i ≤ N ∧ N ≤ 1048576 ∧ N ≤ cc ∧ 1048577 - i ≤ gg ∧ Hid (out.length = N) ∧ Hid (RInv es node i out) ∧
    Hid (OwnI wr w1.heap.size (.slice A2 N cc) out) ∧ Hid (Below w1.heap.size w1 wr))
  case atStart => exact ⟨0, L0, A2, L0.length, cc2, rfl, rfl, Nat.zero_le _, by omega, hc2, by omega, Lib.hid rfl, HR0, HO2, BB2⟩
  case round =>
    obtain ⟨i, out, A3, N, cc, rfl, rfl, hiN, hN, hNc, hgi, HN, HRI, HO, HB⟩ := hrel
    obtain ⟨c0, c1, c2⟩ := HC.out _ HB.out
    by_cases hlt : i < N
    · have hlti : (i : Int) < (N : Int) := by omega
      obtain ⟨A3', cc', e3, _, hcm, _, hRd⟩ := HO.out.rd
      rw [HN.out] at e3 hRd
      injection e3 with e3a e3b e3c
      subst e3a e3c
      obtain ⟨bl, ol, rfl, hbl, hcj⟩ := hRd.at_ i hlt
      obtain ⟨x, hx⟩ : ∃ x, out[i]?.getD 0 = x := ⟨_, rfl⟩
      rw [hx] at hcj
      have hxi : out[i]? = some x := by
        have : i < out.length := by rw [HN.out]; exact hlt
        rw [List.getElem?_eq_getElem this] at hx ⊢
        simpa using hx
      have hi0 : (0 : Int) ≤ (i : Int) := by omega
      have hcall := HNX.out wr.drew x HB.out.drew
      have HXI := Lib.hid (HRI.out.enter hxi)
      obtain ⟨ns, hns⟩ : ∃ ns, endsOf (fun e : Ed => (e.2, e.1 == x)) es = ns := ⟨_, rfl⟩
      rw [hns] at hcall
      have HNS := Lib.hid hns
      have hnsl : ns.length ≤ 1048576 := by rw [← hns]; exact Nat.le_trans (endsOf_len _ _) hfe
      clear hx hxi hRd hns
      go_wp2_with fail
      go_region_law (first
        | (go_simp; go_at_call 14; (with_reducible refine hcall.mono ?_); rintro e wn ⟨vn, rfl, hOn, bn⟩; obtain ⟨An, cn, en, hnc, _, _, _⟩ := hOn.rd; subst en; have HON := Lib.hid hOn; have BN := Lib.hid bn; clear hOn bn))
      all_goals
        obtain ⟨M, hM⟩ : ∃ M, ns.length = M := ⟨_, rfl⟩
        rw [hM] at HON hnc hnsl ⊢
        have HM := Lib.hid hM
        have HOW := Lib.hid (HO.out.below (stepB1 BN.out))
        have HBW := Lib.hid (belowThen HB.out HB.out.size (stepB1 BN.out))
        have HDJ : Hid (∀ q, (Value.slice (some ⟨bl, ol, none⟩) N cc).ownBlock = some q → (Value.slice An M cn).ownBlock ≠ some q) := Lib.hid fun q hq e => by
          have h1 := (HO.out.lt q hq).2
          have h2 := (HON.out.lt q e).1
          have h3 : wr.drew.heap.size = wr.heap.size := rfl
          omega
        clear hM c0 c1 c2 hcj
        go_simp
        go_wp2
        go_loopg [7, 29] M (fun g2 s7 s29 wi => ∃ (k : Nat) (out2 : List Int) (A4 : Option Addr) (N4 c4 : Nat), s29 = .int .i64 (k : Int) ∧ s7 = .slice A4 N4 c4 ∧ k ≤ M ∧ M - k ≤ g2 ∧ N4 ≤ 1048576 ∧ N4 ≤ c4 ∧ Hid (out2.length = N4) ∧ Hid (RIn es node i x k out2) ∧
          Hid (OwnI wi w1.heap.size (.slice A4 N4 c4) out2) ∧ Hid (OwnI wi wr.drew.heap.size (.slice An M cn) ns) ∧ Hid (∀ q, (Value.slice A4 N4 c4).ownBlock = some q → (Value.slice An M cn).ownBlock ≠ some q) ∧ Hid (Below w1.heap.size w1 wi))
        case atStart => exact ⟨0, out, _, N, cc, rfl, rfl, Nat.zero_le _, by omega, hN, hNc, HN, HXI, HOW, HON, HDJ, HBW⟩
        case round =>
          clear HOW HON HDJ HBW BN HO HB HXI HRI HN
          obtain ⟨k, out2, A4, N4, c4, rfl, rfl, hk, hg2, hN4, hNc4, HN4, HRN, HO4, HS4, HD4, HB4⟩ := hrel
          by_cases hkM : k < M
          · have hkM' : (k : Int) < (M : Int) := by omega
            obtain ⟨A5, c5, e5, _, _, _, hR5⟩ := HS4.out.rd
            rw [HM.out] at e5 hR5
            injection e5 with e5a e5b e5c
            subst e5a e5c
            obtain ⟨b5, o5, e6, hb5, hc5⟩ := hR5.at_ k hkM
            subst e6
            obtain ⟨y, hy⟩ : ∃ y, ns[k]?.getD 0 = y := ⟨_, rfl⟩
            rw [hy] at hc5
            have hyk : ns[k]? = some y := by
              have : k < ns.length := by rw [HM.out]; exact hkM
              rw [List.getElem?_eq_getElem this] at hy ⊢
              simpa using hy
            have HYK : Hid ((endsOf (fun e : Ed => (e.2, e.1 == x)) es)[k]? = some y) := Lib.hid (by rw [HNS.out]; exact hyk)
            obtain ⟨A7, c7, e7, _, _, _, hR7⟩ := HO4.out.rd
            rw [HN4.out] at e7 hR7
            injection e7 with e7a e7b e7c
            subst e7a e7c
            have hco := contains_calls (c := c4) hR7 y
            clear hy hyk hR5 hR7
            cases hq : out2.contains y with
            | true =>
              have HQ := Lib.hid hq
              rw [hq] at hco
              clear hq
              go_wp2_with (go_at_call 55; refine hco.mono ?_; rintro e wq ⟨rfl, rfl⟩)
              go_roundg (M - (k + 1))
              case measure => omega
              case rel => exact ⟨k + 1, out2, A4, N4, c4, by go_num, rfl, by omega, by omega, hN4, hNc4, HN4, Lib.hid (HRN.out.keep HYK.out (by simpa using HQ.out)), HO4, HS4, HD4, HB4⟩
            | false =>
              have HQ := Lib.hid hq
              have HRA := Lib.hid (HRN.out.add HYK.out (by have := HQ.out; simpa using this))
              have hln : out2.length ≤ 1099511627776 := by rw [HN4.out]; omega
              have hln2 : (out2 ++ [y]).length ≤ 1048576 := Nat.le_trans HRA.out.inv.len hfe
              rw [hq] at hco
              clear hq
              obtain ⟨O2, hO2⟩ : ∃ O2, out2 ++ [y] = O2 := ⟨_, rfl⟩
              have HO2' := Lib.hid hO2
              rw [hO2] at HRA hln2
              clear hO2
              go_wp2_with (first
                | (go_at_call 55; refine hco.mono ?_; rintro e wq ⟨rfl, rfl⟩)
                | (at_builtin; refine appO w1.heap.size rfl (.tmp 37) (.tmp 39) rfl (.slice A4 N4 c4) out2 y rfl rfl HO4.out HB4.out.size hln ?_; intro v3 w3 ho3 hc3 hv3; rw [HO2'.out] at ho3; obtain ⟨A8, c8, e8, hn8, _, _, _⟩ := ho3.rd; subst e8; have HL8 := Lib.hid ho3; have HC8 := Lib.hid hc3; have HV8 := Lib.hid hv3; clear ho3 hc3 hv3))
              go_roundg (M - (k + 1))
              case measure => omega
              case rel =>
                refine ⟨k + 1, O2, A8, O2.length, c8, by go_num, rfl, by omega, by omega, hln2, hn8, Lib.hid rfl, HRA, HL8, Lib.hid (HS4.out.chg HC8.out fun q hq e => HD4.out q e hq), Lib.hid fun q hq e => ?_, Lib.hid (HC8.out.below HB4.out HB4.out.size fun q hq => (HO4.out.lt q hq).1)⟩
                rcases HV8.out with h' | ⟨q', h1', h2'⟩
                · rw [h'] at hq; exact HD4.out q hq e
                · rw [h1'] at hq; injection hq with hq; subst hq
                  have := (HS4.out.lt _ e).2
                  omega
          · have hkM' : ¬ ((k : Int) < (M : Int)) := by omega
            obtain rfl : k = M := by omega
            have hnx2 := HRN.out
            rw [← HM.out, ← HNS.out] at hnx2
            have HNX2 := Lib.hid hnx2.next
            have hlen2 : i + 1 ≤ N4 := by
              have := (List.getElem?_eq_some_iff.1 hnx2.here).1
              rw [HN4.out] at this
              omega
            clear hnx2
            go_wp2_with fail
            go_roundg (1048577 - (i + 1))
            case measure => omega
            case rel => exact ⟨i + 1, out2, A4, N4, c4, by go_num, rfl, hlen2, hN4, hNc4, Nat.le_refl _, HN4, HNX2, HO4, HB4⟩
    · have hlti : ¬ ((i : Int) < (N : Int)) := by omega
      obtain rfl : i = N := by omega
      have hfin := HRI.out
      have hsc := sort_calls HO.out HB.out (Nat.le_refl _) (by rw [HN.out]; omega)
      rw [← HN.out] at hfin
      have HF := Lib.hid hfin
      clear hfin c0 c1 c2
      go_wp2_with (go_at_call 51; refine hsc.mono ?_; rintro e w9 ⟨rfl, hO9, hb9⟩)
      go_ret
      exact ⟨sortI out, sortI_nodup HF.out.nodup, fun z => by rw [(sortI_spec out).2, HF.out.all], _, rfl, hO9.lower (by have := HS1.out; omega), belowThen B1.out B1.out.size hb9⟩
end Go.Proofs.Ytgfnlfkbbedkaaa
