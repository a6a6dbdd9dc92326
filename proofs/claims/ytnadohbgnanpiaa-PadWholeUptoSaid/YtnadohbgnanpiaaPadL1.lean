/-
  The symbols of Lay lie in one block of the call's own, which can be written.
-/
import Derived.Test.YtnadohbgnanpiaaPadR2
namespace Go.Proofs.Ytnadohbgnanpiaa
open Go.RowKit

def OwnBBG (w : World) (base G : Nat) (v : Value) (ls : List (List UInt8)) : Prop :=
  ∃ vs : List Value, vs.length = ls.length ∧ w.ownsRow base 28 1 v vs.length vs ∧
    ∀ j, j < ls.length → ∃ Aj nj cj, vs[j]? = some (.slice Aj nj cj) ∧ (nj ≤ cj ∧ ∀ ad, Aj = some ad → ad.block = G) ∧ RdB w (fun k => base ≤ k ∧ v.ownBlock ≠ some k) Aj nj (lrow ls j)
theorem OwnBBG.nil (w : World) (base G : Nat) : OwnBBG w base G (.slice none 0 0) [] := ⟨[], rfl, World.ownsRow_nil w base _ 1, fun j hj => absurd hj (by simp)⟩
theorem OwnBBG.own {w : World} {base G : Nat} {v : Value} {ls : List (List UInt8)} (h : OwnBBG w base G v ls) : OwnBB w base v ls := by
  obtain ⟨vs, h1, h2, h3⟩ := h
  refine ⟨vs, h1, h2, fun j hj => ?_⟩
  obtain ⟨Aj, nj, cj, k1, k2, k3⟩ := h3 j hj
  exact ⟨Aj, nj, cj, k1, k2.1, k3⟩
section
variable {P : Program} {ops : Array Oper} {rest : List Oper} {o : Oper} {a : Act} {Q : Exit → Act → World → Prop}
theorem run_appBBG {W : World} (base G : Nat) (ty : TypeId) (v : Value) (ls : List (List UInt8)) (m : List UInt8) (Am : Option Addr) (nm cm : Nat)
    (HO : OwnBBG W base G v ls) (hcm : nm ≤ cm ∧ ∀ ad, Am = some ad → ad.block = G) (HR : RdB W (fun k => base ≤ k ∧ v.ownBlock ≠ some k) Am nm m) (hbase : base ≤ W.heap.size) (hl : ls.length ≤ 1099511627776) :
    ∃ v1 w1, (Builtin.append_ #[25, 25] ty #[v, .slice (some ⟨W.heap.size, 0, none⟩) 1 1]).run Try.prog (W.alloc (.cells #[.slice Am nm cm] 28)) = .ok v1 w1 ∧ OwnBBG w1 base G v1 (ls ++ [m]) ∧
      (W.alloc (.cells #[.slice Am nm cm] 28)).grownBy w1 v.ownBlock ∧ (v1.ownBlock = v.ownBlock ∨ v1.ownBlock = some (W.heap.size + 1)) := by
  obtain ⟨i0, hi, hzz⟩ := Option.map_eq_some_iff.1 info_bb
  simp only [Prod.mk.injEq] at hzz
  obtain ⟨hz0, hz1, hz2⟩ := hzz
  obtain ⟨vs, h1, h2, h3⟩ := HO
  have hz : base ≤ (W.alloc (.cells #[.slice Am nm cm] 28)).heap.size := by simp; omega
  have h2a : (W.alloc (.cells #[.slice Am nm cm] 28)).ownsRow base 28 1 v vs.length vs := h2.alloc _
  obtain ⟨v1, w1, hr, k2, k3, _, k5⟩ := run_append_own_at (P := Try.prog) (W.alloc (.cells #[.slice Am nm cm] 28)) base 25 ty 28 i0 (.slice none 0 0) 1 24 Try.underlying25 hi hz0 hz1 hz2 rfl (by omega) v vs.length vs h2a ⟨W.heap.size, 0, none⟩ 1 1 [.slice Am nm cm] rfl
    (cell_one_new _ _ _) (by simp [Value.oneCell']) (by simp only [maxLen]; omega) (by omega) hz
  refine ⟨v1, w1, hr, ⟨vs ++ [.slice Am nm cm], by simp [h1], by simpa using k2, fun j hj => ?_⟩, k3, by simpa using k5⟩
  have hown : ∀ k, base ≤ k ∧ v.ownBlock ≠ some k → k < W.heap.size → base ≤ k ∧ v1.ownBlock ≠ some k := fun k hk hl => ⟨hk.1, fun e => by
    rcases k5 with k5 | k5
    · exact hk.2 (by rw [← k5]; exact e)
    · rw [k5] at e
      simp at e
      omega⟩
  have keepB : ∀ {X : Option Addr} {nx : Nat} {xs : List UInt8}, RdB W (fun k => base ≤ k ∧ v.ownBlock ≠ some k) X nx xs → RdB w1 (fun k => base ≤ k ∧ v1.ownBlock ≠ some k) X nx xs := fun hx =>
    (((hx.mono fun k hk hl => show (base ≤ k ∧ v1.ownBlock ≠ some k) ∧ v.ownBlock ≠ some k from ⟨hown k hk hl, hk.2⟩).alloc _).grown k3 fun k hk e => hk.2 e.symm).mono fun k hk _ => hk.1
  rw [List.length_append, List.length_singleton] at hj
  by_cases hlt : j < ls.length
  · obtain ⟨Aj, nj, cj, q1, q2, q3⟩ := h3 j hlt
    exact ⟨Aj, nj, cj, by rw [List.getElem?_append_left (by omega)]; exact q1, q2, by rw [lrow_left _ _ _ hlt]; exact keepB q3⟩
  · obtain rfl : j = ls.length := by omega
    exact ⟨Am, nm, cm, by rw [List.getElem?_append_right (by omega), h1]; simp, hcm, by rw [lrow_new]; exact keepB HR⟩
theorem appBBG {w0 W : World} (B base G : Nat) (hgd : Region.wanted o (yielded ops a.tmps) = true) (s x : Operand)
    (ho : o.op = .call { callee := .builtin .append, args := #[s, x], argTypes := #[25, 25] })
    (v : Value) (ls : List (List UInt8)) (m : List UInt8) (Am : Option Addr) (nm cm : Nat) (hs : a.eval s = v) (hx : a.eval x = .slice (some ⟨W.heap.size, 0, none⟩) 1 1)
    (HO : OwnBBG W base G v ls) (hcm : nm ≤ cm ∧ ∀ ad, Am = some ad → ad.block = G) (HR : RdB W (fun k => base ≤ k ∧ v.ownBlock ≠ some k) Am nm m) (HB : Below B w0 W) (hbase : base ≤ W.heap.size) (hBb : B ≤ base) (hl : ls.length ≤ 1099511627776)
    (h : ∀ v1 w1, OwnBBG w1 base G v1 (ls ++ [m]) → Below B w0 w1 → W.grownBy w1 v.ownBlock → (v1.ownBlock = v.ownBlock ∨ v1.ownBlock = some (W.heap.size + 1)) → wpList Try.prog ops Q rest (a.put o.dst v1) w1) :
    wpList Try.prog ops Q (o :: rest) a (W.alloc (.cells #[.slice Am nm cm] 28)) := by
  obtain ⟨v1, w1, hr, h2, h3, h5⟩ := run_appBBG base G o.type v ls m Am nm cm HO hcm HR hbase hl
  obtain ⟨vs, _, hvs, _⟩ := HO
  refine wpList_wanted hgd fun K hK => ?_
  unfold Oper.wp execOp
  simp only [ho, resolve, invoke, builtin, Sem.run_bind, Sem.run_pure, Result.andThen_ok, List.map_toArray, List.map_cons, List.map_nil, hs, hx, hr]
  refine hK _ _ (h v1 w1 h2 ((HB.alloc (by omega) _).grown h3 (by simp; omega) (fun k hk => by have := World.ownsRow.lt hvs k hk; omega)) ?_ h5)
  exact (World.grownBy_alloc W _ _).trans h3
end
set_option maxHeartbeats 2000000 in
theorem layG_calls (A : Option Addr) (n c a b P : Nat) (xs : List UInt8) (w : World) (ok : Nat → Prop) (hr : RdB w ok A n xs) (hab : a * b = P) (hP : ((a : Int) * (b : Int)) = (P : Int)) (h1 : 1 ≤ a) (h2 : a ≤ 255) (h3 : 1 ≤ b) (h4 : b ≤ 65535) (h5 : 4 < P) (h6 : P ≤ 16711425) (hn1 : 1 ≤ n) (hn : n ≤ P - 4) :
    Calls Try.prog 10 #[.slice A n c, .int .i64 (a : Int), .int .i64 (b : Int)] w fun e w' => ∃ v G, e = .returned (.tuple #[v, .int .i64 0]) ∧ OwnBBG w' w.heap.size G v (Pad.lays xs a b) ∧ (∀ o, w'.frozen? ⟨G, o, none⟩ = false) ∧ w.heap.size ≤ G ∧ v.ownBlock ≠ some G ∧ Below w.heap.size w w' := by
  have HP := Lib.hid hP
  have HAB := Lib.hid hab
  have hn0 : ((n : Int) == 0) = false := by rw [beq_eq_false_iff_ne]; omega
  have hn2 : ¬ ((P - 4 : Nat) : Int) < (n : Int) := by omega
  have hnum : Wire.numOf [] n 4 = (Wire.form n 4, 0) := by
    rw [Wire.numOf, if_neg (by omega), if_neg (by simp; omega)]
    rfl
  have hfl : (Wire.form n 4).length = 4 := Wire.form_length _ _
  have hxl := hr.len
  have HXL := Lib.hid hxl
  obtain ⟨m, hm⟩ : ∃ m, P - 4 - n = m := ⟨_, rfl⟩
  obtain ⟨R, hR⟩ : ∃ R, P - 4 = R := ⟨_, rfl⟩
  have hall : Wire.form n 4 ++ xs ++ List.replicate m 0 = Pad.full xs P := by rw [Pad.full, hxl, hm]
  have hfull : (Pad.full xs P).length = P := Pad.full_length xs P (by omega)
  have hsub : ((R : Nat) : Int) - (n : Int) = (m : Int) := by omega
  have hmP : (Wire.form n 4 ++ xs).length + m ≤ 1099511627776 := by rw [List.length_append, hfl, hxl]; omega
  have hln : (Wire.form n 4).length + n ≤ 140737488355328 := by rw [hfl]; omega
  rw [hR] at hn2
  have HALL := Lib.hid hall
  have HFULL := Lib.hid hfull
  have hroom := room_calls a b P w hP h1 h2 h3 h4 h5 h6
  rw [hR] at hroom
  have HR := Lib.hid hR
  have hn1i : 1 ≤ (n : Int) := by omega
  have hRi : R ≤ 16711421 := by omega
  have hnR : n ≤ R := by omega
  clear hm hR hall hfull hxl hfl hn
  have hwn : IntKind.u64.wrap (n : Int) = (n : Int) := IntWalk.u64_in _ ⟨by omega, by omega⟩
  clear hP hab
  go_enter Try.func10, Try.ntmps10
  go_wp2_with fail
  refine hroom.mono ?_
  rintro e w' ⟨rfl, rfl⟩
  clear hroom
  go_wp2_with fail
  refine (wnum_any none 0 0 n 4 [] w (fun _ => True) (RdB.nil _ _ _) (by omega) (by omega)).mono ?_
  unfold RetNum
  rw [hnum]
  rintro e w1 ⟨v1, rfl, ho1, hb1⟩
  have hr1 := hr.below hb1
  have hz1 := hb1.size
  clear hnum
  go_wp2_with (first
    | (at_builtin; refine appB w.heap.size w.heap.size rfl _ _ rfl v1 (Wire.form n 4) xs A n c rfl rfl ho1 hr1 hb1 hz1 (Nat.le_refl _) hln ?_; intro v2 w2 ho2 hb2 _ _; have hz2 := hb2.size; clear ho1 hr1 hb1 hz1)
    | (at_builtin; go_loud (refine appZ w.heap.size w.heap.size rfl _ _ rfl v2 (Wire.form n 4 ++ xs) m rfl rfl ho2 hb2 hz2 (Nat.le_refl _) hmP ?_); intro v3 w3 ho3 hb3 _; clear ho2 hb2 hz2))
  have ho4 : OwnB w3 w.heap.size v3 (Pad.full xs P) := by rw [← HALL.out]; exact ho3
  obtain ⟨G, capG, eG, hG, hGl, hGn, _, hGf⟩ := ho4.form (by rw [HFULL.out]; omega)
  subst eG
  obtain ⟨A3, c3, e3, hc3, _, r3⟩ := ho4.rd
  cases e3
  have hl3 := ho4.lt
  rw [HFULL.out] at r3 hc3 hl3 ⊢
  have r4 : RdB w3 (fun k => w.heap.size ≤ k ∧ k < w3.heap.size ∧ k = G) (some ⟨G, 0, none⟩) P (Pad.full xs P) := r3.mono fun k hk hl => ⟨hk.1, hl, by have := hk.2; injection this with this; exact this.symm⟩
  clear ho3 ho4 r3 hl3
  obtain ⟨ls, hls⟩ : ∃ ls, Pad.lays xs a b = ls := ⟨_, rfl⟩
  have hll : ls.length = a := by rw [← hls]; exact Pad.lays_length xs a b
  have hget : ∀ k q, k < a → q = k * b → lrow ls k = ((Pad.full xs P).take (q + b)).drop q := fun k q hk hq => by
    rw [← hls, Pad.lays, HAB.out, lrow, Pad.parts_get b a _ k hk, hq, Option.getD_some, List.drop_take]
    congr 1
    omega
  have hP2 : ((a : Int) * (b : Int)) = (P : Int) := HP.out
  have HLS := Lib.hid hls
  clear hls
  go_loopw [12, 13] (fun v i wr => ∃ k q : Nat, k ≤ a ∧ q = k * b ∧ i = .int .i64 (q : Int) ∧ OwnBBG wr w.heap.size G v (ls.take k) ∧ (∀ x, v.ownBlock = some x → w3.heap.size ≤ x) ∧ Below w3.heap.size w3 wr) (fun _ i _ => P - (intOf i).toNat)
  case atStart => exact ⟨0, 0, Nat.zero_le _, by simp, rfl, OwnBBG.nil _ _ _, (fun x hx => by cases hx), Below.refl _ _⟩
  case round =>
    obtain ⟨k, q, hk, hq, rfl, ho, hown, hbe⟩ := hrel
    by_cases hlt : k < a
    · have hqb : q + b ≤ P := by
        rw [hq, ← HAB.out, ← Nat.succ_mul]
        exact Nat.mul_le_mul_right _ hlt
      have hqP : (q : Int) < (P : Int) := by omega
      have hnq : q + b = (k + 1) * b := by rw [Nat.succ_mul, hq]
      obtain ⟨A5, hcut, hcr⟩ := cut3_run (some ⟨G, 0, none⟩) P capG q (q + b) (by omega) hqb hc3
      have e5 : q + b - q = b := by omega
      rw [e5] at hcut hcr
      have hq2 : ((q + b : Nat) : Int) = (q : Int) + (b : Int) := by omega
      rw [hq2] at hcut
      have r5 := hcr wr _ _ (r4.below hbe)
      rw [← hget k q hlt hq] at r5
      have hA5 : ∀ ad, A5 = some ad → ad.block = G := fun ad e => by
        obtain ⟨ad', e', hok, _⟩ := r5.2.2 (by omega)
        rw [e] at e'
        injection e' with e'
        rw [e']
        exact hok.2.2
      have r6 : RdB wr (fun x => w.heap.size ≤ x ∧ u12.ownBlock ≠ some x) A5 b (lrow ls k) := r5.mono fun x hx _ => ⟨hx.1, fun e => by have := hown x e; omega⟩
      have hz5 : w.heap.size ≤ wr.heap.size := Nat.le_trans hb3.size hbe.size
      have hbw : Below w.heap.size w wr := belowThen hb3 hb3.size hbe
      have htk : ls.take (k + 1) = ls.take k ++ [lrow ls k] := by
        rw [List.take_add_one, lrow_eq ls k (by omega)]; simp [show k < ls.length by omega]
      have hlen : (ls.take k).length ≤ 1099511627776 := by rw [List.length_take]; omega
      have HTK := Lib.hid htk
      have HNQ := Lib.hid hnq
      have HQ := Lib.hid hq
      clear hcr r5 hget htk hnq hq hq2 e5
      go_wp2_with (at_builtin; go_loud (refine appBBG (w0 := w) w.heap.size w.heap.size G rfl _ _ rfl u12 (ls.take k) (lrow ls k) A5 b b rfl rfl ho ⟨Nat.le_refl _, hA5⟩ r6 hbw hz5 (Nat.le_refl _) hlen ?_); intro v5 w5 ho5 hb5 hg5 hv5; clear r6)
      go_roundw
      case rel =>
        refine ⟨k + 1, q + b, by omega, HNQ.out, by go_num, by rw [HTK.out]; exact ho5, fun x hx => ?_, hbe.grown hg5 hbe.size fun x hx => hown x hx⟩
        rcases hv5 with e | e
        · exact hown x (by rw [← e]; exact hx)
        · rw [e] at hx
          cases hx
          have := hbe.size
          omega
      case measure => simp [intOf]; omega
    · obtain rfl : a = k := by omega
      obtain rfl : q = P := by rw [hq, HAB.out]
      have HQ := Lib.hid hq
      have hbw : Below w.heap.size w wr := belowThen hb3 hb3.size hbe
      clear hget hq
      go_wp2_with fail
      go_ret2
      refine ⟨_, G, rfl, ?_, fun o => (hbe.frozen (p := ⟨G, o, none⟩) hGl).trans (hGf o), hG, fun e => by have := hown G e; omega, hbw⟩
      rw [HLS.out]
      rwa [List.take_of_length_le (by omega)] at ho
end Go.Proofs.Ytnadohbgnanpiaa
