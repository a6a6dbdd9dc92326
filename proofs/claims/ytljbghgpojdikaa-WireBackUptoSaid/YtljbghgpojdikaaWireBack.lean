/-
  The walk of WireBack.
-/
import Derived.Test.YtljbghgpojdikaaWire4
namespace Go.Proofs.Ytljbghgpojdikaa
open Go.RowKit

/-! ### Things -/
structure Thg where
  s : Nat
  n : Nat
  b : List UInt8
def Thg.size (x : Thg) : Nat := x.s % 9
def Thg.num (x : Thg) : Nat := if x.s % 9 = 0 ∨ x.s % 9 = 8 then x.n else x.n % 2 ^ (8 * (x.s % 9))
/-- The bytes of a thing. -/
def Thg.form (x : Thg) : List UInt8 := if x.size = 0 then x.b else Wire.form x.num x.size
def forms : List Thg → List UInt8
  | [] => []
  | x :: l => x.form ++ forms l
theorem forms_append (l m : List Thg) : forms (l ++ m) = forms l ++ forms m := by
  induction l with
  | nil => rfl
  | cons x l ih => simp [forms, ih]
theorem Thg.num_lt (x : Thg) (hn : x.n < 18446744073709551616) (h0 : x.size ≠ 0) : x.num < 256 ^ x.size := by
  have h9 : x.s % 9 < 9 := Nat.mod_lt _ (by omega)
  have e256 : 2 ^ (8 * (x.s % 9)) = 256 ^ (x.s % 9) := by rw [Nat.pow_mul]
  unfold Thg.num Thg.size at *
  split
  · rename_i h
    rcases h with h | h
    · exact absurd h h0
    · rw [h]; exact hn
  · rw [e256]; exact Nat.mod_lt _ (Nat.pow_pos (by omega))

/-- A thing as a value: what its reads see. -/
def ThgV (w : World) (ok : Nat → Prop) (x : Thg) (v : Value) : Prop :=
  x.s < 256 ∧ x.n < 18446744073709551616 ∧ ∃ A n c, v = .agg #[.int .u8 (x.s : Int), .int .u64 (x.n : Int), .slice A n c] ∧ n ≤ c ∧ n ≤ 1048576 ∧ RdB w ok A n x.b

set_option maxHeartbeats 800000 in
theorem sized_calls (x : Thg) (a : Value) (w : World) (hs : x.s < 256) (hn : x.n < 18446744073709551616) :
    Calls Try.prog 22 #[.agg #[.int .u8 (x.s : Int), .int .u64 (x.n : Int), a]] w fun e w' => e = .returned (.tuple #[.int .i64 (x.size : Int), .int .u64 (x.num : Int)]) ∧ Below w.heap.size w w' := by
  obtain ⟨k, hk⟩ : ∃ k, k = x.s % 9 := ⟨_, rfl⟩
  have h9 : k < 9 := by omega
  have hki : ((x.s : Int)).tmod 9 = (k : Int) := by rw [Int.tmod_eq_emod_of_nonneg (by omega)]; omega
  have hki' : ((x.s : Int)) % 9 = (k : Int) := by omega
  have hsz : x.size = k := by rw [Thg.size, ← hk]
  by_cases hc : k = 0 ∨ k = 8
  · have hnum : x.num = x.n := by rw [Thg.num, ← hk, if_pos hc]
    rw [hsz, hnum]
    clear hk hsz hnum
    rcases hc with rfl | rfl
    · go_enter Try.func22, Try.ntmps22
      go_wp2_with fail
      go_quiet (fail)
      go_wp2_with fail
      go_ret2
      exact ⟨rfl, belowDrewN ((Below.refl _ _).alloc (Nat.le_refl _) _) _⟩
    · go_enter Try.func22, Try.ntmps22
      go_wp2_with fail
      go_quiet (fail)
      go_wp2_with fail
      go_ret2
      exact ⟨rfl, belowDrewN ((Below.refl _ _).alloc (Nat.le_refl _) _) _⟩
  · have hnum : x.num = x.n % 2 ^ (8 * k) := by rw [Thg.num, ← hk, if_neg hc]
    rw [hsz, hnum]
    have h0 : ((k : Int) == 0) = false := by rw [beq_eq_false_iff_ne]; omega
    have h8 : ((k : Int) == 8) = false := by rw [beq_eq_false_iff_ne]; omega
    obtain ⟨P, hPe⟩ : ∃ P, 2 ^ (8 * k) = P := ⟨_, rfl⟩
    have hP0 : 0 < P := by rw [← hPe]; exact Nat.two_pow_pos _
    have hPl : P ≤ 72057594037927936 := by
      have h1 : 2 ^ (8 * k) ≤ 2 ^ 56 := Nat.pow_le_pow_right (by omega) (by omega)
      rw [hPe] at h1
      exact h1
    have hP : IntKind.u64.wrap (2 ^ (8 * k)) = (P : Int) := by
      have h1 : (2 : Int) ^ (8 * k) = (P : Int) := by rw [← hPe]; simp
      rw [h1]
      exact IntWalk.u64_in _ ⟨by omega, by omega⟩
    have hPz : ¬ (P : Int) = 0 := by omega
    obtain ⟨q, hq⟩ : ∃ q, x.n % P = q := ⟨_, rfl⟩
    have hr2 : (x.n : Int) % (P : Int) = (q : Int) := by rw [← hq]; simp
    have hr1 : ((x.n : Int)).tmod (P : Int) = (q : Int) := by rw [Int.tmod_eq_emod_of_nonneg (by omega)]; exact hr2
    have hrl : q < 72057594037927936 := by rw [← hq]; exact Nat.lt_of_lt_of_le (Nat.mod_lt _ hP0) hPl
    have hrw : IntKind.u64.wrap (q : Int) = (q : Int) := IntWalk.u64_in _ ⟨by omega, by omega⟩
    have HP := Lib.hid hPe
    rw [hPe, hq]
    clear hk hsz hnum hc hPe hq
    go_enter Try.func22, Try.ntmps22
    go_wp2_with fail
    go_region
    all_goals
      go_wp2_with fail
      go_ret2
      exact ⟨rfl, (((Below.refl _ _).alloc (Nat.le_refl _) _)).drew⟩

/-- What reading a thing tells: is it that thing, the error, what is left. -/
def rd (x : Thg) (ls : List UInt8) : Bool × Int × List UInt8 :=
  if x.size = 0 then (decide ((Wire.takeRead ls (x.b.length : Int)).1 = x.b), (Wire.takeRead ls (x.b.length : Int)).2.1, (Wire.takeRead ls (x.b.length : Int)).2.2)
  else ((((Wire.numRead ls (x.size : Int)).1 : Int) == (x.num : Int)), (Wire.numRead ls (x.size : Int)).2.1, (Wire.numRead ls (x.size : Int)).2.2)
theorem rd_whole (x : Thg) (hn : x.n < 18446744073709551616) (rest : List UInt8) : rd x (x.form ++ rest) = (true, 0, rest) := by
  unfold rd Thg.form
  by_cases h0 : x.size = 0
  · rw [if_pos h0, if_pos h0, Wire.takeRead, if_neg (by omega), if_neg (by rw [List.length_append]; omega)]
    simp
  · have h9 : x.size < 9 := Nat.mod_lt _ (by omega)
    have hl := Wire.form_length x.size x.num
    rw [if_neg h0, if_neg h0, Wire.numRead, if_neg (by omega), if_neg (by rw [List.length_append, hl]; omega)]
    have e : ((x.size : Int)).toNat = x.size := rfl
    rw [e, List.take_left' hl, List.drop_left' hl, Wire.be_form, Nat.mod_eq_of_lt (x.num_lt hn h0)]
    simp
theorem rd_short (x : Thg) (ls : List UInt8) (h : ls.length < x.form.length) : ∃ o, rd x ls = (o, 4, ls) := by
  unfold rd
  by_cases h0 : x.size = 0
  · have hf : x.form = x.b := by rw [Thg.form, if_pos h0]
    rw [hf] at h
    rw [if_pos h0, Wire.takeRead, if_neg (by omega), if_pos (by omega)]
    exact ⟨_, rfl⟩
  · have hf : x.form.length = x.size := by rw [Thg.form, if_neg h0, Wire.form_length]
    have h9 : x.size < 9 := Nat.mod_lt _ (by omega)
    rw [if_neg h0, Wire.numRead, if_neg (by omega), if_pos (by omega)]
    exact ⟨_, rfl⟩

set_option maxHeartbeats 1600000 in
theorem reads_calls (x : Thg) (v : Value) (ok : Nat → Prop) (g top : Nat) (A : Option Addr) (n c : Nat) (ls : List UInt8) (w : World) (hx : ThgV w ok x v) (hok : ∀ k, ok k → k ≠ g) (hr : Rdr w g top A n c ls) (htop : top ≤ w.heap.size) (hn : n ≤ 140737488351232) :
    Calls Try.prog 23 #[v, .pointer (some ⟨g, 0, none⟩)] w fun e w' => e = .returned (.tuple #[.bool (rd x ls).1, .int .i64 (rd x ls).2.1]) ∧ RdrX w' g top (rd x ls).2.2 ∧ w.grownBy w' (some g) := by
  obtain ⟨hs, hnn, Ax, nx, cx, rfl, hcx, hnx, rx⟩ := hx
  have LX := Lib.hid rx.len
  have h9 : x.size < 9 := Nat.mod_lt _ (by omega)
  go_enter Try.func23, Try.ntmps23
  go_wp2_with fail
  obtain ⟨H, hH⟩ : ∃ H, H = w.heap.size := ⟨_, rfl⟩
  have haX := (Below.refl w.heap.size w).alloc (Nat.le_refl _) (.cells #[.int .u8 (x.s : Int), .int .u64 (x.n : Int), .slice Ax nx cx] 56)
  have cX : (w.alloc (.cells #[.int .u8 (x.s : Int), .int .u64 (x.n : Int), .slice Ax nx cx] 56)).cell? ⟨H, 2, none⟩ = some (.slice Ax nx cx) := by rw [hH]; exact World.cell?_alloc_new _ _ _ 2
  have hRx := hr.below haX
  have rxx := rx.below haX
  have hgX := grownOfBelow haX (some g)
  have hsX : (w.alloc (.cells #[.int .u8 (x.s : Int), .int .u64 (x.n : Int), .slice Ax nx cx] 56)).heap.size = H + 1 := by rw [hH]; exact World.size_alloc _ _
  have hgH : g < H := by rw [hH]; exact hr.1
  refine (sized_calls x _ _ hs hnn).mono ?_
  rintro e w1 ⟨rfl, hb1⟩
  have cX1 := cellBelow hb1 cX
  have hR1 := hRx.below hb1
  have r1 := rxx.below hb1
  have hg1 := World.grownBy.trans hgX (grownOfBelow hb1 (some g))
  have z1 := hb1.size
  rw [hsX] at z1
  rw [← hH]
  rw [← hH] at htop
  have HH := Lib.hid hH
  clear haX cX hRx rxx hgX hsX hb1 hr rx hH
  by_cases h0 : x.size = 0
  · have hrd : rd x ls = (decide ((Wire.takeRead ls (x.b.length : Int)).1 = x.b), (Wire.takeRead ls (x.b.length : Int)).2.1, (Wire.takeRead ls (x.b.length : Int)).2.2) := by rw [rd, if_pos h0]
    rw [LX.out] at hrd
    have HRD := Lib.hid hrd
    have h0i : (x.size : Int) = 0 := by omega
    clear hrd h0
    go_wp2_with fail
    refine (take_calls g top A n c ls (nx : Int) w1 hR1 (by omega) hn).mono ?_
    unfold RetTake
    rintro e w2 ⟨v2, rfl, ho2, hR2, hg2⟩
    have cX2 : w2.cell? ⟨H, 2, none⟩ = some (.slice Ax nx cx) := (World.cell?_of_block (w := w1) (a := ⟨H, 2, none⟩) (hg2.block H (by omega) (fun e => by injection e with e; omega))).trans cX1
    have r2 := r1.grown hg2 (fun k hk e => by injection e with e; exact hok k hk e)
    obtain ⟨A2, k2, rfl, _, _, q2⟩ := ho2.rd
    have hg02 := World.grownBy.trans hg1 hg2
    clear cX1 r1 hg1 hg2 ho2 hR1
    generalize hts : (Wire.takeRead ls (nx : Int)).1 = ts at *
    generalize hLt : ts.length = Lt at *
    clear hLt
    go_wp2_with fail
    refine (equal_calls A2 Ax Lt k2 nx cx ts x.b w2 _ _ q2 r2).mono ?_
    rintro e w3 ⟨rfl, rfl⟩
    clear q2 r2 cX2
    generalize hd : decide (ts = x.b) = db at *
    go_wp2_with fail
    go_ret2
    refine ⟨?_, ?_, hg02⟩
    · rw [HRD.out]; rfl
    · rw [HRD.out]; exact hR2
  · have hrd : rd x ls = ((((Wire.numRead ls (x.size : Int)).1 : Int) == (x.num : Int)), (Wire.numRead ls (x.size : Int)).2.1, (Wire.numRead ls (x.size : Int)).2.2) := by rw [rd, if_neg h0]
    have HRD := Lib.hid hrd
    have h0i : ((x.size : Int) == 0) = false := by rw [beq_eq_false_iff_ne]; omega
    clear hrd h0 r1 cX1
    go_wp2_with fail
    refine (read_calls g top A n c ls (x.size : Int) w1 hR1 (by omega)).mono ?_
    unfold RetRead
    rintro e w2 ⟨rfl, hR2, hg2⟩
    have hg02 := World.grownBy.trans hg1 hg2
    clear hg1 hg2 hR1
    go_wp2_with fail
    go_ret2
    refine ⟨?_, ?_, hg02⟩
    · rw [HRD.out]; rfl
    · rw [HRD.out]; exact hR2

/-- The things of a slice that came in. -/
def RdT (w : World) (B : Nat) (A : Option Addr) (n : Nat) (l : List Thg) : Prop :=
  l.length = n ∧ (0 < n → ∃ b o, A = some ⟨b, o, none⟩ ∧ b < B ∧ ∀ i (hi : i < l.length), (l[i]).s < 256 ∧ (l[i]).n < 18446744073709551616 ∧
    w.cell? ⟨b, o + i * 3, none⟩ = some (.int .u8 ((l[i]).s : Int)) ∧ w.cell? ⟨b, o + i * 3 + 1, none⟩ = some (.int .u64 ((l[i]).n : Int)) ∧
    ∃ A' n' c', w.cell? ⟨b, o + i * 3 + 2, none⟩ = some (.slice A' n' c') ∧ n' ≤ c' ∧ n' ≤ 1048576 ∧ RdB w (fun k => k < B) A' n' (l[i]).b)
theorem RdT.below {w w' : World} {B : Nat} {A : Option Addr} {n : Nat} {l : List Thg} (h : RdT w B A n l) (hB : B ≤ w.heap.size) (hb : Below B w w') : RdT w' B A n l := by
  refine ⟨h.1, fun hn => ?_⟩
  obtain ⟨b, o, e, hlt, hc⟩ := h.2 hn
  have hblk : w'.heap[b]? = w.heap[b]? := hb.block b hlt
  refine ⟨b, o, e, hlt, fun i hi => ?_⟩
  obtain ⟨h1, h2, h3, h4, A', n', c', h5, h6, h7, h8⟩ := hc i hi
  exact ⟨h1, h2, (World.cell?_of_block (w := w) (a := ⟨b, o + i * 3, none⟩) hblk).trans h3, (World.cell?_of_block (w := w) (a := ⟨b, o + i * 3 + 1, none⟩) hblk).trans h4, A', n', c', (World.cell?_of_block (w := w) (a := ⟨b, o + i * 3 + 2, none⟩) hblk).trans h5, h6, h7, h8.keep hb.size fun k hk _ => hb.block k hk⟩

theorem RdT.take {w : World} {B : Nat} {A : Option Addr} {n m : Nat} {l : List Thg} (h : RdT w B A n l) (hm : m ≤ n) : RdT w B A m (l.take m) := by
  have hl := h.1
  refine ⟨by rw [List.length_take]; omega, fun hn => ?_⟩
  obtain ⟨b, o, e, hlt, hc⟩ := h.2 (by omega)
  refine ⟨b, o, e, hlt, fun i hi => ?_⟩
  have hi' : i < l.length := by rw [List.length_take] at hi; omega
  have := hc i hi'
  rw [List.getElem_take]
  exact this
theorem cutT_run (A : Option Addr) (n c hi : Nat) (h2 : hi ≤ n) (h3 : n ≤ c) :
    ∀ (kh : IntKind) (W : World), (Instr.slice 53 (.slice A n c) none (some (.int kh (hi : Int))) none).run Try.prog W = .ok (.slice A hi c) W := by
  intro kh W
  rw [run_slice_h W _ A n c (by kernel_rfl) kh hi (by omega) (by omega)]
  have hsz : (sizeOf (Try.prog.elem 53)).run Try.prog W = .ok 3 W := by rfl
  rw [hsz]
  have e : (if c = 0 then A else A.map fun a => a.add (0 * 3)) = A := by
    split
    · rfl
    · cases A with
      | none => rfl
      | some a => simp [addZero]
  simp only [Result.andThen_ok, sliced, Int.toNat_natCast, Nat.sub_zero, e]
theorem forms_take_succ (l : List Thg) (i : Nat) (h : i < l.length) : forms (l.take (i + 1)) = forms (l.take i) ++ (l[i]).form := by
  rw [List.take_add_one, List.getElem?_eq_getElem h, Option.toList_some, forms_append]
  simp [forms]
theorem forms_drop_succ (l : List Thg) (i : Nat) (h : i < l.length) : forms (l.drop i) = (l[i]).form ++ forms (l.drop (i + 1)) := by
  rw [List.drop_eq_getElem_cons h]
  rfl

theorem form_len (x : Thg) (h : x.b.length ≤ 1048576) : x.form.length ≤ 1048584 := by
  have h9 : x.size < 9 := Nat.mod_lt _ (by omega)
  unfold Thg.form
  split
  · omega
  · rw [Wire.form_length]; omega
theorem forms_len (l : List Thg) (h : ∀ x ∈ l, x.b.length ≤ 1048576) : (forms l).length ≤ l.length * 1048584 := by
  induction l with
  | nil => simp [forms]
  | cons x l ih =>
    have h1 := form_len x (h x (by simp))
    have h2 := ih fun y hy => h y (by simp [hy])
    simp only [forms, List.length_append, List.length_cons]
    omega
theorem RdT.short {w : World} {B : Nat} {A : Option Addr} {n : Nat} {l : List Thg} (h : RdT w B A n l) : ∀ x ∈ l, x.b.length ≤ 1048576 := by
  intro x hx
  obtain ⟨i, hi, rfl⟩ := List.getElem_of_mem hx
  obtain ⟨b, o, e, hlt, hc⟩ := h.2 (by have := h.1; omega)
  obtain ⟨_, _, _, _, A', n', c', _, _, h6, h7⟩ := hc i hi
  rw [h7.len]
  exact h6
theorem num_form (xs : List UInt8) (x : Thg) (hn : x.n < 18446744073709551616) (h0 : x.size ≠ 0) : Wire.numOf xs x.num (x.size : Int) = (xs ++ x.form, 0) := by
  have h9 : x.size < 9 := Nat.mod_lt _ (by omega)
  have := x.num_lt hn h0
  rw [Wire.numOf, if_neg (by omega), if_neg (by simpa using this), Thg.form, if_neg h0]
  rfl

set_option maxHeartbeats 6400000 in
theorem wireBack_walk (w : World) (L : Option Addr) (n0 cl : Nat) (l0 : List Thg) (m : Nat) (hl : RdT w w.heap.size L n0 l0) (hcl : n0 ≤ cl) (hn0 : n0 ≤ 1048576) (hm : m < 65536) :
    Calls Try.prog 7 #[.slice L n0 cl, .int .u16 (m : Int)] w fun e w' => e = .returned (.bool true) ∧ Below w.heap.size w w' := by
  obtain ⟨n, hn⟩ : ∃ n, n = min n0 60 := ⟨_, rfl⟩
  have hmin : ∀ W : World, (Builtin.min_ #[3, 3] 3 #[.int .i64 (n0 : Int), .int .i64 60]).run Try.prog W = .ok (.int .i64 (n : Int)) W := min2_run n0 60 n hn
  have hnn : n ≤ n0 := by omega
  have hn60 : n ≤ 60 := by omega
  have hcut := cutT_run L n0 cl n hnn hcl
  have HT := hl.take hnn
  obtain ⟨l, hll⟩ : ∃ l, l = l0.take n := ⟨_, rfl⟩
  rw [← hll] at HT
  have LL := Lib.hid HT.1
  have hsh := HT.short
  have hlk : ∀ k, k ≤ n → (forms (l.take k)).length ≤ 62915040 := fun k hk => by
    have h1 := forms_len (l.take k) (fun x hx => hsh x (List.mem_of_mem_take hx))
    have h2 : (l.take k).length ≤ 60 := by rw [List.length_take]; omega
    omega
  have hll0 : l.length = n := HT.1
  clear hn hll hl hsh hll0
  go_enter Try.func7, Try.ntmps7
  go_wp2_with fail
  go_loopw [5, 30] (fun v i wr => ∃ k : Nat, k ≤ n ∧ i = .int .i64 k ∧ OwnB wr w.heap.size v (forms (l.take k)) ∧ Below w.heap.size w wr) (fun _ i _ => n - (intOf i).toNat)
  case atStart => exact ⟨0, Nat.zero_le _, rfl, OwnB.nil _ _, Below.refl _ _⟩
  case round =>
    obtain ⟨k, hk, rfl, ho, hb⟩ := hrel
    have hlen := hlk k hk
    by_cases hlt : k < n
    · obtain ⟨bl, ol, eL, hbl, hcells⟩ := (HT.below (Nat.le_refl _) hb).2 (by omega)
      subst eL
      have hkl : k < l.length := by rw [LL.out]; exact hlt
      obtain ⟨hs, hnn2, q0, q1, A', n', c', q2, hc', hn', hB⟩ := hcells k hkl
      have HS := Lib.hid (forms_take_succ l k hkl)
      obtain ⟨x, hx⟩ : ∃ x, x = l[k] := ⟨_, rfl⟩
      rw [← hx] at hs hnn2 q0 q1 hB HS
      obtain ⟨Av, cv, rfl, hcv, _, hrv⟩ := ho.rd
      generalize forms (l.take k) = xs at *
      obtain ⟨Lv, hLv⟩ : ∃ Lv, xs.length = Lv := ⟨_, rfl⟩
      have HLv := Lib.hid hLv
      rw [hLv] at ho hrv hcv hlen ⊢
      clear hcells hx hkl hLv
      go_wp2_with fail
      have haX := (Below.refl wr.heap.size wr).alloc (Nat.le_refl _) (.cells #[.int .u8 (x.s : Int), .int .u64 (x.n : Int), .slice A' n' c'] 56)
      have cX : (wr.alloc (.cells #[.int .u8 (x.s : Int), .int .u64 (x.n : Int), .slice A' n' c'] 56)).cell? ⟨wr.heap.size, 2, none⟩ = some (.slice A' n' c') := World.cell?_alloc_new _ _ _ 2
      refine (sized_calls x _ _ hs hnn2).mono ?_
      rintro e w1 ⟨rfl, hb1⟩
      have cX1 := cellBelow hb1 cX
      have ho1 := (ho.below haX).below hb1
      have hrv1 := (hrv.below haX).below hb1
      have hbX := belowThen hb hb.size haX
      have hb01 := belowThen hbX hbX.size hb1
      have hw1 : wr.heap.size ≤ w1.heap.size := Nat.le_trans haX.size hb1.size
      have hB1 : RdB w1 (fun k => k < w.heap.size) A' n' x.b := (hB.keep (w' := wr) (Nat.le_refl _) (fun _ _ _ => rfl)).below haX |>.below hb1
      clear haX cX ho hrv hbX hb1 hB q0 q1 q2
      by_cases h0 : x.size = 0
      · have h0i : (x.size : Int) = 0 := by omega
        have hxf : x.form = x.b := by rw [Thg.form, if_pos h0]
        rw [hxf] at HS
        have HXF := Lib.hid hxf
        have hbs := hb01.size
        have ho1' : OwnB w1 w.heap.size (.slice Av Lv cv) xs := ho1
        have hln : xs.length + n' ≤ 140737488355328 := by rw [HLv.out]; omega
        clear hxf h0 ho1 hrv1
        go_wp2_with (at_builtin; go_loud (refine appB w.heap.size w.heap.size rfl _ _ rfl (.slice Av Lv cv) xs x.b A' n' c' rfl rfl ho1' hB1 hb01 hbs (Nat.le_refl _) hln ?_); intro v2 w2 ho2 hb2 _ _)
        go_roundw
        case rel => exact ⟨k + 1, by omega, by go_num, by rw [HS.out]; exact ho2, hb2⟩
        case measure => simp [intOf]; omega
      · have h0i : ((x.size : Int) == 0) = false := by rw [beq_eq_false_iff_ne]; omega
        have hnumf := num_form xs x hnn2 h0
        have h9 : x.size < 9 := Nat.mod_lt _ (by omega)
        have hnl : x.num < 18446744073709551616 := by
          have h1 := x.num_lt hnn2 h0
          have h2 : 256 ^ x.size ≤ 256 ^ 8 := Nat.pow_le_pow_right (by omega) (by omega)
          have h3 : 256 ^ 8 = 18446744073709551616 := rfl
          omega
        have hfl : x.form.length = x.size := by rw [Thg.form, if_neg h0, Wire.form_length]
        clear h0 hB1 cX1
        go_wp2_with fail
        refine (wnum_any Av Lv cv x.num (x.size : Int) xs w1 _ hrv1 (by omega) hnl).mono ?_
        unfold RetNum
        rw [hnumf]
        rintro e w2 ⟨v2, rfl, ho2, hb2⟩
        obtain ⟨A2, c2, rfl, _, _, _⟩ := ho2.rd
        have hl2 : (xs ++ x.form).length = Lv + x.size := by rw [List.length_append, HLv.out, hfl]
        have ho2' := ho2.lower hb01.size
        have hb02 := belowThen hb01 hb01.size hb2
        rw [hl2] at ho2' ⊢
        have HN := Lib.hid hl2
        have hcast : ((Lv + x.size : Nat) : Int) = (Lv : Int) + (x.size : Int) := by omega
        clear hl2 ho2 hnumf hfl hrv1 ho1
        generalize x.size = sz at *
        go_wp2_with fail
        go_roundw
        case rel => exact ⟨k + 1, by omega, by go_num, by rw [HS.out]; exact ho2', hb02⟩
        case measure => simp [intOf]; omega
    · obtain rfl : n = k := by omega
      have htk : l.take n = l := List.take_of_length_le (by rw [LL.out]; omega)
      rw [htk] at ho hlen
      obtain ⟨Av, cv, rfl, hcv, _, hrv⟩ := ho.rd
      obtain ⟨fs, hfs⟩ : ∃ fs, fs = forms l := ⟨_, rfl⟩
      rw [← hfs] at ho hrv hcv hlen ⊢
      have HFS := Lib.hid hfs
      obtain ⟨Lv, hLv⟩ : ∃ Lv, fs.length = Lv := ⟨_, rfl⟩
      have HLv := Lib.hid hLv
      rw [hLv] at ho hrv hcv hlen ⊢
      clear hfs hLv hlk htk
      have hrv' : RdB wr (fun k => k < wr.heap.size) Av Lv fs := hrv.mono fun k _ hl => hl
      clear hrv ho
      go_wp2_with fail
      refine (new_calls Av Lv cv fs wr _ hrv' (by omega)).mono ?_
      rintro e w1 ⟨g, rfl, hg0, ⟨Ar, nr, cr, hR1⟩, hb1⟩
      have hb01 := belowThen hb hb.size hb1
      have hrv1 := hrv'.below hb1
      have hbsz := hb.size
      clear hrv' hb
      go_wp2_with fail
      have hrg : RdB w1 (fun q => q < g) Av Lv fs := hrv1.mono fun q hq _ => by omega
      have hgw : w.heap.size ≤ g := by omega
      have hfd : forms (l.drop 0) = fs := by rw [HFS.out]; rfl
      obtain ⟨wq, hwq⟩ : ∃ wq : World, wq = wr := ⟨_, rfl⟩
      clear hrv1 hb1 hg0 hbsz hwq
      go_loopw [69] (fun i wr => ∃ k : Nat, k ≤ n ∧ i = .int .i64 k ∧ RdrX wr g g (forms (l.drop k)) ∧ RdB wr (fun q => q < g) Av Lv fs ∧ Below w.heap.size w wr) (fun i _ => n - (intOf i).toNat)
      case atStart => exact ⟨0, Nat.zero_le _, rfl, by rw [hfd]; exact ⟨_, _, _, hR1⟩, hrg, hb01⟩
      case round =>
        obtain ⟨k, hk, rfl, ⟨Ar, nr, cr, hR⟩, hrv, hb⟩ := hrel
        clear hR1 hrg hb01 hfd
        have hll0 : l.length = n := LL.out
        have hrl : (forms (l.drop k)).length ≤ 62915040 := by
          have e : forms l = forms (l.take k) ++ forms (l.drop k) := by rw [← forms_append, List.take_append_drop]
          have h1 := congrArg List.length e
          rw [← HFS.out, HLv.out, List.length_append] at h1
          omega
        have hnr := hR.2.2.2.2.2.len
        rw [hnr] at hrl
        by_cases hlt : k < n
        · obtain ⟨bl, ol, eL, hbl, hcells⟩ := (HT.below (Nat.le_refl _) hb).2 (by omega)
          subst eL
          have hkl : k < l.length := by rw [LL.out]; exact hlt
          obtain ⟨hs, hnn2, q0, q1, A', n', c', q2, hc', hn', hB⟩ := hcells k hkl
          have hds := forms_drop_succ l k hkl
          obtain ⟨x, hx⟩ : ∃ x, x = l[k] := ⟨_, rfl⟩
          rw [← hx] at hs hnn2 q0 q1 hB hds
          have hrd := rd_whole x hnn2 (forms (l.drop (k + 1)))
          rw [← hds] at hrd
          have haX := (Below.refl wr.heap.size wr).alloc (Nat.le_refl _) (.cells #[.int .u8 (x.s : Int), .int .u64 (x.n : Int), .slice A' n' c'] 56)
          have hRX := hR.below haX
          have hrvX := hrv.below haX
          have hbX := hb.alloc hb.size (.cells #[.int .u8 (x.s : Int), .int .u64 (x.n : Int), .slice A' n' c'] 56)
          have hThg : ThgV (wr.alloc (.cells #[.int .u8 (x.s : Int), .int .u64 (x.n : Int), .slice A' n' c'] 56)) (fun q => q < w.heap.size) x (.agg #[.int .u8 (x.s : Int), .int .u64 (x.n : Int), .slice A' n' c']) := ⟨hs, hnn2, A', n', c', rfl, hc', hn', hB.below haX⟩
          clear hcells hx hkl hds hR hrv haX hB hb hll0
          go_wp2_with fail
          refine (reads_calls x _ (fun q => q < w.heap.size) g g Ar nr cr _ _ hThg (fun q hq => by omega) hRX (Nat.le_of_lt hRX.1) (by omega)).mono ?_
          rw [hrd]
          rintro e w2 ⟨rfl, hR2, hg2⟩
          have hb2 := hbX.grown hg2 hbX.size (fun q hq => by injection hq with hq; omega)
          have hrv2 := hrvX.grown hg2 (fun q hq e => by injection e with e; omega)
          clear hRX hrvX hbX hThg hg2 hrd
          go_wp2_with fail
          go_roundw
          case rel => exact ⟨k + 1, by omega, by go_num, hR2, hrv2, hb2⟩
          case measure => simp [intOf]; omega
        · obtain rfl : n = k := by omega
          have hnil : forms (l.drop n) = [] := by rw [List.drop_eq_nil_of_le (by omega)]; rfl
          rw [hnil] at hR
          clear hnil hll0 hnr hrl
          go_wp2_with fail
          refine (end_calls g _ _ _ _ _ _ hR).mono ?_
          rintro e w2 ⟨rfl, rfl⟩
          have he0 : endOf [] = 0 := rfl
          rw [he0]
          by_cases hL0 : Lv = 0
          · subst hL0
            clear hR hrv
            go_wp2_with fail
            refine (awake_calls wr).mono ?_
            rintro e w3 ⟨rfl, hb3⟩
            go_wp2
            go_ret
            exact ⟨rfl, belowThen hb hb.size hb3⟩
          · have hLi : ((Lv : Int) == 0) = false := by rw [beq_eq_false_iff_ne]; omega
            obtain ⟨ct, hct⟩ : ∃ ct, ct = m % Lv := ⟨_, rfl⟩
            have hctl : ct < Lv := by rw [hct]; exact Nat.mod_lt _ (by omega)
            have hc1 : (m : Int) % (Lv : Int) = (ct : Int) := by rw [hct]; simp
            have hc2 : ((m : Int)).tmod (Lv : Int) = (ct : Int) := by rw [Int.tmod_eq_emod_of_nonneg (by omega)]; exact hc1
            have hLz : ¬ (Lv : Int) = 0 := by omega
            obtain ⟨A9, k9, r9⟩ := cutTo_run Av Lv cv ct (by omega) hcv
            have h9 := r9 wr _ _ hrv
            clear hct r9 hR hrv hL0
            go_wp2_with fail
            refine (new_calls A9 ct cv (fs.take ct) wr _ h9 (by omega)).mono ?_
            rintro e w3 ⟨g2, rfl, hg20, ⟨Ar3, nr3, cr3, hR3⟩, hb3⟩
            have hb03 := belowThen hb hb.size hb3
            have hgw2 : w.heap.size ≤ g2 := by have := hb.size; omega
            have hst : fs.take ct = (forms (l.drop 0)).take ct := by rw [HFS.out]; rfl
            have hst2 : ct < (forms (l.drop 0)).length := by
              have e : forms (l.drop 0) = fs := by rw [HFS.out]; rfl
              rw [e, HLv.out]; exact hctl
            rw [hst] at hR3
            clear h9 hb hb3 hst k9 hc1 hc2
            go_wp2_with fail
            go_loopw [103] (fun i wr => ∃ k r : Nat, k ≤ n ∧ i = .int .i64 k ∧ r < (forms (l.drop k)).length ∧ RdrX wr g2 g2 ((forms (l.drop k)).take r) ∧ Below w.heap.size w wr) (fun i _ => n - (intOf i).toNat)
            case atStart => exact ⟨0, ct, Nat.zero_le _, rfl, hst2, ⟨_, _, _, hR3⟩, hb03⟩
            case round =>
              obtain ⟨k, r, hk, rfl, hrl, ⟨Ar, nr, cr, hR⟩, hb⟩ := hrel
              clear hR3 hst2 hb03
              have hll0 : l.length = n := LL.out
              by_cases hlt : k < n
              · obtain ⟨bl, ol, eL, hbl, hcells⟩ := (HT.below (Nat.le_refl _) hb).2 (by omega)
                subst eL
                have hkl : k < l.length := by rw [LL.out]; exact hlt
                have hfl : (forms (l.drop k)).length ≤ 62915040 := by
                  have e : forms l = forms (l.take k) ++ forms (l.drop k) := by rw [← forms_append, List.take_append_drop]
                  have h1 := congrArg List.length e
                  rw [← HFS.out, HLv.out, List.length_append] at h1
                  omega
                obtain ⟨hs, hnn2, q0, q1, A', n', c', q2, hc', hn', hB⟩ := hcells k hkl
                have hds := forms_drop_succ l k hkl
                obtain ⟨x, hx⟩ : ∃ x, x = l[k] := ⟨_, rfl⟩
                rw [← hx] at hs hnn2 q0 q1 hB hds
                have hnr : nr = r := by
                  have := hR.2.2.2.2.2.len
                  rw [List.length_take] at this
                  omega
                have haX := (Below.refl wr.heap.size wr).alloc (Nat.le_refl _) (.cells #[.int .u8 (x.s : Int), .int .u64 (x.n : Int), .slice A' n' c'] 56)
                have hRX := hR.below haX
                have hbX := hb.alloc hb.size (.cells #[.int .u8 (x.s : Int), .int .u64 (x.n : Int), .slice A' n' c'] 56)
                have hThg : ThgV (wr.alloc (.cells #[.int .u8 (x.s : Int), .int .u64 (x.n : Int), .slice A' n' c'] 56)) (fun q => q < w.heap.size) x (.agg #[.int .u8 (x.s : Int), .int .u64 (x.n : Int), .slice A' n' c']) := ⟨hs, hnn2, A', n', c', rfl, hc', hn', hB.below haX⟩
                have HDS := Lib.hid hds
                have hls : ((forms (l.drop k)).take r).length = r := by rw [List.length_take]; omega
                have HLS := Lib.hid hls
                clear hcells hx hkl hds hR haX hB hb hll0 hls
                obtain ⟨ls, hlse⟩ : ∃ ls, ls = (forms (l.drop k)).take r := ⟨_, rfl⟩
                rw [← hlse] at hRX HLS
                have HLE := Lib.hid hlse
                clear hlse
                go_wp2_with fail
                refine (left_calls g2 _ _ _ _ _ _ hRX).mono ?_
                rintro e wz ⟨rfl, rfl⟩
                rw [HLS.out]
                go_wp2_with fail
                refine (reads_calls x _ (fun q => q < w.heap.size) g2 g2 Ar nr cr _ _ hThg (fun q hq => by omega) hRX (Nat.le_of_lt hRX.1) (by omega)).mono ?_
                by_cases hfit : x.form.length ≤ r
                · have hls2 : ls = x.form ++ (forms (l.drop (k + 1))).take (r - x.form.length) := by
                    rw [HLE.out, HDS.out, List.take_append, List.take_of_length_le hfit]
                  have hrd := rd_whole x hnn2 ((forms (l.drop (k + 1))).take (r - x.form.length))
                  rw [← hls2] at hrd
                  have hr2 : r - x.form.length < (forms (l.drop (k + 1))).length := by
                    have h1 := congrArg List.length HDS.out
                    rw [List.length_append] at h1
                    omega
                  rw [hrd]
                  rintro e w4 ⟨rfl, hR4, hg4⟩
                  have hb4 := hbX.grown hg4 hbX.size (fun q hq => by injection hq with hq; omega)
                  clear hRX hbX hThg hg4 hrd hls2 hfit
                  go_wp2_with fail
                  go_roundw
                  case rel => exact ⟨k + 1, _, by omega, by go_num, hr2, hR4, hb4⟩
                  case measure => simp [intOf]; omega
                · obtain ⟨o, hrd⟩ := rd_short x ls (by rw [HLS.out]; omega)
                  rw [hrd]
                  rintro e w4 ⟨rfl, ⟨Ar4, nr4, cr4, hR4⟩, hg4⟩
                  have hb4 := hbX.grown hg4 hbX.size (fun q hq => by injection hq with hq; omega)
                  clear hRX hbX hThg hg4 hrd hfit
                  go_wp2_with fail
                  refine (awake_calls w4).mono ?_
                  rintro e w5 ⟨rfl, hb5⟩
                  have hR5 := hR4.below hb5
                  go_wp2_with fail
                  refine (left_calls g2 _ _ _ _ _ _ hR5).mono ?_
                  rintro e wz ⟨rfl, rfl⟩
                  rw [HLS.out]
                  go_wp2
                  go_ret
                  exact ⟨rfl, belowThen hb4 hb4.size hb5⟩
              · obtain rfl : n = k := by omega
                have hnil : forms (l.drop n) = [] := by rw [List.drop_eq_nil_of_le (by omega)]; rfl
                rw [hnil] at hrl
                exact absurd hrl (by simp)
end Go.Proofs.Ytljbghgpojdikaa
