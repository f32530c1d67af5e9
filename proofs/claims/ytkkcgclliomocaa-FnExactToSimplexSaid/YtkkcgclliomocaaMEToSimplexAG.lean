/-
  FnExactToSimplex: texts joined: ScaleM, SimM, SortM, PredL.
-/
import Derived.Sort.LotA
import Derived.Sort.WalkA
import Derived.Test.YtkkcgclliomocaaMEToSimplexAB
import Derived.Test.YtkkcgclliomocaaMEToSimplexAC
import Derived.Test.YtkkcgclliomocaaMEToSimplexAF
namespace Go.Proofs.Ytkkcgclliomocaa
open Go.RowKit

def gtF (a b : Nat) : Bool := Ieee.single.order a b == some .gt
def mxF (most a : Nat) : Nat := if gtF a most = true then a else most
def mostK (xs : List Nat) : Nat → Nat
  | 0 => 0
  | k + 1 => mxF (mostK xs k) (abs32 (xs.getD k 0))
def divV (x m : Nat) : Nat := (Ieee.single.div x m).getD 0

theorem datum_swap (a b : Ieee.Datum) : a.order b = (b.order a).map Ordering.swap := by
  cases a <;> cases b <;> simp only [Ieee.Datum.order, Option.map_none, Option.map_some]
  · rename_i s m i t n j
    rw [Int.min_comm, ← Std.OrientedCmp.eq_swap]
  · rename_i s _ _ t; cases t <;> rfl
  · rename_i s t _ _; cases s <;> rfl
  · rw [← Std.OrientedCmp.eq_swap]
theorem order_swap (a b : Nat) : Ieee.single.order a b = (Ieee.single.order b a).map Ordering.swap := datum_swap _ _
theorem order_fin {a b : Nat} (ha : fin32 a = true) (hb : fin32 b = true) : ∃ o, Ieee.single.order a b = some o := by
  obtain ⟨s, m, e, h, _⟩ := read32_parts ha
  obtain ⟨s', m', e', h', _⟩ := read32_parts hb
  unfold Ieee.Format.order
  rw [h, h']
  exact ⟨_, rfl⟩
theorem gt_lt {a b : Nat} (h : gtF a b = true) : FloatKind.f32.format.order b a = some .lt := by
  show Ieee.single.order b a = _
  unfold gtF at h
  simp only [beq_iff_eq] at h
  rw [order_swap, h]; rfl
theorem gt_gt {a b : Nat} (h : gtF a b = true) : FloatKind.f32.format.order a b = some .gt := by
  show Ieee.single.order a b = _
  unfold gtF at h
  simpa using h
theorem not_gt {a b : Nat} (ha : fin32 a = true) (hb : fin32 b = true) (h : gtF a b = false) : FloatKind.f32.format.order b a = some .gt ∨ FloatKind.f32.format.order b a = some .eq := by
  show Ieee.single.order b a = _ ∨ Ieee.single.order b a = _
  obtain ⟨o, ho⟩ := order_fin hb ha
  rw [ho]
  cases o
  · rw [order_swap] at ho
    unfold gtF at h
    cases hx : Ieee.single.order a b with
    | none => rw [hx] at ho; simp at ho
    | some q => rw [hx] at ho h; cases q <;> simp_all
  · exact .inr rfl
  · exact .inl rfl
theorem not_gt_b {a b : Nat} (h : gtF a b = false) : (FloatKind.f32.format.order a b == some .gt) = false := h
theorem yes_gt_b {a b : Nat} (h : gtF a b = true) : (FloatKind.f32.format.order a b == some .gt) = true := h
theorem abs_lt (x : Nat) : abs32 x < 2147483648 := by unfold abs32; omega
theorem pos_neg {x : Nat} (h : x < 2147483648) (hf : fin32 x = true) : (FloatKind.f32.decode x).neg = false := by
  show (Ieee.single.read x).neg = false
  obtain ⟨s, m, e, h0, h1, _⟩ := read32_parts hf
  rw [h0]
  show s = false
  rw [h1, show x / 2147483648 % 2 = 0 by omega]
  rfl
theorem fin0 : fin32 0 = true := by decide +kernel
theorem mxF_fin {m a : Nat} (hm : fin32 m = true) (ha : fin32 a = true) : fin32 (mxF m a) = true := by unfold mxF; split <;> assumption
theorem mxF_lt {m a : Nat} (hm : m < 2147483648) (ha : a < 2147483648) : mxF m a < 2147483648 := by unfold mxF; split <;> assumption
theorem mostK_ok {xs : List Nat} (h : allFin xs = true) : ∀ k, k ≤ xs.length → fin32 (mostK xs k) = true ∧ mostK xs k < 2147483648
  | 0, _ => ⟨fin0, by simp [mostK]⟩
  | k + 1, hk => by
    obtain ⟨h1, h2⟩ := mostK_ok h k (by omega)
    exact ⟨mxF_fin h1 (abs_fin (allFin_get h (by omega))), mxF_lt h2 (abs_lt _)⟩
theorem div_some {x m : Nat} (hx : fin32 x = true) (hm : fin32 m = true) (hp : gtF m 0 = true) : Ieee.single.div x m = some (divV x m) := by
  obtain ⟨s, a, e, h, _⟩ := read32_parts hx
  obtain ⟨s', a', e', h', _⟩ := read32_parts hm
  have hn : a' ≠ 0 := by
    intro e0
    subst e0
    unfold gtF Ieee.Format.order at hp
    rw [h', show Ieee.single.read 0 = .number false 0 (-149) by decide +kernel] at hp
    simp [Ieee.Datum.order, Ieee.signed] at hp
  unfold divV Ieee.Format.div
  rw [h, h']
  simp only [Ieee.Datum.quotient, if_neg hn, Option.map_some, Option.getD_some]
theorem run_div_some {P : Program} (t : TypeId) {x y : Nat} (h : Ieee.single.div x y = some (divV x y)) (w : World) :
    (binOp .quo t (.float .f32 x) (.float .f32 y)).run P w = .ok (.float .f32 (divV x y)) w := run_float_arith w .quo t .f32 x y _ h

/-! ### Taken from 0 -/
theorem size_leq {x : Nat} (hx : fin32 x = true) (hb : x < 4294967296) : (gtF x 0 = true ∧ abs32 x = x) ∨ (gtF x 0 = false ∧ Ieee.single.sub 0 x = some (abs32 x)) := by
  obtain ⟨s, m, e, h0, h1, h2, h3, h4, h5, h6, h7⟩ := read32_parts hx
  have hz : Ieee.single.read 0 = .number false 0 (-149) := by decide +kernel
  have hgt : gtF x 0 = (!s && decide (m ≠ 0)) := by
    unfold gtF Ieee.Format.order
    rw [h0, hz]
    simp only [Ieee.Datum.order, Ieee.signed]
    have hmn : min e (-149) = -149 := by omega
    rw [hmn]
    by_cases hm : m = 0
    · subst hm; cases s <;> simp
    · have hp : 0 < m <<< (e - -149).toNat := by rw [Nat.shiftLeft_eq]; exact Nat.mul_pos (by omega) (Nat.two_pow_pos _)
      generalize m <<< (e - -149).toNat = K at hp
      cases s
      · have : compare (K : Int) 0 = .gt := by rw [Int.compare_eq_gt]; omega
        simp [hm, this]
      · have : compare (-(K : Int)) 0 = .lt := by rw [Int.compare_eq_lt]; omega
        simp [this]
  by_cases hg : gtF x 0 = true
  · refine .inl ⟨hg, ?_⟩
    rw [hgt] at hg
    simp only [Bool.and_eq_true, Bool.not_eq_true'] at hg
    rw [h1] at hg
    have : x / 2147483648 % 2 ≠ 1 := by have := hg.1; simpa using this
    unfold abs32
    omega
  · rw [Bool.not_eq_true] at hg
    refine .inr ⟨hg, ?_⟩
    rw [hgt] at hg
    unfold Ieee.Format.sub
    rw [h0, hz]
    simp only [Ieee.Datum.opposite, Ieee.Datum.sum, Option.map_some, Option.some.injEq]
    have hmn : min (-149) e = -149 := by omega
    rw [hmn]
    show Ieee.single.nearest _ _ _ = _
    by_cases hm : m = 0
    · subst hm
      have h8 := h7 (by omega)
      subst h8
      have : abs32 x = 0 := by omega
      rw [this]
      cases s <;> decide +kernel
    · have hs : s = true := by cases s <;> simp_all
      subst hs
      have hp : 0 < m <<< (e - -149).toNat := by rw [Nat.shiftLeft_eq]; exact Nat.mul_pos (by omega) (Nat.two_pow_pos _)
      have hb2 := nearest_back hx h0 false (e - -149).toNat (-149) (by omega)
      have hsum : Ieee.signed false 0 (-149 - -149 : Int).toNat + Ieee.signed (!true) m (e - -149).toNat = ((m <<< (e - -149).toNat : Nat) : Int) := by simp [Ieee.signed]
      rw [hsum]
      obtain ⟨K, hK⟩ : ∃ K, K = m <<< (e - -149).toNat := ⟨_, rfl⟩
      rw [← hK] at hp hb2 ⊢
      have hd : (if (K : Int) = 0 then false && !true else decide ((K : Int) < 0)) = false := by
        have h0 : ¬ (K : Int) = 0 := by omega
        rw [if_neg h0]; simp
      rw [hd, Int.natAbs_natCast, hb2]
      rfl

theorem leq_of {x : Nat} (hx : fin32 x = true) (h : gtF x 0 = false) : (FloatKind.f32.format.order x 0 == some .lt || FloatKind.f32.format.order x 0 == some .eq) = true := by
  show (Ieee.single.order x 0 == some .lt || Ieee.single.order x 0 == some .eq) = true
  obtain ⟨o, ho⟩ := order_fin hx fin0
  unfold gtF at h
  rw [ho] at h ⊢
  cases o <;> simp_all
theorem nleq_of {x : Nat} (h : gtF x 0 = true) : (FloatKind.f32.format.order x 0 == some .lt || FloatKind.f32.format.order x 0 == some .eq) = false := by
  rw [gt_gt h]; rfl

theorem l02Size_any (x : Nat) (hx : fin32 x = true) (hb : x < 4294967296) (w : World) : Calls Try.prog 74 #[.float .f32 x] w fun e w' => e = .returned (.float .f32 (abs32 x)) ∧ w' = w := by
  rcases size_leq hx hb with ⟨h1, h2⟩ | ⟨h1, h2⟩
  · have h3 := nleq_of h1
    rw [h2]
    clear h1 h2 hx
    go_enter Try.func74, Try.ntmps74
    go_wp2_with fail
    go_ret
    exact ⟨rfl, rfl⟩
  · have h3 := leq_of hx h1
    have hs := fun (W : World) => run_sub_some (P := Try.prog) 98 0 x _ h2 W
    clear h1 h2 hx
    go_enter Try.func74, Try.ntmps74
    go_wp2_with fail
    go_ret
    exact ⟨rfl, rfl⟩

/-! ### The row, as a slice -/
set_option maxHeartbeats 2000000 in
theorem row_at (V i n c b off : Nat) (v2 v3 : Value) (w : World) (hv1 : 1 ≤ V) (hv8 : V ≤ 8) (hi8 : i < 8) (hmm : i * V + V ≤ n) (hx64 : n ≤ 64) (hc1a : n ≤ c) (hc1b : c ≤ maxLen) :
    Calls Try.prog 78 #[.agg #[.int .i64 V, .slice (some ⟨b, off, none⟩) n c, v2, v3], .int .i64 i] w fun e w' => e = .returned (.slice (some ⟨b, off + i * V, none⟩) V (c - i * V)) ∧ Below w.heap.size w w' := by
  obtain ⟨m, hm⟩ : ∃ m, m = i * V := ⟨_, rfl⟩
  have e1 : (i : Int) * (V : Int) = (m : Int) := by rw [hm]; push_cast; rfl
  have e2 : ((i : Int) + 1) * (V : Int) = (m : Int) + (V : Int) := by rw [Int.add_mul, e1, Int.one_mul]
  rw [← hm] at hmm ⊢
  unfold maxLen at hc1b
  clear hm
  go_enter Try.func78, Try.ntmps78
  go_wp2_with fail
  go_ret
  refine ⟨?_, by (repeat' first | exact Below.refl _ _ | assumption | refine Below.alloc ?_ ?_ _ | refine Below.setCell ?_ ?_ _ | refine Below.drew ?_ | (simp; done) | (simp; omega))⟩
  simp
  done

set_option maxHeartbeats 2000000 in
theorem specRow_at (V i n c b off bb : Nat) (v2 v3 : Value) (w : World) (hk : Blk w bb 50 #[.int .i64 V, .slice (some ⟨b, off, none⟩) n c, v2, v3]) (hv1 : 1 ≤ V) (hv8 : V ≤ 8) (hi8 : i < 8) (hmm : i * V + V ≤ n) (hx64 : n ≤ 64) (hc1a : n ≤ c) (hc1b : c ≤ maxLen) :
    Calls Try.prog 73 #[.pointer (some ⟨bb, 0, none⟩), .int .i64 i] w fun e w' => e = .returned (.slice (some ⟨b, off + i * V, none⟩) V (c - i * V)) ∧ ∃ m, w' = w.drewN m := by
  obtain ⟨m, hm⟩ : ∃ m, m = i * V := ⟨_, rfl⟩
  have e1 : (i : Int) * (V : Int) = (m : Int) := by rw [hm]; push_cast; rfl
  have e2 : ((i : Int) + 1) * (V : Int) = (m : Int) + (V : Int) := by rw [Int.add_mul, e1, Int.one_mul]
  rw [← hm] at hmm ⊢
  unfold maxLen at hc1b
  clear hm
  have d0 : w.cell? ⟨bb, 0, none⟩ = some (.int .i64 V) := hk.cell 0 rfl
  have d1 : w.cell? ⟨bb, 1, none⟩ = some (.slice (some ⟨b, off, none⟩) n c) := hk.cell 1 rfl
  have w1 : IntKind.i64.wrap ((i : Int) * (V : Int)) = (m : Int) := by rw [e1]; exact IntWalk.i64_in _ (by omega)
  have w2 : IntKind.i64.wrap (((i : Int) + 1) * (V : Int)) = (m : Int) + (V : Int) := by rw [e2]; exact IntWalk.i64_in _ (by omega)
  have w3 : IntKind.i64.wrap ((i : Int) + 1) = (i : Int) + 1 := IntWalk.i64_in _ (by omega)
  have g1 : (0 : Int) ≤ (m : Int) := by omega
  have g2 : (m : Int) ≤ (m : Int) + (V : Int) := by omega
  have g3 : (m : Int) + (V : Int) ≤ (c : Int) := by omega
  have g4 : ((m : Int) + (V : Int)).toNat = m + V := by omega
  clear e1 e2 hk
  go_enter Try.func73, Try.ntmps73
  go_wp2_with fail
  go_quiet (fail)
  clear w1 w2 w3 g4
  go_wp2_with fail
  go_ret
  refine ⟨?_, nq, rfl⟩
  simp
  done

/-! ### Scaled -/
def mostR (r : RowsD) (i : Nat) : Nat := mostK (rowO r i) r.gains.length
def posR (r : RowsD) (i : Nat) : Bool := gtF (mostR r i) 0
def scN (r : RowsD) (j : Nat) : Nat := if posR r (j / r.gains.length) = true then divV (r.nums.getD j 0) (mostR r (j / r.gains.length)) else r.nums.getD j 0
def stN (r : RowsD) (n : Nat) : List Nat := (List.range r.nums.length).map fun j => if j < n then scN r j else r.nums.getD j 0
def scB (r : RowsD) (i : Nat) : Nat := if posR r i = true then divV (r.bnds.getD i 0) (mostR r i) else r.bnds.getD i 0
def stB (r : RowsD) (n : Nat) : List Nat := (List.range r.bnds.length).map fun i => if i < n then scB r i else r.bnds.getD i 0
def scR (r : RowsD) : RowsD := ⟨r.vars, stN r r.nums.length, stB r r.bnds.length, r.gains⟩
noncomputable def scaleOk (r : RowsD) : Bool := validR r && validR (scR r)
noncomputable def scaleV (r : RowsD) : RowsD := if scaleOk r = true then scR r else zeroR

theorem stN_len (r : RowsD) (n : Nat) : (stN r n).length = r.nums.length := by simp [stN]
theorem stB_len (r : RowsD) (n : Nat) : (stB r n).length = r.bnds.length := by simp [stB]
theorem map_getD (xs : List Nat) : (List.range xs.length).map (fun j => xs.getD j 0) = xs := by
  refine List.ext_getElem (by simp) fun i h1 h2 => ?_
  simp [h2]
theorem stN_zero (r : RowsD) : stN r 0 = r.nums := by
  unfold stN
  simp only [Nat.not_lt_zero, if_false]
  exact map_getD _
theorem stB_zero (r : RowsD) : stB r 0 = r.bnds := by
  unfold stB
  simp only [Nat.not_lt_zero, if_false]
  exact map_getD _
theorem step_set {n j : Nat} (f g : Nat → Nat) (h : j < n) : ((List.range n).map fun i => if i < j then f i else g i).set j (f j) = (List.range n).map fun i => if i < j + 1 then f i else g i := by
  refine List.ext_getElem (by simp) fun i h1 h2 => ?_
  rw [List.getElem_set]
  simp only [List.getElem_map, List.getElem_range]
  by_cases e : j = i
  · subst e; simp
  · rw [if_neg e]
    by_cases q : i < j
    · rw [if_pos q, if_pos (by omega)]
    · rw [if_neg q, if_neg (by omega)]
theorem stN_set (r : RowsD) {j : Nat} (h : j < r.nums.length) : (stN r j).set j (scN r j) = stN r (j + 1) := step_set _ _ h
theorem stB_set (r : RowsD) {j : Nat} (h : j < r.bnds.length) : (stB r j).set j (scB r j) = stB r (j + 1) := step_set _ _ h
theorem stN_at (r : RowsD) {j n : Nat} (h : j < r.nums.length) (hn : n ≤ j) : (stN r n).getD j 0 = r.nums.getD j 0 := by
  unfold stN
  simp [h, show ¬ j < n by omega]
theorem stB_at (r : RowsD) {j n : Nat} (h : j < r.bnds.length) (hn : n ≤ j) : (stB r n).getD j 0 = r.bnds.getD j 0 := by
  unfold stB
  simp [h, show ¬ j < n by omega]
theorem div_row {V i k : Nat} (hk : k < V) : (i * V + k) / V = i := by
  rw [Nat.mul_comm, Nat.mul_add_div (by omega), Nat.div_eq_of_lt hk, Nat.add_zero]
theorem stN_skip {r : RowsD} {i : Nat} (h : posR r i = false) : stN r ((i + 1) * r.gains.length) = stN r (i * r.gains.length) := by
  unfold stN
  refine List.map_congr_left fun j _ => ?_
  by_cases h1 : j < i * r.gains.length
  · rw [if_pos h1, if_pos (by rw [Nat.succ_mul]; omega)]
  · rw [if_neg h1]
    by_cases h2 : j < (i + 1) * r.gains.length
    · rw [if_pos h2]
      have : j / r.gains.length = i := by
        rw [Nat.succ_mul] at h2
        obtain ⟨k, rfl⟩ : ∃ k, j = i * r.gains.length + k := ⟨j - i * r.gains.length, by omega⟩
        exact div_row (by omega)
      unfold scN
      rw [this, h]
      rfl
    · rw [if_neg h2]
theorem scN_pos {r : RowsD} {i k : Nat} (h : posR r i = true) (hk : k < r.gains.length) : scN r (i * r.gains.length + k) = divV (r.nums.getD (i * r.gains.length + k) 0) (mostR r i) := by
  unfold scN
  rw [div_row hk, h]
  rfl
theorem scB_pos {r : RowsD} {i : Nat} (h : posR r i = true) : scB r i = divV (r.bnds.getD i 0) (mostR r i) := by unfold scB; rw [h]; rfl
theorem stB_skip {r : RowsD} {i : Nat} (h : posR r i = false) : stB r (i + 1) = stB r i := by
  unfold stB
  refine List.map_congr_left fun j _ => ?_
  by_cases h1 : j < i
  · rw [if_pos h1, if_pos (by omega)]
  · rw [if_neg h1]
    by_cases h2 : j < i + 1
    · obtain rfl : j = i := by omega
      rw [if_pos h2]; unfold scB; rw [h]; rfl
    · rw [if_neg h2]
theorem rowO_at {r : RowsD} {i k : Nat} (hk : k < r.gains.length) : (rowO r i).getD k 0 = r.nums.getD (i * r.gains.length + k) 0 := by
  unfold rowO
  rw [List.getD_eq_getElem?_getD, List.getElem?_take_of_lt hk, List.getElem?_drop, List.getD_eq_getElem?_getD]
theorem scaleV_cnt (r : RowsD) : cntR (scaleV r) ≤ 80 := by
  unfold scaleV
  split
  · rename_i h
    have hv : ValR (scR r) := by
      unfold scaleOk at h
      simp only [Bool.and_eq_true] at h
      exact validR_iff.1 h.2
    have h1 := hv.nl
    have h2 := mulR hv.v1 hv.v8 hv.b8
    have h3 := hv.gl
    have h4 := hv.v8
    have h5 := hv.b8
    unfold cntR
    omega
  · simp [zeroR, cntR]

end Go.Proofs.Ytkkcgclliomocaa

namespace Go.Proofs.Ytkkcgclliomocaa
open Go.RowKit Go.Sort

/-- What a number is worth, in the least unit. -/
def valI (x : Nat) : Int := match Ieee.single.read x with
  | .number s m e => Ieee.signed s m (e + 149).toNat
  | _ => 0
theorem valI_of {x m : Nat} {s : Bool} {e : Int} (h : Ieee.single.read x = .number s m e) : valI x = Ieee.signed s m (e + 149).toNat := by unfold valI; rw [h]
theorem signed_eq (s : Bool) (m k : Nat) : Ieee.signed s m k = (if s = true then -1 else 1) * ((m * 2 ^ k : Nat) : Int) := by
  unfold Ieee.signed
  rw [Nat.shiftLeft_eq]
  cases s <;> simp
theorem signed_shift (s : Bool) (m k d : Nat) : Ieee.signed s m (k + d) = Ieee.signed s m k * ((2 ^ d : Nat) : Int) := by
  rw [signed_eq, signed_eq, Nat.pow_add, ← Nat.mul_assoc, Int.natCast_mul, Int.mul_assoc]
theorem cmp_mul (a b : Int) (d : Nat) (h : 0 < d) : compare (a * (d : Int)) (b * (d : Int)) = compare a b := by
  have hd : (0 : Int) < (d : Int) := by omega
  rcases Int.lt_trichotomy a b with h1 | h1 | h1
  · rw [Int.compare_eq_lt.2 h1, Int.compare_eq_lt.2 (Int.mul_lt_mul_of_pos_right h1 hd)]
  · rw [h1]; simp
  · rw [Int.compare_eq_gt.2 h1, Int.compare_eq_gt.2 (Int.mul_lt_mul_of_pos_right h1 hd)]
theorem order_val {x y : Nat} (hx : fin32 x = true) (hy : fin32 y = true) : Ieee.single.order x y = some (compare (valI x) (valI y)) := by
  obtain ⟨s, m, e, h, _, _, h1, _⟩ := read32_parts hx
  obtain ⟨t, n, j, h', _, _, h2, _⟩ := read32_parts hy
  rw [valI_of h, valI_of h']
  unfold Ieee.Format.order
  rw [h, h']
  simp only [Ieee.Datum.order]
  have e1 : (e + 149).toNat = (e - min e j).toNat + (min e j + 149).toNat := by omega
  have e2 : (j + 149).toNat = (j - min e j).toNat + (min e j + 149).toNat := by omega
  rw [e1, e2, signed_shift, signed_shift, cmp_mul _ _ _ (Nat.two_pow_pos _)]
theorem gtF_val {x y : Nat} (hx : fin32 x = true) (hy : fin32 y = true) : gtF x y = decide (valI y < valI x) := by
  unfold gtF
  rw [order_val hx hy]
  rcases Int.lt_trichotomy (valI x) (valI y) with h1 | h1 | h1
  · rw [Int.compare_eq_lt.2 h1, decide_eq_false (by omega)]; rfl
  · rw [h1, decide_eq_false (by omega)]; simp
  · rw [Int.compare_eq_gt.2 h1, decide_eq_true h1]; rfl

/-- Numbers that are worth the same are the same, or both nothing. -/
theorem val_inj {x y : Nat} (hx : fin32 x = true) (hy : fin32 y = true) (h : valI x = valI y) : Ieee.single.read x = Ieee.single.read y ∨ valI x = 0 := by
  obtain ⟨s, m, e, h0, _, h2, h3, h4, h5, h6, h7⟩ := read32_parts hx
  obtain ⟨t, n, j, k0, _, k2, k3, k4, k5, k6, k7⟩ := read32_parts hy
  by_cases hz : valI x = 0
  · exact .inr hz
  left
  rw [valI_of h0, signed_eq] at h hz
  rw [valI_of k0, signed_eq] at h
  have key : ∀ (m n a b : Nat), m < 16777216 → (n < 8388608 → b = 0) → m * 2 ^ a = n * 2 ^ b → ¬ a < b := by
    intro m n a b hm hnb he hab
    obtain ⟨c, rfl⟩ : ∃ c, b = a + (c + 1) := ⟨b - a - 1, by omega⟩
    rw [Nat.pow_add, ← Nat.mul_assoc, Nat.mul_right_comm] at he
    have he2 := Nat.eq_of_mul_eq_mul_right (Nat.two_pow_pos a) he
    have h8 : 8388608 ≤ n := by
      rcases Nat.lt_or_ge n 8388608 with h | h
      · have := hnb h; omega
      · exact h
    have h9 : n * 2 ≤ n * 2 ^ (c + 1) := Nat.mul_le_mul_left n (by rw [Nat.pow_succ]; have := Nat.two_pow_pos c; omega)
    omega
  have hst : s = t ∧ m * 2 ^ (e + 149).toNat = n * 2 ^ (j + 149).toNat := by
    revert h hz
    generalize m * 2 ^ (e + 149).toNat = A
    generalize n * 2 ^ (j + 149).toNat = B
    intro hz h
    cases s <;> cases t <;> simp only [if_true, Bool.false_eq_true, if_false] at h hz ⊢ <;> simp <;> omega
  obtain ⟨rfl, hm⟩ := hst
  have a1 := key m n _ _ h2 (fun hh => by have := k7 hh; omega) hm
  have a2 := key n m _ _ k2 (fun hh => by have := h7 hh; omega) hm.symm
  have hej : (e + 149).toNat = (j + 149).toNat := by omega
  rw [hej] at hm
  have hmn := Nat.eq_of_mul_eq_mul_right (Nat.two_pow_pos _) hm
  have he : e = j := by omega
  rw [h0, k0, hmn, he]

/-- A datum that is a number or an infinity, and not below 0. -/
def Pos (d : Ieee.Datum) : Prop := d.neg = false ∧ d.isNaN = false
theorem write_pos {d : Ieee.Datum} (h : Pos d) : Pos (Ieee.single.read (Ieee.single.write d)) := by
  have word : ∀ r, r ≤ 2139095040 → Pos (Ieee.single.read r) := by
    intro r hr
    unfold Ieee.Format.read
    have c1 : Ieee.single.signWeight = 2147483648 := rfl
    have c2 : Ieee.single.binade = 8388608 := rfl
    have c3 : Ieee.single.infRung = 2139095040 := rfl
    simp only [c1, c2, c3]
    have e1 : (r / 2147483648 % 2 == 1) = false := by rw [Nat.div_eq_of_lt (by omega)]; rfl
    have e2 : r % 2147483648 = r := Nat.mod_eq_of_lt (by omega)
    rw [e1, e2]
    split
    · exact ⟨rfl, rfl⟩
    · split
      · exact ⟨rfl, rfl⟩
      · split
        · exact ⟨rfl, rfl⟩
        · omega
  have w1 : ∀ r, r ≤ 2139095040 → Pos (Ieee.single.read (Ieee.single.word false r)) := fun r hr => word r hr
  have hi : Ieee.single.infRung = 2139095040 := rfl
  obtain ⟨h1, h2⟩ := h
  cases d with
  | nan a b => simp [Ieee.Datum.isNaN] at h2
  | infinity s =>
    obtain rfl : s = false := h1
    exact w1 Ieee.single.infRung (Nat.le_of_eq hi)
  | number s m e =>
    obtain rfl : s = false := h1
    show Pos (Ieee.single.read (Ieee.single.nearest false m e))
    unfold Ieee.Format.nearest
    split
    · exact w1 0 (Nat.zero_le _)
    · exact w1 _ (Nat.le_trans (Nat.min_le_right _ _) (Nat.le_of_eq hi))

theorem signed_sign {s : Bool} {m k : Nat} (h : Ieee.signed s m k = 0) : m = 0 := by
  rw [signed_eq] at h
  have h2 : m * 2 ^ k = 0 := by
    generalize m * 2 ^ k = A at h ⊢
    cases s
    · simp at h; omega
    · simp at h; omega
  rcases Nat.mul_eq_zero.1 h2 with h3 | h3
  · exact h3
  · have := Nat.two_pow_pos k; omega
theorem signed_nonneg {s : Bool} {m k k' : Nat} (h : 0 ≤ Ieee.signed s m k) : 0 ≤ Ieee.signed s m k' := by
  rw [signed_eq] at h ⊢
  cases s
  · generalize m * 2 ^ k' = A; simp only [Bool.false_eq_true, if_false]; omega
  · have h0 : m * 2 ^ k = 0 := by generalize m * 2 ^ k = A at h ⊢; simp only [if_true] at h; omega
    rcases Nat.mul_eq_zero.1 h0 with h3 | h3
    · subst h3; simp
    · have := Nat.two_pow_pos k; omega
theorem signed_pos (m k : Nat) : 0 ≤ Ieee.signed false m k := by
  rw [signed_eq]; generalize m * 2 ^ k = A; simp only [Bool.false_eq_true, if_false]; omega

/-- What is not below 0, and one that is not below 0 put to it. -/
theorem add_pos {s x : Nat} (hs : Pos (Ieee.single.read s)) (hx : fin32 x = true) (h0 : 0 ≤ valI x) : ∃ r, Ieee.single.add s x = some r ∧ Pos (Ieee.single.read r) := by
  obtain ⟨t, n, j, k0, _⟩ := read32_parts hx
  rw [valI_of k0] at h0
  unfold Ieee.Format.add
  rw [k0]
  obtain ⟨h1, h2⟩ := hs
  cases hr : Ieee.single.read s with
  | nan a b => rw [hr] at h2; simp [Ieee.Datum.isNaN] at h2
  | infinity q =>
    rw [hr] at h1
    obtain rfl : q = false := h1
    exact ⟨_, rfl, write_pos ⟨rfl, rfl⟩⟩
  | number q m i =>
    rw [hr] at h1
    obtain rfl : q = false := h1
    refine ⟨_, rfl, write_pos ⟨?_, rfl⟩⟩
    simp only [Ieee.Datum.neg]
    have g1 := signed_nonneg (k' := (j - min i j).toNat) h0
    have g2 : 0 ≤ Ieee.signed false m (i - min i j).toNat := signed_pos _ _
    split
    · simp
    · simp; omega
/-- Nothing is put to it: of which sign is of no matter. -/
theorem add_zero {s x y : Nat} (hs : Pos (Ieee.single.read s)) (hx : fin32 x = true) (hy : fin32 y = true) (vx : valI x = 0) (vy : valI y = 0) : Ieee.single.add s x = Ieee.single.add s y := by
  obtain ⟨t, n, j, k0, _, _, _, _, _, _, k7⟩ := read32_parts hx
  obtain ⟨t', n', j', l0, _, _, _, _, _, _, l7⟩ := read32_parts hy
  rw [valI_of k0] at vx
  rw [valI_of l0] at vy
  obtain rfl := signed_sign vx
  obtain rfl := signed_sign vy
  obtain rfl := k7 (by omega)
  obtain rfl := l7 (by omega)
  unfold Ieee.Format.add
  rw [k0, l0]
  obtain ⟨h1, h2⟩ := hs
  cases hr : Ieee.single.read s with
  | nan a b => rw [hr] at h2; simp [Ieee.Datum.isNaN] at h2
  | infinity q => rfl
  | number q m i =>
    rw [hr] at h1
    obtain rfl : q = false := h1
    simp only [Ieee.Datum.sum, signed_eq, Nat.zero_mul, Bool.false_and]
    simp

/-- The sum of the first k; none where it is no number. -/
def sumO (xs : List Nat) : Nat → Option Nat
  | 0 => some 0
  | k + 1 => (sumO xs k).bind fun s => Ieee.single.add s (xs.getD k 0)

/-- Two rows in descending order that are worth the same, place for place, have the same sums. -/
theorem sum_same (D E : List Nat) (hl : D.length = E.length) (fD : ∀ i, i < D.length → fin32 (D.getD i 0) = true) (fE : ∀ i, i < D.length → fin32 (E.getD i 0) = true)
    (hv : ∀ i, i < D.length → valI (D.getD i 0) = valI (E.getD i 0)) (hs : ∀ i j, i < j → j < D.length → valI (D.getD j 0) ≤ valI (D.getD i 0)) :
    ∀ k, k ≤ D.length → sumO D k = sumO E k ∧ ((∀ i, i < k → 0 ≤ valI (D.getD i 0)) → ∃ s, sumO D k = some s ∧ Pos (Ieee.single.read s))
  | 0, _ => ⟨rfl, fun _ => ⟨0, rfl, by refine ⟨?_, ?_⟩ <;> decide +kernel⟩⟩
  | k + 1, h => by
    obtain ⟨h1, h2⟩ := sum_same D E hl fD fE hv hs k (by omega)
    have hk : k < D.length := by omega
    refine ⟨?_, fun hp => ?_⟩
    · simp only [sumO]
      rcases val_inj (fD k hk) (fE k hk) (hv k hk) with e | e
      · rw [h1]
        unfold Ieee.Format.add
        rw [e]
      · obtain ⟨s, h3, h4⟩ := h2 fun i hi => by have := hs i k hi hk; omega
        rw [← h1, h3]
        exact add_zero h4 (fD k hk) (fE k hk) e (by rw [← hv k hk]; exact e)
    · obtain ⟨s, h3, h4⟩ := h2 fun i hi => hp i (by omega)
      obtain ⟨r, h5, h6⟩ := add_pos h4 (fD k hk) (hp k (by omega))
      exact ⟨r, by simp only [sumO, h3, Option.bind_some, h5], h6⟩

/-- Sorted ones of one list are worth the same, place for place. -/
theorem sorted_same (D E : List Nat) (hp : D.Perm E) (hD : ∀ i j, i < j → j < D.length → valI (D.getD j 0) ≤ valI (D.getD i 0)) (hE : ∀ i j, i < j → j < E.length → valI (E.getD j 0) ≤ valI (E.getD i 0)) :
    ∀ i, i < D.length → valI (D.getD i 0) = valI (E.getD i 0) := by
  have hpw : ∀ (L : List Nat), (∀ i j, i < j → j < L.length → valI (L.getD j 0) ≤ valI (L.getD i 0)) → (L.map valI).Pairwise (fun a b => b ≤ a) := by
    intro L hL
    rw [List.pairwise_iff_getElem]
    intro i j hi hj hij
    rw [List.length_map] at hi hj
    rw [List.getElem_map, List.getElem_map]
    have := hL i j hij hj
    rw [List.getD_eq_getElem?_getD, List.getD_eq_getElem?_getD, List.getElem?_eq_getElem hi, List.getElem?_eq_getElem hj] at this
    exact this
  have he : D.map valI = E.map valI := List.Perm.eq_of_pairwise (fun a b _ _ h1 h2 => Int.le_antisymm h2 h1) (hpw D hD) (hpw E hE) (hp.map valI)
  intro i hi
  have h1 := congrArg (fun l : List Int => l[i]?) he
  simp only [List.getElem?_map] at h1
  have hi2 : i < E.length := by rw [← hp.length_eq]; exact hi
  rw [List.getElem?_eq_getElem hi, List.getElem?_eq_getElem hi2] at h1
  rw [List.getD_eq_getElem?_getD, List.getD_eq_getElem?_getD, List.getElem?_eq_getElem hi, List.getElem?_eq_getElem hi2]
  exact Option.some.inj h1

/-! ### No NaN comes up -/
def Num (x : Nat) : Prop := (Ieee.single.read x).isNaN = false
theorem word_num (s : Bool) (r : Nat) (hr : r ≤ 2139095040) : Num (Ieee.single.word s r) := by
  unfold Num Ieee.Format.read Ieee.Format.word
  have c1 : Ieee.single.signWeight = 2147483648 := rfl
  have c2 : Ieee.single.binade = 8388608 := rfl
  have c3 : Ieee.single.infRung = 2139095040 := rfl
  simp only [c1, c2, c3]
  have e2 : (if s = true then 2147483648 + r else r) % 2147483648 = r := by
    cases s <;> simp <;> omega
  rw [e2]
  split
  · rfl
  · split
    · rfl
    · split
      · rfl
      · omega
theorem write_num {d : Ieee.Datum} (h : d.isNaN = false) : Num (Ieee.single.write d) := by
  have hi : Ieee.single.infRung = 2139095040 := rfl
  cases d with
  | nan a b => simp [Ieee.Datum.isNaN] at h
  | infinity s => exact word_num s Ieee.single.infRung (Nat.le_of_eq hi)
  | number s m e =>
    show Num (Ieee.single.nearest s m e)
    unfold Ieee.Format.nearest
    split
    · exact word_num s 0 (Nat.zero_le _)
    · exact word_num s _ (Nat.le_trans (Nat.min_le_right _ _) (Nat.le_of_eq hi))
theorem num_fin {x : Nat} (h : fin32 x = true) : Num x := by
  obtain ⟨s, m, e, h0, _⟩ := read32_parts h
  unfold Num; rw [h0]; rfl
def addW (s x : Nat) : Nat := (Ieee.single.add s x).getD 0
def subV2 (s x : Nat) : Nat := (Ieee.single.sub s x).getD 0
theorem add_num {s x : Nat} (hs : Num s) (hx : fin32 x = true) : Ieee.single.add s x = some (addW s x) ∧ Num (addW s x) := by
  obtain ⟨t, n, j, k0, _⟩ := read32_parts hx
  unfold addW Ieee.Format.add
  rw [k0]
  unfold Num at hs
  cases hr : Ieee.single.read s with
  | nan a b => rw [hr] at hs; simp [Ieee.Datum.isNaN] at hs
  | infinity q => simp only [Ieee.Datum.sum, Option.map_some, Option.getD_some, true_and]; exact write_num rfl
  | number q m i => simp only [Ieee.Datum.sum, Option.map_some, Option.getD_some, true_and]; exact write_num rfl
theorem sub_numR {s x : Nat} (hs : Num s) (hx : fin32 x = true) : Ieee.single.sub s x = some (subV2 s x) ∧ Num (subV2 s x) := by
  obtain ⟨t, n, j, k0, _⟩ := read32_parts hx
  unfold subV2 Ieee.Format.sub
  rw [k0]
  unfold Num at hs
  cases hr : Ieee.single.read s with
  | nan a b => rw [hr] at hs; simp [Ieee.Datum.isNaN] at hs
  | infinity q => simp only [Ieee.Datum.opposite, Ieee.Datum.sum, Option.map_some, Option.getD_some, true_and]; exact write_num rfl
  | number q m i => simp only [Ieee.Datum.opposite, Ieee.Datum.sum, Option.map_some, Option.getD_some, true_and]; exact write_num rfl
theorem sub_numL {s x : Nat} (hx : fin32 s = true) (hs : Num x) : Ieee.single.sub s x = some (subV2 s x) ∧ Num (subV2 s x) := by
  obtain ⟨t, n, j, k0, _⟩ := read32_parts hx
  unfold subV2 Ieee.Format.sub
  rw [k0]
  unfold Num at hs
  cases hr : Ieee.single.read x with
  | nan a b => rw [hr] at hs; simp [Ieee.Datum.isNaN] at hs
  | infinity q => simp only [Ieee.Datum.opposite, Ieee.Datum.sum, Option.map_some, Option.getD_some, true_and]; exact write_num rfl
  | number q m i => simp only [Ieee.Datum.opposite, Ieee.Datum.sum, Option.map_some, Option.getD_some, true_and]; exact write_num rfl
theorem div_num {s x : Nat} (hs : Num s) (hx : fin32 x = true) (h0 : valI x ≠ 0) : Ieee.single.div s x = some (divV s x) ∧ Num (divV s x) := by
  obtain ⟨t, n, j, k0, _⟩ := read32_parts hx
  rw [valI_of k0, signed_eq] at h0
  have hn : n ≠ 0 := by rintro rfl; simp at h0
  unfold divV Ieee.Format.div
  rw [k0]
  unfold Num at hs
  cases hr : Ieee.single.read s with
  | nan a b => rw [hr] at hs; simp [Ieee.Datum.isNaN] at hs
  | infinity q => simp only [Ieee.Datum.quotient, Option.map_some, Option.getD_some, true_and]; exact write_num rfl
  | number q m i =>
    simp only [Ieee.Datum.quotient, if_neg hn, Option.map_some, Option.getD_some, true_and]
    exact write_num rfl

/-- The sum of the first k. -/
def totV (xs : List Nat) : Nat → Nat
  | 0 => 0
  | k + 1 => addW (totV xs k) (xs.getD k 0)
theorem totV_num {xs : List Nat} (h : allFin xs = true) : ∀ k, k ≤ xs.length → Num (totV xs k) ∧ sumO xs k = some (totV xs k)
  | 0, _ => ⟨num_fin fin0, rfl⟩
  | k + 1, hk => by
    obtain ⟨h1, h2⟩ := totV_num h k (by omega)
    obtain ⟨h3, h4⟩ := add_num h1 (allFin_get h (show k < xs.length by omega))
    exact ⟨h4, by simp only [sumO, h2, Option.bind_some, h3]; rfl⟩
/-- What is to be taken off, told by the first k + 1. -/
def cutK (xs : List Nat) (k : Nat) : Nat := divV (subV2 (totV xs (k + 1)) 1065353216) (floatOfInt .f32 ((k + 1 : Nat) : Int))
/-- The last of those that leave something, and whether there is one. -/
def cutF (xs : List Nat) : Nat → Nat × Bool
  | 0 => (0, false)
  | k + 1 => if gtF (xs.getD k 0) (cutK xs k) = true then (cutK xs k, true) else cutF xs k
def ltF0 (y : Nat) : Bool := Ieee.single.order y 0 == some .lt
def lessV (x less : Nat) : Nat := if ltF0 (subV2 x less) = true then 0 else subV2 x less

end Go.Proofs.Ytkkcgclliomocaa

namespace Go.Proofs.Ytkkcgclliomocaa
open Go.RowKit Go.Sort

def ltK (key : Nat → Int) (x y : Nat) : Bool := decide (key x < key y)
theorem swo_ltK (key : Nat → Int) : SWO (ltK key) where
  irrefl x := by simp [ltK]
  trans x y z h1 h2 := by simp only [ltK, decide_eq_true_eq] at *; omega
  ntrans x y z h1 h2 := by simp only [ltK, decide_eq_false_iff_not] at *; omega
/-- The indices below n, those with a lesser key first, equal ones in order. -/
def ordA (key : Nat → Int) (n : Nat) : Array Nat := insertionSort (ltK key) (Array.range n) 0 n
def ordL (key : Nat → Int) (n : Nat) : List Nat := (ordA key n).toList
theorem ordA_perm (key : Nat → Int) (n : Nat) : PermIn 0 n (Array.range n) (ordA key n) :=
  (insertionSort_holds (swo_ltK key) (Array.range n) 0 n (Nat.zero_le _) (by simp)).1
theorem ordA_size (key : Nat → Int) (n : Nat) : (ordA key n).size = n := by rw [(ordA_perm key n).1]; simp
theorem ordL_len (key : Nat → Int) (n : Nat) : (ordL key n).length = n := by unfold ordL; rw [Array.length_toList, ordA_size]
theorem ordL_perm (key : Nat → Int) (n : Nat) : (ordL key n).Perm (List.range n) := by
  have h := (ordA_perm key n).2.2
  have e0 : ∀ (a : Array Nat) k, a.size = k → a.extract 0 k = a := by
    rintro a _ rfl
    exact Array.extract_size
  have e1 := e0 _ _ (ordA_size key n)
  have e2 := e0 (Array.range n) n (by simp)
  rw [e1, e2, Array.toList_range] at h
  exact h
theorem ordL_lt (key : Nat → Int) (n : Nat) : ∀ x ∈ ordL key n, x < n := fun x hx => List.mem_range.1 ((ordL_perm key n).mem_iff.1 hx)

/-- The reference's state: what stands ahead, and what is still to come. -/
theorem ins_zero (key : Nat → Int) (n : Nat) : insOuter (ltK key) 0 n 0 (Array.range n) = ordA key n := by
  unfold ordA insertionSort
  by_cases h : 0 < n
  · rw [insOuter_go _ _ _ _ _ h, insInner_stop _ _ _ _ (.inl (Nat.le_refl _))]
  · rw [insOuter_stop _ _ _ _ _ h, insOuter_stop _ _ _ _ _ (by omega)]

end Go.Proofs.Ytkkcgclliomocaa

namespace Go.Proofs.Ytkkcgclliomocaa
open Go.RowKit

/-- Each of the values reads as the list at its place. -/
def Each (w : World) (vs : List Value) (zss : List (List Int)) : Prop := vs.length = zss.length ∧ ∀ (i : Nat) u zs, vs[i]? = some u → zss[i]? = some zs → RdI w u zs
def RdL (w : World) (v : Value) (zss : List (List Int)) : Prop := ∃ vs, Slc w v vs ∧ Each w vs zss
/-- Owned: the outer row, and the inner ones, each in a block of its own. -/
def OwnEach (lo hi : Nat) (w : World) (vs : List Value) (zss : List (List Int)) : Prop :=
  vs.length = zss.length ∧ (∀ (i : Nat) u zs, vs[i]? = some u → zss[i]? = some zs → OwnI lo hi w u zs) ∧ ∀ (i j : Nat) u u' g, i ≠ j → vs[i]? = some u → vs[j]? = some u' → u.ownBlock = some g → u'.ownBlock ≠ some g
def OwnL (lo hi : Nat) (w : World) (v : Value) (zss : List (List Int)) : Prop :=
  ∃ vs, w.ownsRow lo 65 1 v zss.length vs ∧ (∀ g, v.ownBlock = some g → g < hi) ∧ OwnEach lo hi w vs zss
def lsum : List (List Int) → Nat
  | [] => 0
  | z :: r => z.length + lsum r
theorem lsum_append : ∀ (a b : List (List Int)), lsum (a ++ b) = lsum a + lsum b
  | [], b => by simp [lsum]
  | z :: r, b => by simp only [List.cons_append, lsum, lsum_append r b]; omega
def bulkL (zss : List (List Int)) : Nat := zss.length + lsum zss

theorem RdL.shape {w : World} {v : Value} {zss : List (List Int)} (h : RdL w v zss) : ∃ a c, v = .slice a zss.length c := by
  obtain ⟨vs, h1, h2⟩ := h
  obtain ⟨a, c, e⟩ := h1.shape
  exact ⟨a, c, by rw [e, h2.1]⟩
theorem RdL.len {w : World} {v : Value} {zss : List (List Int)} (h : RdL w v zss) : zss.length ≤ maxLen := by
  obtain ⟨vs, h1, h2⟩ := h
  rw [← h2.1]; exact h1.len
theorem Each.up {w w' : World} {vs : List Value} {zss : List (List Int)} {B : Nat} (h : Each w vs zss) (hb : Below B w w') (hB : w.heap.size ≤ B) : Each w' vs zss :=
  ⟨h.1, fun i u zs h1 h2 => (h.2 i u zs h1 h2).up hb hB⟩
theorem RdL.up {w w' : World} {v : Value} {zss : List (List Int)} {B : Nat} (h : RdL w v zss) (hb : Below B w w') (hB : w.heap.size ≤ B) : RdL w' v zss := by
  obtain ⟨vs, h1, h2⟩ := h
  exact ⟨vs, h1.below hb hB, h2.up hb hB⟩
/-- One of the lists. -/
theorem RdL.at {w : World} {a : Option Addr} {n c : Nat} {zss : List (List Int)} (h : RdL w (.slice a n c) zss) {i : Nat} (hi : i < zss.length) :
    ∃ b off u, a = some ⟨b, off, none⟩ ∧ b < w.heap.size ∧ w.cell? ⟨b, off + i, none⟩ = some u ∧ RdI w u (zss.getD i []) := by
  obtain ⟨vs, h1, h2⟩ := h
  have hv : i < vs.length := by rw [h2.1]; exact hi
  obtain ⟨b, off, ha, hb, hc⟩ := h1.at (List.getElem?_eq_getElem hv)
  exact ⟨b, off, vs[i], ha, hb, hc, h2.2 i _ _ (List.getElem?_eq_getElem hv) (by simp [hi])⟩

theorem OwnEach.each {lo hi : Nat} {w : World} {vs : List Value} {zss : List (List Int)} (h : OwnEach lo hi w vs zss) : Each w vs zss := ⟨h.1, fun i u zs h1 h2 => (h.2.1 i u zs h1 h2).rd⟩
theorem OwnL.rd {lo hi : Nat} {w : World} {v : Value} {zss : List (List Int)} (h : OwnL lo hi w v zss) : RdL w v zss := by
  obtain ⟨vs, h1, h2, h3⟩ := h
  exact ⟨vs, slc_of_owns h1, h3.each⟩
theorem OwnEach.up {lo hi : Nat} {w w' : World} {vs : List Value} {zss : List (List Int)} {B : Nat} (h : OwnEach lo hi w vs zss) (hb : Below B w w') (hB : w.heap.size ≤ B) : OwnEach lo hi w' vs zss :=
  ⟨h.1, fun i u zs h1 h2 => (h.2.1 i u zs h1 h2).up hb hB, h.2.2⟩
theorem OwnL.up {lo hi : Nat} {w w' : World} {v : Value} {zss : List (List Int)} {B : Nat} (h : OwnL lo hi w v zss) (hb : Below B w w') (hB : w.heap.size ≤ B) : OwnL lo hi w' v zss := by
  obtain ⟨vs, h1, h2, h3⟩ := h
  exact ⟨vs, owns_below h1 hb hB, h2, h3.up hb hB⟩
theorem OwnEach.wide {lo hi lo' hi' : Nat} {w : World} {vs : List Value} {zss : List (List Int)} (h : OwnEach lo hi w vs zss) (a : lo' ≤ lo) (b : hi ≤ hi') : OwnEach lo' hi' w vs zss :=
  ⟨h.1, fun i u zs h1 h2 => (h.2.1 i u zs h1 h2).wide a b, h.2.2⟩
theorem OwnL.wide {lo hi lo' hi' : Nat} {w : World} {v : Value} {zss : List (List Int)} (h : OwnL lo hi w v zss) (a : lo' ≤ lo) (b : hi ≤ hi') : OwnL lo' hi' w v zss := by
  obtain ⟨vs, h1, h2, h3⟩ := h
  exact ⟨vs, owns_base h1 a, fun g hg => Nat.lt_of_lt_of_le (h2 g hg) b, h3.wide a b⟩
theorem OwnL.kept {lo hi : Nat} {w w' : World} {v : Value} {zss : List (List Int)} {S : Nat → Prop} (h : OwnL lo hi w v zss) (hk : Kept S w w') (hs : ∀ b, lo ≤ b → b < hi → ¬ S b) : OwnL lo hi w' v zss := by
  obtain ⟨vs, h1, h2, h3⟩ := h
  exact ⟨vs, owns_kept h1 hk fun g hg => hs g (owns_lt h1 hg).1 (h2 g hg), h2, h3.1, fun i u zs a b => (h3.2.1 i u zs a b).kept hk hs, h3.2.2⟩

theorem sum_take_succ (zss : List (List Int)) (k : Nat) (hk : k < zss.length) : lsum (zss.take (k + 1)) = lsum (zss.take k) + (zss.getD k []).length := by
  rw [List.take_succ_eq_append_getElem hk, lsum_append]
  simp [hk, lsum]

theorem bulkL_le (zss : List (List Int)) (k : Nat) : lsum (zss.take k) + zss.length ≤ bulkL zss := by
  unfold bulkL
  have : lsum (zss.take k) + lsum (zss.drop k) = lsum zss := by rw [← lsum_append, List.take_append_drop]
  omega

theorem Try.infoInts : (Try.prog.info? 65).map (fun i => (i.zero, i.size, i.bytes)) = some (some (.slice none 0 0), 1, 24) := by kernel_rfl

set_option maxHeartbeats 400000 in
theorem eqL_same (v v' : Value) (zss : List (List Int)) (w : World) (h : RdL w v zss) (h' : RdL w v' zss) :
    Calls Try.prog 64 #[v, v'] w fun e w' => e = .returned (.bool true) ∧ Below w.heap.size w w' := by
  obtain ⟨a, c, rfl⟩ := h.shape
  obtain ⟨a', c', rfl⟩ := h'.shape
  have hl := h.len
  unfold maxLen at hl
  have HS := Lib.hid h
  have HS' := Lib.hid h'
  have hne : ((zss.length : Int) != (zss.length : Int)) = false := by simp
  clear h h'
  go_enter Try.func64, Try.ntmps64
  go_wp2_with fail
  go_loopw [5] (fun i wr => ∃ k : Nat, i = .int .i64 k ∧ k ≤ zss.length ∧ Below w.heap.size w wr) (fun i _ => zss.length - (intOf i).toNat)
  case atStart => exact ⟨0, rfl, Nat.zero_le _, Below.refl _ _⟩
  case round =>
    obtain ⟨k, rfl, hk, hb⟩ := hrel
    have HB := Lib.hid hb
    clear hb
    by_cases hlt : k < zss.length
    · obtain ⟨b, off, u, rfl, hbk, hc, hu⟩ := (HS.out.up HB.out (Nat.le_refl _)).at hlt
      obtain ⟨b', off', u', rfl, hbk', hc', hu'⟩ := (HS'.out.up HB.out (Nat.le_refl _)).at hlt
      have HU := Lib.hid hu
      have HU' := Lib.hid hu'
      clear hu hu'
      have hd : decide (zss.getD k [] = zss.getD k []) = true := by simp
      obtain ⟨zk, hzk⟩ : ∃ zk, zk = zss.getD k [] := ⟨_, rfl⟩
      rw [← hzk] at HU HU'
      clear hzk hd
      go_wp2_with fail
      go_quiet ((go_at_call 43; exact eqI_qs _ _ zk _ _ HU.out HU'.out))
      go_wp2_with fail
      go_roundw
      case rel => exact ⟨k + 1, by go_num, by omega, below_drewN HB.out _⟩
      case measure => simp [intOf]; omega
    · obtain rfl : k = zss.length := by omega
      go_wp2_with fail
      go_ret
      exact ⟨rfl, HB.out⟩

end Go.Proofs.Ytkkcgclliomocaa
