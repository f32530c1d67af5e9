/-
  FnExactScaleRows: texts joined: ScaleM, ScaleI, OpenI.
-/
import Derived.Deep.CutRange
import Derived.ProofKit
import Derived.OpenShut
import Derived.Test.YtkkcgclliomocaaMEScaleRowsAA
import Derived.Test.YtkkcgclliomocaaMEScaleRowsAB
import Derived.Test.YtkkcgclliomocaaMEScaleRowsAF
namespace Go.Proofs.Ytkkcgclliomocaa
open Go.RowKit

def gtF (a b : Nat) : Bool := Ieee.single.order a b == some .gt
def mxF (most a : Nat) : Nat := if gtF a most = true then a else most
def mostK (xs : List Nat) : Nat → Nat
  | 0 => 0
  | k + 1 => mxF (mostK xs k) (abs32 (xs.getD k 0))
def divV (x m : Nat) : Nat := (Ieee.single.div x m).getD 0

theorem datum_swap (a b : Ieee.Datum) : a.order b = (b.order a).map Ordering.swap := by
  cases a <;> cases b <;> simp only [Ieee.Datum.order, Option.map_none, Option.map_some]
  · rename_i s m i t n j
    rw [Int.min_comm, ← Std.OrientedCmp.eq_swap]
  · rename_i s _ _ t; cases t <;> rfl
  · rename_i s t _ _; cases s <;> rfl
  · rw [← Std.OrientedCmp.eq_swap]
theorem order_swap (a b : Nat) : Ieee.single.order a b = (Ieee.single.order b a).map Ordering.swap := datum_swap _ _
theorem order_fin {a b : Nat} (ha : fin32 a = true) (hb : fin32 b = true) : ∃ o, Ieee.single.order a b = some o := by
  obtain ⟨s, m, e, h, _⟩ := read32_parts ha
  obtain ⟨s', m', e', h', _⟩ := read32_parts hb
  unfold Ieee.Format.order
  rw [h, h']
  exact ⟨_, rfl⟩
theorem gt_lt {a b : Nat} (h : gtF a b = true) : FloatKind.f32.format.order b a = some .lt := by
  show Ieee.single.order b a = _
  unfold gtF at h
  simp only [beq_iff_eq] at h
  rw [order_swap, h]; rfl
theorem gt_gt {a b : Nat} (h : gtF a b = true) : FloatKind.f32.format.order a b = some .gt := by
  show Ieee.single.order a b = _
  unfold gtF at h
  simpa using h
theorem not_gt {a b : Nat} (ha : fin32 a = true) (hb : fin32 b = true) (h : gtF a b = false) : FloatKind.f32.format.order b a = some .gt ∨ FloatKind.f32.format.order b a = some .eq := by
  show Ieee.single.order b a = _ ∨ Ieee.single.order b a = _
  obtain ⟨o, ho⟩ := order_fin hb ha
  rw [ho]
  cases o
  · rw [order_swap] at ho
    unfold gtF at h
    cases hx : Ieee.single.order a b with
    | none => rw [hx] at ho; simp at ho
    | some q => rw [hx] at ho h; cases q <;> simp_all
  · exact .inr rfl
  · exact .inl rfl
theorem not_gt_b {a b : Nat} (h : gtF a b = false) : (FloatKind.f32.format.order a b == some .gt) = false := h
theorem yes_gt_b {a b : Nat} (h : gtF a b = true) : (FloatKind.f32.format.order a b == some .gt) = true := h
theorem abs_lt (x : Nat) : abs32 x < 2147483648 := by unfold abs32; omega
theorem pos_neg {x : Nat} (h : x < 2147483648) (hf : fin32 x = true) : (FloatKind.f32.decode x).neg = false := by
  show (Ieee.single.read x).neg = false
  obtain ⟨s, m, e, h0, h1, _⟩ := read32_parts hf
  rw [h0]
  show s = false
  rw [h1, show x / 2147483648 % 2 = 0 by omega]
  rfl
theorem fin0 : fin32 0 = true := by decide +kernel
theorem mxF_fin {m a : Nat} (hm : fin32 m = true) (ha : fin32 a = true) : fin32 (mxF m a) = true := by unfold mxF; split <;> assumption
theorem mxF_lt {m a : Nat} (hm : m < 2147483648) (ha : a < 2147483648) : mxF m a < 2147483648 := by unfold mxF; split <;> assumption
theorem mostK_ok {xs : List Nat} (h : allFin xs = true) : ∀ k, k ≤ xs.length → fin32 (mostK xs k) = true ∧ mostK xs k < 2147483648
  | 0, _ => ⟨fin0, by simp [mostK]⟩
  | k + 1, hk => by
    obtain ⟨h1, h2⟩ := mostK_ok h k (by omega)
    exact ⟨mxF_fin h1 (abs_fin (allFin_get h (by omega))), mxF_lt h2 (abs_lt _)⟩
theorem div_some {x m : Nat} (hx : fin32 x = true) (hm : fin32 m = true) (hp : gtF m 0 = true) : Ieee.single.div x m = some (divV x m) := by
  obtain ⟨s, a, e, h, _⟩ := read32_parts hx
  obtain ⟨s', a', e', h', _⟩ := read32_parts hm
  have hn : a' ≠ 0 := by
    intro e0
    subst e0
    unfold gtF Ieee.Format.order at hp
    rw [h', show Ieee.single.read 0 = .number false 0 (-149) by decide +kernel] at hp
    simp [Ieee.Datum.order, Ieee.signed] at hp
  unfold divV Ieee.Format.div
  rw [h, h']
  simp only [Ieee.Datum.quotient, if_neg hn, Option.map_some, Option.getD_some]
theorem run_div_some {P : Program} (t : TypeId) {x y : Nat} (h : Ieee.single.div x y = some (divV x y)) (w : World) :
    (binOp .quo t (.float .f32 x) (.float .f32 y)).run P w = .ok (.float .f32 (divV x y)) w := run_float_arith w .quo t .f32 x y _ h

/-! ### Taken from 0 -/
theorem size_leq {x : Nat} (hx : fin32 x = true) (hb : x < 4294967296) : (gtF x 0 = true ∧ abs32 x = x) ∨ (gtF x 0 = false ∧ Ieee.single.sub 0 x = some (abs32 x)) := by
  obtain ⟨s, m, e, h0, h1, h2, h3, h4, h5, h6, h7⟩ := read32_parts hx
  have hz : Ieee.single.read 0 = .number false 0 (-149) := by decide +kernel
  have hgt : gtF x 0 = (!s && decide (m ≠ 0)) := by
    unfold gtF Ieee.Format.order
    rw [h0, hz]
    simp only [Ieee.Datum.order, Ieee.signed]
    have hmn : min e (-149) = -149 := by omega
    rw [hmn]
    by_cases hm : m = 0
    · subst hm; cases s <;> simp
    · have hp : 0 < m <<< (e - -149).toNat := by rw [Nat.shiftLeft_eq]; exact Nat.mul_pos (by omega) (Nat.two_pow_pos _)
      generalize m <<< (e - -149).toNat = K at hp
      cases s
      · have : compare (K : Int) 0 = .gt := by rw [Int.compare_eq_gt]; omega
        simp [hm, this]
      · have : compare (-(K : Int)) 0 = .lt := by rw [Int.compare_eq_lt]; omega
        simp [this]
  by_cases hg : gtF x 0 = true
  · refine .inl ⟨hg, ?_⟩
    rw [hgt] at hg
    simp only [Bool.and_eq_true, Bool.not_eq_true'] at hg
    rw [h1] at hg
    have : x / 2147483648 % 2 ≠ 1 := by have := hg.1; simpa using this
    unfold abs32
    omega
  · rw [Bool.not_eq_true] at hg
    refine .inr ⟨hg, ?_⟩
    rw [hgt] at hg
    unfold Ieee.Format.sub
    rw [h0, hz]
    simp only [Ieee.Datum.opposite, Ieee.Datum.sum, Option.map_some, Option.some.injEq]
    have hmn : min (-149) e = -149 := by omega
    rw [hmn]
    show Ieee.single.nearest _ _ _ = _
    by_cases hm : m = 0
    · subst hm
      have h8 := h7 (by omega)
      subst h8
      have : abs32 x = 0 := by omega
      rw [this]
      cases s <;> decide +kernel
    · have hs : s = true := by cases s <;> simp_all
      subst hs
      have hp : 0 < m <<< (e - -149).toNat := by rw [Nat.shiftLeft_eq]; exact Nat.mul_pos (by omega) (Nat.two_pow_pos _)
      have hb2 := nearest_back hx h0 false (e - -149).toNat (-149) (by omega)
      have hsum : Ieee.signed false 0 (-149 - -149 : Int).toNat + Ieee.signed (!true) m (e - -149).toNat = ((m <<< (e - -149).toNat : Nat) : Int) := by simp [Ieee.signed]
      rw [hsum]
      obtain ⟨K, hK⟩ : ∃ K, K = m <<< (e - -149).toNat := ⟨_, rfl⟩
      rw [← hK] at hp hb2 ⊢
      have hd : (if (K : Int) = 0 then false && !true else decide ((K : Int) < 0)) = false := by
        have h0 : ¬ (K : Int) = 0 := by omega
        rw [if_neg h0]; simp
      rw [hd, Int.natAbs_natCast, hb2]
      rfl

theorem leq_of {x : Nat} (hx : fin32 x = true) (h : gtF x 0 = false) : (FloatKind.f32.format.order x 0 == some .lt || FloatKind.f32.format.order x 0 == some .eq) = true := by
  show (Ieee.single.order x 0 == some .lt || Ieee.single.order x 0 == some .eq) = true
  obtain ⟨o, ho⟩ := order_fin hx fin0
  unfold gtF at h
  rw [ho] at h ⊢
  cases o <;> simp_all
theorem nleq_of {x : Nat} (h : gtF x 0 = true) : (FloatKind.f32.format.order x 0 == some .lt || FloatKind.f32.format.order x 0 == some .eq) = false := by
  rw [gt_gt h]; rfl

theorem l02Size_any (x : Nat) (hx : fin32 x = true) (hb : x < 4294967296) (w : World) : Calls Try.prog 74 #[.float .f32 x] w fun e w' => e = .returned (.float .f32 (abs32 x)) ∧ w' = w := by
  rcases size_leq hx hb with ⟨h1, h2⟩ | ⟨h1, h2⟩
  · have h3 := nleq_of h1
    rw [h2]
    clear h1 h2 hx
    go_enter Try.func74, Try.ntmps74
    go_wp2_with fail
    go_ret
    exact ⟨rfl, rfl⟩
  · have h3 := leq_of hx h1
    have hs := fun (W : World) => run_sub_some (P := Try.prog) 98 0 x _ h2 W
    clear h1 h2 hx
    go_enter Try.func74, Try.ntmps74
    go_wp2_with fail
    go_ret
    exact ⟨rfl, rfl⟩

/-! ### The row, as a slice -/
set_option maxHeartbeats 2000000 in
theorem row_at (V i n c b off : Nat) (v2 v3 : Value) (w : World) (hv1 : 1 ≤ V) (hv8 : V ≤ 8) (hi8 : i < 8) (hmm : i * V + V ≤ n) (hx64 : n ≤ 64) (hc1a : n ≤ c) (hc1b : c ≤ maxLen) :
    Calls Try.prog 78 #[.agg #[.int .i64 V, .slice (some ⟨b, off, none⟩) n c, v2, v3], .int .i64 i] w fun e w' => e = .returned (.slice (some ⟨b, off + i * V, none⟩) V (c - i * V)) ∧ Below w.heap.size w w' := by
  obtain ⟨m, hm⟩ : ∃ m, m = i * V := ⟨_, rfl⟩
  have e1 : (i : Int) * (V : Int) = (m : Int) := by rw [hm]; push_cast; rfl
  have e2 : ((i : Int) + 1) * (V : Int) = (m : Int) + (V : Int) := by rw [Int.add_mul, e1, Int.one_mul]
  rw [← hm] at hmm ⊢
  unfold maxLen at hc1b
  clear hm
  go_enter Try.func78, Try.ntmps78
  go_wp2_with fail
  go_ret
  refine ⟨?_, by (repeat' first | exact Below.refl _ _ | assumption | refine Below.alloc ?_ ?_ _ | refine Below.setCell ?_ ?_ _ | refine Below.drew ?_ | (simp; done) | (simp; omega))⟩
  simp
  done

set_option maxHeartbeats 2000000 in
theorem specRow_at (V i n c b off bb : Nat) (v2 v3 : Value) (w : World) (hk : Blk w bb 50 #[.int .i64 V, .slice (some ⟨b, off, none⟩) n c, v2, v3]) (hv1 : 1 ≤ V) (hv8 : V ≤ 8) (hi8 : i < 8) (hmm : i * V + V ≤ n) (hx64 : n ≤ 64) (hc1a : n ≤ c) (hc1b : c ≤ maxLen) :
    Calls Try.prog 73 #[.pointer (some ⟨bb, 0, none⟩), .int .i64 i] w fun e w' => e = .returned (.slice (some ⟨b, off + i * V, none⟩) V (c - i * V)) ∧ ∃ m, w' = w.drewN m := by
  obtain ⟨m, hm⟩ : ∃ m, m = i * V := ⟨_, rfl⟩
  have e1 : (i : Int) * (V : Int) = (m : Int) := by rw [hm]; push_cast; rfl
  have e2 : ((i : Int) + 1) * (V : Int) = (m : Int) + (V : Int) := by rw [Int.add_mul, e1, Int.one_mul]
  rw [← hm] at hmm ⊢
  unfold maxLen at hc1b
  clear hm
  have d0 : w.cell? ⟨bb, 0, none⟩ = some (.int .i64 V) := hk.cell 0 rfl
  have d1 : w.cell? ⟨bb, 1, none⟩ = some (.slice (some ⟨b, off, none⟩) n c) := hk.cell 1 rfl
  have w1 : IntKind.i64.wrap ((i : Int) * (V : Int)) = (m : Int) := by rw [e1]; exact IntWalk.i64_in _ (by omega)
  have w2 : IntKind.i64.wrap (((i : Int) + 1) * (V : Int)) = (m : Int) + (V : Int) := by rw [e2]; exact IntWalk.i64_in _ (by omega)
  have w3 : IntKind.i64.wrap ((i : Int) + 1) = (i : Int) + 1 := IntWalk.i64_in _ (by omega)
  have g1 : (0 : Int) ≤ (m : Int) := by omega
  have g2 : (m : Int) ≤ (m : Int) + (V : Int) := by omega
  have g3 : (m : Int) + (V : Int) ≤ (c : Int) := by omega
  have g4 : ((m : Int) + (V : Int)).toNat = m + V := by omega
  clear e1 e2 hk
  go_enter Try.func73, Try.ntmps73
  go_wp2_with fail
  go_quiet (fail)
  clear w1 w2 w3 g4
  go_wp2_with fail
  go_ret
  refine ⟨?_, nq, rfl⟩
  simp
  done

/-! ### Scaled -/
def mostR (r : RowsD) (i : Nat) : Nat := mostK (rowO r i) r.gains.length
def posR (r : RowsD) (i : Nat) : Bool := gtF (mostR r i) 0
def scN (r : RowsD) (j : Nat) : Nat := if posR r (j / r.gains.length) = true then divV (r.nums.getD j 0) (mostR r (j / r.gains.length)) else r.nums.getD j 0
def stN (r : RowsD) (n : Nat) : List Nat := (List.range r.nums.length).map fun j => if j < n then scN r j else r.nums.getD j 0
def scB (r : RowsD) (i : Nat) : Nat := if posR r i = true then divV (r.bnds.getD i 0) (mostR r i) else r.bnds.getD i 0
def stB (r : RowsD) (n : Nat) : List Nat := (List.range r.bnds.length).map fun i => if i < n then scB r i else r.bnds.getD i 0
def scR (r : RowsD) : RowsD := ⟨r.vars, stN r r.nums.length, stB r r.bnds.length, r.gains⟩
noncomputable def scaleOk (r : RowsD) : Bool := validR r && validR (scR r)
noncomputable def scaleV (r : RowsD) : RowsD := if scaleOk r = true then scR r else zeroR

theorem stN_len (r : RowsD) (n : Nat) : (stN r n).length = r.nums.length := by simp [stN]
theorem stB_len (r : RowsD) (n : Nat) : (stB r n).length = r.bnds.length := by simp [stB]
theorem map_getD (xs : List Nat) : (List.range xs.length).map (fun j => xs.getD j 0) = xs := by
  refine List.ext_getElem (by simp) fun i h1 h2 => ?_
  simp [h2]
theorem stN_zero (r : RowsD) : stN r 0 = r.nums := by
  unfold stN
  simp only [Nat.not_lt_zero, if_false]
  exact map_getD _
theorem stB_zero (r : RowsD) : stB r 0 = r.bnds := by
  unfold stB
  simp only [Nat.not_lt_zero, if_false]
  exact map_getD _
theorem step_set {n j : Nat} (f g : Nat → Nat) (h : j < n) : ((List.range n).map fun i => if i < j then f i else g i).set j (f j) = (List.range n).map fun i => if i < j + 1 then f i else g i := by
  refine List.ext_getElem (by simp) fun i h1 h2 => ?_
  rw [List.getElem_set]
  simp only [List.getElem_map, List.getElem_range]
  by_cases e : j = i
  · subst e; simp
  · rw [if_neg e]
    by_cases q : i < j
    · rw [if_pos q, if_pos (by omega)]
    · rw [if_neg q, if_neg (by omega)]
theorem stN_set (r : RowsD) {j : Nat} (h : j < r.nums.length) : (stN r j).set j (scN r j) = stN r (j + 1) := step_set _ _ h
theorem stB_set (r : RowsD) {j : Nat} (h : j < r.bnds.length) : (stB r j).set j (scB r j) = stB r (j + 1) := step_set _ _ h
theorem stN_at (r : RowsD) {j n : Nat} (h : j < r.nums.length) (hn : n ≤ j) : (stN r n).getD j 0 = r.nums.getD j 0 := by
  unfold stN
  simp [h, show ¬ j < n by omega]
theorem stB_at (r : RowsD) {j n : Nat} (h : j < r.bnds.length) (hn : n ≤ j) : (stB r n).getD j 0 = r.bnds.getD j 0 := by
  unfold stB
  simp [h, show ¬ j < n by omega]
theorem div_row {V i k : Nat} (hk : k < V) : (i * V + k) / V = i := by
  rw [Nat.mul_comm, Nat.mul_add_div (by omega), Nat.div_eq_of_lt hk, Nat.add_zero]
theorem stN_skip {r : RowsD} {i : Nat} (h : posR r i = false) : stN r ((i + 1) * r.gains.length) = stN r (i * r.gains.length) := by
  unfold stN
  refine List.map_congr_left fun j _ => ?_
  by_cases h1 : j < i * r.gains.length
  · rw [if_pos h1, if_pos (by rw [Nat.succ_mul]; omega)]
  · rw [if_neg h1]
    by_cases h2 : j < (i + 1) * r.gains.length
    · rw [if_pos h2]
      have : j / r.gains.length = i := by
        rw [Nat.succ_mul] at h2
        obtain ⟨k, rfl⟩ : ∃ k, j = i * r.gains.length + k := ⟨j - i * r.gains.length, by omega⟩
        exact div_row (by omega)
      unfold scN
      rw [this, h]
      rfl
    · rw [if_neg h2]
theorem scN_pos {r : RowsD} {i k : Nat} (h : posR r i = true) (hk : k < r.gains.length) : scN r (i * r.gains.length + k) = divV (r.nums.getD (i * r.gains.length + k) 0) (mostR r i) := by
  unfold scN
  rw [div_row hk, h]
  rfl
theorem scB_pos {r : RowsD} {i : Nat} (h : posR r i = true) : scB r i = divV (r.bnds.getD i 0) (mostR r i) := by unfold scB; rw [h]; rfl
theorem stB_skip {r : RowsD} {i : Nat} (h : posR r i = false) : stB r (i + 1) = stB r i := by
  unfold stB
  refine List.map_congr_left fun j _ => ?_
  by_cases h1 : j < i
  · rw [if_pos h1, if_pos (by omega)]
  · rw [if_neg h1]
    by_cases h2 : j < i + 1
    · obtain rfl : j = i := by omega
      rw [if_pos h2]; unfold scB; rw [h]; rfl
    · rw [if_neg h2]
theorem rowO_at {r : RowsD} {i k : Nat} (hk : k < r.gains.length) : (rowO r i).getD k 0 = r.nums.getD (i * r.gains.length + k) 0 := by
  unfold rowO
  rw [List.getD_eq_getElem?_getD, List.getElem?_take_of_lt hk, List.getElem?_drop, List.getD_eq_getElem?_getD]
theorem scaleV_cnt (r : RowsD) : cntR (scaleV r) ≤ 80 := by
  unfold scaleV
  split
  · rename_i h
    have hv : ValR (scR r) := by
      unfold scaleOk at h
      simp only [Bool.and_eq_true] at h
      exact validR_iff.1 h.2
    have h1 := hv.nl
    have h2 := mulR hv.v1 hv.v8 hv.b8
    have h3 := hv.gl
    have h4 := hv.v8
    have h5 := hv.b8
    unfold cntR
    omega
  · simp [zeroR, cntR]

end Go.Proofs.Ytkkcgclliomocaa

namespace Go.Proofs.Ytkkcgclliomocaa
open Go.RowKit

theorem RdF.cellAt {w : World} {b off n c : Nat} {xs : List Nat} (h : RdF w (.slice (some ⟨b, off, none⟩) n c) xs) {j : Nat} (hj : j < xs.length) : w.cell? ⟨b, off + j, none⟩ = some (.float .f32 (xs.getD j 0)) := by
  obtain ⟨b', off', e, _, hc⟩ := h.at hj
  simp only [Option.some.injEq, Addr.mk.injEq, and_true] at e
  obtain ⟨rfl, rfl⟩ := e
  exact hc
theorem row_atB (V i n c b off m o : Nat) (v2 v3 : Value) (w : World) (hm : m = i * V) (ho : o = off + m) (hv1 : 1 ≤ V) (hv8 : V ≤ 8) (hi8 : i < 8) (hmm : m + V ≤ n) (hx64 : n ≤ 64) (hc1a : n ≤ c) (hc1b : c ≤ maxLen) :
    Calls Try.prog 78 #[.agg #[.int .i64 V, .slice (some ⟨b, off, none⟩) n c, v2, v3], .int .i64 i] w fun e w' => e = .returned (.slice (some ⟨b, o, none⟩) V (c - m)) ∧ Below w.heap.size w w' := by
  subst hm ho
  exact row_at V i n c b off v2 v3 w hv1 hv8 hi8 hmm hx64 hc1a hc1b
theorem RdF.caps {w : World} {ad : Addr} {n c : Nat} {xs : List Nat} (h : RdF w (.slice (some ad) n c) xs) : n ≤ c ∧ c ≤ maxLen := by
  rcases h with ⟨e, _⟩ | ⟨ad', cap', e, q1, q2, _⟩
  · cases e
  · simp only [Value.slice.injEq] at e
    obtain ⟨_, rfl, rfl⟩ := e
    exact ⟨q1, q2⟩
theorem OwnR.apart {lo hi : Nat} {w : World} {x0 x y z : Value} {r : RowsD} (h : OwnR lo hi w (.agg #[x0, x, y, z]) r) : (∀ g, x.ownBlock = some g → y.ownBlock ≠ some g) ∧ (∀ g, x.ownBlock = some g → z.ownBlock ≠ some g) ∧ (∀ g, y.ownBlock = some g → z.ownBlock ≠ some g) := by
  obtain ⟨va, vb, vc, e, h1, h2, h3, d⟩ := h
  simp only [Value.agg.injEq, Array.mk.injEq, List.cons.injEq, and_true] at e
  obtain ⟨_, rfl, rfl, rfl⟩ := e
  exact d
theorem ownF_cell {w : World} {lo g n cap j : Nat} {xs : List Nat} (h : w.ownsRow lo 98 1 (.slice (some ⟨g, 0, none⟩) n cap) n (xs.map F32)) (hn : xs.length = n) (hj : j < n) : w.cell? ⟨g, j, none⟩ = some (.float .f32 (xs.getD j 0)) := by
  have := h.cellAt j (by omega)
  rw [this, List.getElem?_map, List.getD_eq_getElem?_getD, List.getElem?_eq_getElem (by omega)]
  rfl
theorem run_max {P : Program} {mo a r : Nat} (ats : Array TypeId) (ty : TypeId) (hr : mxF mo a = r) (hm : fin32 mo = true) (ha : fin32 a = true) (hl : mo < 2147483648) (W : World) :
    (Builtin.max_ ats ty #[.float .f32 mo, .float .f32 a]).run P W = .ok (.float .f32 r) W := by
  subst hr
  unfold mxF
  by_cases hg : gtF a mo = true
  · have og := gt_lt hg
    rw [if_pos hg]
    simp [Builtin.max_, Builtin.max2, og]
  · rw [if_neg hg]
    rw [Bool.not_eq_true] at hg
    have hneg := pos_neg hl hm
    rcases not_gt ha hm hg with og | og
    · simp [Builtin.max_, Builtin.max2, og]
    · simp [Builtin.max_, Builtin.max2, og, hneg]
theorem ownF_set {w : World} {lo g n cap : Nat} {xs ys : List Nat} (h : w.ownsRow lo 98 1 (.slice (some ⟨g, 0, none⟩) n cap) n (xs.map F32)) (j : Nat) (z : Nat) (hy : xs.set j z = ys) : (w.setCell ⟨g, j, none⟩ (.float .f32 z)).ownsRow lo 98 1 (.slice (some ⟨g, 0, none⟩) n cap) n (ys.map F32) := by
  have h1 := (h.stored j (.float .f32 z)).1
  rw [← hy, List.map_set]
  exact h1

set_option maxHeartbeats 4000000 in
set_option maxRecDepth 4000 in
theorem scaleI_any (v : Value) (r : RowsD) (w : World) (h : RdR w v r) :
    Calls Try.prog 29 #[v] w fun e w' => ∃ v', e = .returned (.tuple #[v', .bool (scaleOk r)]) ∧ OwnR w.heap.size w'.heap.size w' v' (scaleV r) ∧ Below w.heap.size w w' := by
  obtain ⟨a1, c1, a2, c2, a3, c3, rfl⟩ := h.shape
  obtain ⟨n0, x1, x2, x3⟩ := r
  simp only at h ⊢
  obtain ⟨R, hR⟩ : ∃ R : RowsD, R = ⟨n0, x1, x2, x3⟩ := ⟨_, rfl⟩
  have hR1 : R.nums = x1 := by rw [hR]
  have hR2 : R.bnds = x2 := by rw [hR]
  have hR3 : R.gains = x3 := by rw [hR]
  have hR0 : R.vars = n0 := by rw [hR]
  rw [← hR] at h ⊢
  obtain ⟨OK, hOK⟩ : ∃ OK : Bool, OK = scaleOk R := ⟨_, rfl⟩
  obtain ⟨AV, hAV⟩ : ∃ AV : RowsD, AV = scaleV R := ⟨_, rfl⟩
  rw [← hOK, ← hAV]
  obtain ⟨N1, hN1⟩ : ∃ N1, N1 = x1.length := ⟨_, rfl⟩
  obtain ⟨N2, hN2⟩ : ∃ N2, N2 = x2.length := ⟨_, rfl⟩
  obtain ⟨V, hV⟩ : ∃ V, V = x3.length := ⟨_, rfl⟩
  rw [← hN1, ← hN2, ← hV] at h ⊢
  have HP := Lib.hid h
  have HOK := Lib.hid hOK
  have HAV := Lib.hid hAV
  have HN1 := Lib.hid (hN1.trans (by rw [hR1]) : N1 = R.nums.length)
  have HN2 := Lib.hid (hN2.trans (by rw [hR2]) : N2 = R.bnds.length)
  have HV := Lib.hid (hV.trans (by rw [hR3]) : V = R.gains.length)
  have HR0 := Lib.hid hR0
  clear h hOK hAV hN1 hN2 hV hR hR0 hR1 hR2 hR3
  go_enter Try.func29, Try.ntmps29
  go_upto_region 1 with fail
  refine wp_at fun W hW => ?_
  have HB := Lib.hid (show Below w.heap.size w W by subst hW; (repeat' first | exact Below.refl _ _ | assumption | refine Below.alloc ?_ ?_ _ | refine Below.setCell ?_ ?_ _ | refine Below.drew ?_ | (simp; done) | (simp; omega)))
  have HK := Lib.hid (show Blk W w.heap.size 50 #[.int .i64 n0, .slice a1 N1 c1, .slice a2 N2 c2, .slice a3 V c3] by subst hW; exact (Blk.new _ _ _).alloc _)
  have HL := Lib.hid (show Blk W (w.heap.size + 1) 50 #[.int .i64 0, .slice none 0 0, .slice none 0 0, .slice none 0 0] by subst hW; exact Blk.newB _ _ _ _ (by simp))
  clear hW
  have hl1 := HL.out.lt
  have HPW := Lib.hid (HP.out.up HB.out (Nat.le_refl _))
  have d0 := HK.out.cell 0 rfl
  have d1 := HK.out.cell 1 rfl
  have d2 := HK.out.cell 2 rfl
  have d3 := HK.out.cell 3 rfl
  go_wp2_with fail
  refine (ValidRows_any _ R W HPW.out).mono ?_
  rintro e wc ⟨rfl, hbw⟩
  have HBw := Lib.hid hbw
  have hsz := hbw.size
  have HLc := Lib.hid (HL.out.below hbw HL.out.lt)
  have HKc := Lib.hid (HK.out.below hbw HK.out.lt)
  clear hbw d0 d1 d2 d3
  by_cases hv : validR R = true
  case neg =>
    rw [Bool.not_eq_true] at hv
    have HVN := Lib.hid hv
    rw [hv]
    clear hv
    have e0 := HLc.out.cell 0 rfl
    have e1 := HLc.out.cell 1 rfl
    have e2 := HLc.out.cell 2 rfl
    have e3 := HLc.out.cell 3 rfl
    have f0 := HLc.out.free 0
    have f1 := HLc.out.free 1
    have f2 := HLc.out.free 2
    have f3 := HLc.out.free 3
    go_wp2_with fail
    refine bodyPost_ret (v := .tuple #[.agg #[.int .i64 0, .slice none 0 0, .slice none 0 0, .slice none 0 0], .bool false]) (by simp [results, Try.results29, go_sem, *]) rfl ?_
    have hok : scaleOk R = false := by unfold scaleOk; rw [HVN.out]; rfl
    refine ⟨_, by rw [HOK.out, hok], ?_, ?_⟩
    · rw [HAV.out, scaleV, hok]; exact ownR_zero _ _ _
    · refine (HB.out.trans (HBw.out.mono HB.out.size)).trans (Kept.toBelow (S := (· = w.heap.size + 1)) ?_ (by omega) (by intro k h1 h2; omega))
      repeat' first | exact Kept.refl _ _ | refine Kept.setCell ?_ (.inr (by simp)) _
  have HVR := Lib.hid (validR_iff.1 hv)
  rw [hv]
  clear hv
  have HPc := Lib.hid (HP.out.up (HB.out.trans (HBw.out.mono HB.out.size)) (Nat.le_refl _))
  have hbo := boundR HP.out HVR.out
  rw [← HN1.out, ← HN2.out, ← HV.out] at hbo
  obtain ⟨hb64, hb8, hv8⟩ := hbo
  have hv1 : 1 ≤ V := by have h1 := HVR.out.v1; have h2 := HVR.out.gl; have h3 := HV.out; omega
  have hn2 : 1 ≤ N2 := by have h1 := HVR.out.b1; have h3 := HN2.out; omega
  have hn0 : n0 = (V : Int) := by have h2 := HVR.out.gl; have h3 := HV.out; have h4 := HR0.out; omega
  have hnl : N1 = N2 * V := by
    have h1 := HVR.out.nl
    rw [← HN1.out, ← HN2.out, HR0.out, hn0, Int.mul_comm] at h1
    exact_mod_cast h1
  subst hn0
  have HNL := Lib.hid hnl
  have hn1 : 1 ≤ N1 := by rw [hnl]; exact Nat.mul_pos hn2 hv1
  clear hnl
  have d0 := HKc.out.cell 0 rfl
  have d1 := HKc.out.cell 1 rfl
  have d2 := HKc.out.cell 2 rfl
  have d3 := HKc.out.cell 3 rfl
  go_upto_region 4 with (go_at_call 77; refine (ownRows_any _ R _ HPc.out (by have := HN1.out; have := HN2.out; have := HV.out; simp only [bulkR]; omega)).mono ?_; rintro e w1 ⟨v', rfl, ho, hb1⟩; obtain ⟨b1, k1, b2, k2, b3, k3, rfl⟩ := ho.rd.shape; rw [← HN1.out, ← HN2.out, ← HV.out, HR0.out] at ho ⊢; have HO := Lib.hid ho; have HB1 := Lib.hid hb1; have hs1 := hb1.size; clear ho hb1)
  refine wp_at fun W4 hW4 => ?_
  have HG := Lib.hid (show Blk W4 w1.heap.size 50 #[.int .i64 V, .slice b1 N1 k1, .slice b2 N2 k2, .slice b3 V k3] by subst hW4; exact Blk.newB _ _ _ _ (by simp))
  have HO4 := Lib.hid (show OwnR wc.heap.size w1.heap.size W4 (.agg #[.int .i64 V, .slice b1 N1 k1, .slice b2 N2 k2, .slice b3 V k3]) R by
    subst hW4; exact HO.out.up ((Below.refl _ _).alloc (Nat.le_refl _) _) (Nat.le_refl _))
  have HB4 := Lib.hid (show Below wc.heap.size wc W4 by subst hW4; exact HB1.out.alloc HB1.out.size _)
  have hs4 : w1.heap.size < W4.heap.size := HG.out.lt
  clear hW4 HO HB1 d0 d1 d2 d3
  obtain ⟨G, hGe⟩ : ∃ G, G = w1.heap.size := ⟨_, rfl⟩
  rw [← hGe] at HG HO4 hs4 hs1 ⊢
  clear hGe
  have o1 : W4.ownsRow wc.heap.size 98 1 (.slice b1 N1 k1) N1 ((stN R (0 * V)).map F32) := by have := HO4.out.parts.1.1; rw [← HN1.out] at this; rw [Nat.zero_mul, stN_zero]; exact this
  have o2 : W4.ownsRow wc.heap.size 98 1 (.slice b2 N2 k2) N2 ((stB R 0).map F32) := by have := HO4.out.parts.2.1.1; rw [← HN2.out] at this; rw [stB_zero]; exact this
  have o3 : W4.ownsRow wc.heap.size 98 1 (.slice b3 V k3) V (R.gains.map F32) := by have := HO4.out.parts.2.2.1; rw [← HV.out] at this; exact this
  obtain ⟨g1, rfl, hg1⟩ := owns_slice_some o1 hn1
  obtain ⟨g2, rfl, hg2⟩ := owns_slice_some o2 hn2
  obtain ⟨g3, rfl, hg3⟩ := owns_slice_some o3 hv1
  have hh1 : g1 < G := HO4.out.parts.1.2 g1 rfl
  have hh2 : g2 < G := HO4.out.parts.2.1.2 g2 rfl
  have hh3 : g3 < G := HO4.out.parts.2.2.2 g3 rfl
  have n12 : ¬ g1 = g2 := fun e => HO4.out.apart.1 g1 rfl (by rw [e]; rfl)
  have n13 : ¬ g1 = g3 := fun e => HO4.out.apart.2.1 g1 rfl (by rw [e]; rfl)
  have n23 : ¬ g2 = g3 := fun e => HO4.out.apart.2.2 g2 rfl (by rw [e]; rfl)
  have kc1 := (HO4.out.parts.1.rd).caps
  have kc2 := (HO4.out.parts.2.1.rd).caps
  obtain ⟨b, off, rfl, _, _⟩ := (show RdF wc (.slice a1 N1 c1) R.nums from HPc.out.parts.1).at (show 0 < R.nums.length by rw [← HN1.out]; exact hn1)
  have kca := (show RdF wc (.slice (some ⟨b, off, none⟩) N1 c1) R.nums from HPc.out.parts.1).caps
  have HO1 := Lib.hid o1
  have HO2 := Lib.hid o2
  have HO3 := Lib.hid o3
  have gc2 := HG.out.cell 2 rfl
  clear o1 o2 o3 HO4
  go_wp2_with fail
  clear gc2
  go_loopw [19] (fun iv wr => ∃ i : Nat, iv = .int .i64 i ∧ i ≤ N2 ∧ Hid (wr.ownsRow wc.heap.size 98 1 (.slice (some ⟨g1, 0, none⟩) N1 k1) N1 ((stN R (i * V)).map F32)) ∧ Hid (wr.ownsRow wc.heap.size 98 1 (.slice (some ⟨g2, 0, none⟩) N2 k2) N2 ((stB R i).map F32)) ∧ Hid (wr.ownsRow wc.heap.size 98 1 (.slice (some ⟨g3, 0, none⟩) V k3) V (R.gains.map F32)) ∧ Hid (Blk wr G 50 #[.int .i64 V, .slice (some ⟨g1, 0, none⟩) N1 k1, .slice (some ⟨g2, 0, none⟩) N2 k2, .slice (some ⟨g3, 0, none⟩) V k3]) ∧ Hid (Below wc.heap.size wc wr)) (fun iv _ => N2 - (intOf iv).toNat)
  case atStart => exact ⟨0, rfl, Nat.zero_le _, HO1, HO2, HO3, HG, HB4⟩
  case round =>
    clear HO1 HO2 HO3 HG HB4
    obtain ⟨i, rfl, hi, HO1, HO2, HO3, HG, HB4⟩ := hrel
    obtain ⟨wo, rfl⟩ : ∃ wo, wo = wr := ⟨wr, rfl⟩
    have hsw := HB4.out.size
    by_cases hlt : i < N2
    · have hltI : (i : Int) < (N2 : Int) := by omega
      obtain ⟨m, hm⟩ : ∃ m, m = i * V := ⟨_, rfl⟩
      have hmm : m + V ≤ N1 := by
        rw [hm, HNL.out, ← Nat.succ_mul]
        exact Nat.mul_le_mul_right _ hlt
      have HM := Lib.hid hm
      rw [← hm] at HO1
      clear hm
      have HKw := Lib.hid (HKc.out.below HB4.out (show w.heap.size < wc.heap.size by omega))
      have d0 := HKw.out.cell 0 rfl
      have d1 := HKw.out.cell 1 rfl
      have d2 := HKw.out.cell 2 rfl
      have d3 := HKw.out.cell 3 rfl
      go_wp2_with fail
      refine (row_atB V i N1 c1 b off m (off + m) _ _ wo HM.out rfl hv1 hv8 (by omega) hmm hb64 kca.1 kca.2).mono ?_
      rintro e wA ⟨rfl, hbA⟩
      have HBA := Lib.hid (HB4.out.trans (hbA.mono hsw))
      have HOA1 := Lib.hid (owns_below HO1.out hbA (Nat.le_refl _))
      have HOA2 := Lib.hid (owns_below HO2.out hbA (Nat.le_refl _))
      have HOA3 := Lib.hid (owns_below HO3.out hbA (Nat.le_refl _))
      have HGA := Lib.hid (HG.out.below hbA HG.out.lt)
      have HROW := Lib.hid (show ∀ k, k < V → wA.cell? ⟨b, off + m + k, none⟩ = some (.float .f32 ((rowO R i).getD k 0)) from fun k hk => by
        have hp := (show RdF wA (.slice (some ⟨b, off, none⟩) N1 c1) R.nums from (HPc.out.up HBA.out (Nat.le_refl _)).parts.1).cellAt (j := m + k) (by rw [← HN1.out]; omega)
        rw [rowO_at (by rw [← HV.out]; exact hk), ← HV.out, ← HM.out, Nat.add_assoc]
        exact hp)
      have HRF := Lib.hid (rowO_fin HVR.out i)
      have HRL := Lib.hid (show (rowO R i).length = V by rw [rowO_len HVR.out (by rw [← HN2.out]; exact hlt), ← HV.out])
      have hsA := hbA.size
      clear hbA d0 d1 d2 d3
      go_wp2_with fail
      go_loop [6, 26] (fun mv kv => ∃ k : Nat, kv = .int .i64 k ∧ k ≤ V ∧ mv = .float .f32 (mostK (rowO R i) k)) (fun _ kv => V - (intOf kv).toNat)
      case atStart => exact ⟨0, rfl, Nat.zero_le _, rfl⟩
      case round =>
        obtain ⟨k, rfl, hk, rfl⟩ := hrel
        have HMK := Lib.hid (mostK_ok HRF.out k (by rw [HRL.out]; exact hk))
        by_cases hkV : k < V
        · have hkI : (k : Int) < (V : Int) := by omega
          have ck := HROW.out k hkV
          have HS := Lib.hid (show mostK (rowO R i) (k + 1) = mxF (mostK (rowO R i) k) (abs32 ((rowO R i).getD k 0)) from rfl)
          have HXF := Lib.hid (allFin_get HRF.out (i := k) (by rw [HRL.out]; exact hkV))
          obtain ⟨x, hx⟩ : ∃ x, x = (rowO R i).getD k 0 := ⟨_, rfl⟩
          obtain ⟨mo, hmo⟩ : ∃ mo, mo = mostK (rowO R i) k := ⟨_, rfl⟩
          rw [← hx] at ck HS HXF
          rw [← hmo] at HS HMK ⊢
          clear hx hmo
          have hmx := fun (W : World) => run_max (P := Try.prog) #[98, 98] 98 HS.out.symm HMK.out.1 (abs_fin HXF.out) HMK.out.2 W
          go_wp2_with (go_at_call 79; refine (absolute_any x HXF.out _).mono ?_; rintro e w' ⟨rfl, rfl⟩)
          go_round
          case rel => exact ⟨k + 1, by go_num, by omega, rfl⟩
          case measure => simp [intOf]; omega
        · obtain rfl : k = V := by omega
          obtain ⟨mo, hmo⟩ : ∃ mo, mo = mostK (rowO R i) k := ⟨_, rfl⟩
          rw [← hmo] at HMK ⊢
          have HMO := Lib.hid (show mostR R i = mo by unfold mostR; rw [← HV.out, hmo])
          clear hmo
          by_cases hp : posR R i = true
          · have HPOS := Lib.hid hp
            have hb := yes_gt_b (show gtF mo 0 = true by have := hp; unfold posR at this; rwa [HMO.out] at this)
            have HDG := Lib.hid (show gtF mo 0 = true by have := hp; unfold posR at this; rwa [HMO.out] at this)
            clear hp
            have d0 := HGA.out.cell 0 rfl
            have d1 := HGA.out.cell 1 rfl
            have d2 := HGA.out.cell 2 rfl
            have d3 := HGA.out.cell 3 rfl
            go_wp2_with fail
            refine (row_atB k i N1 k1 g1 0 m m _ _ wA HM.out (by omega) hv1 hv8 (by omega) hmm hb64 kc1.1 kc1.2).mono ?_
            rintro e wB ⟨rfl, hbB⟩
            have HBB := Lib.hid (HBA.out.trans (hbB.mono (by omega)))
            have HOB1 := Lib.hid (owns_below HOA1.out hbB (Nat.le_refl _))
            have HOB2 := Lib.hid (owns_below HOA2.out hbB (Nat.le_refl _))
            have HOB3 := Lib.hid (owns_below HOA3.out hbB (Nat.le_refl _))
            have HGB := Lib.hid (HGA.out.below hbB HGA.out.lt)
            clear hbB d0 d1 d2 d3 hb
            go_wp2_with fail
            go_loopw [41] (fun kv wq => ∃ j : Nat, kv = .int .i64 j ∧ j ≤ k ∧ Hid (wq.ownsRow wc.heap.size 98 1 (.slice (some ⟨g1, 0, none⟩) N1 k1) N1 ((stN R (m + j)).map F32)) ∧ Hid (wq.ownsRow wc.heap.size 98 1 (.slice (some ⟨g2, 0, none⟩) N2 k2) N2 ((stB R i).map F32)) ∧ Hid (wq.ownsRow wc.heap.size 98 1 (.slice (some ⟨g3, 0, none⟩) k k3) k (R.gains.map F32)) ∧ Hid (Blk wq G 50 #[.int .i64 k, .slice (some ⟨g1, 0, none⟩) N1 k1, .slice (some ⟨g2, 0, none⟩) N2 k2, .slice (some ⟨g3, 0, none⟩) k k3]) ∧ Hid (Below wc.heap.size wc wq)) (fun kv _ => k - (intOf kv).toNat)
            case atStart => exact ⟨0, rfl, Nat.zero_le _, HOB1, HOB2, HOB3, HGB, HBB⟩
            case round =>
              clear HOB1 HOB2 HOB3 HGB HBB
              obtain ⟨j, rfl, hj, HOB1, HOB2, HOB3, HGB, HBB⟩ := hrel
              obtain ⟨wp, rfl⟩ : ∃ wp, wp = wr := ⟨wr, rfl⟩
              have hsp := HBB.out.size
              by_cases hjk : j < k
              · have hjI : (j : Int) < (k : Int) := by omega
                have d0 := HGB.out.cell 0 rfl
                have d1 := HGB.out.cell 1 rfl
                have d2 := HGB.out.cell 2 rfl
                have d3 := HGB.out.cell 3 rfl
                have hmj : m + j < N1 := by omega
                have HXN := Lib.hid (allFin_get HVR.out.fn (i := m + j) (by rw [← HN1.out]; exact hmj))
                have hq := fun (W : World) => run_div_some (P := Try.prog) 98 (div_some HXN.out HMK.out.1 HDG.out) W
                have HSC := Lib.hid (show scN R (m + j) = divV (R.nums.getD (m + j) 0) mo by
                  have := scN_pos HPOS.out (k := j) (by rw [← HV.out]; exact hjk)
                  rw [← HV.out, ← HM.out, HMO.out] at this
                  exact this)
                obtain ⟨x, hx⟩ : ∃ x, x = R.nums.getD (m + j) 0 := ⟨_, rfl⟩
                have HXE := Lib.hid (show (stN R (m + j)).getD (m + j) 0 = x by rw [stN_at R (by rw [← HN1.out]; exact hmj) (Nat.le_refl _), hx])
                rw [← hx] at hq HSC
                obtain ⟨y, hy⟩ : ∃ y, y = divV x mo := ⟨_, rfl⟩
                rw [← hy] at hq HSC
                clear hx hy
                go_wp2_with (go_at_call 78; refine (row_atB k i N1 k1 g1 0 m m _ _ wp HM.out (by omega) hv1 hv8 (by omega) hmm hb64 kc1.1 kc1.2).mono ?_; rintro e wq ⟨rfl, hbq⟩; have HBQ := Lib.hid hbq; have HOQ := Lib.hid (owns_below HOB1.out hbq (Nat.le_refl _)); have cx := ownF_cell HOQ.out (by rw [stN_len, ← HN1.out]) hmj; rw [HXE.out] at cx; have fx := HOQ.out.frozenAt (m + j); clear hbq d0 d1 d2 d3)
                go_roundw
                case rel =>
                  refine ⟨j + 1, by go_num, by omega, Lib.hid ?_, Lib.hid ?_, Lib.hid ?_, Lib.hid ?_, Lib.hid ?_⟩
                  · exact ownF_set HOQ.out (m + j) y (by rw [← HSC.out, stN_set R (by rw [← HN1.out]; exact hmj)]; rfl)
                  · exact ownsRow_setCell_other (owns_below HOB2.out HBQ.out (Nat.le_refl _)) (by intro e; cases e; exact n12 rfl) _
                  · exact ownsRow_setCell_other (owns_below HOB3.out HBQ.out (Nat.le_refl _)) (by intro e; cases e; exact n13 rfl) _
                  · exact (HGB.out.below HBQ.out HGB.out.lt).other (show G ≠ g1 by omega) _
                  · exact (HBB.out.trans (HBQ.out.mono hsp)).setCell (show wc.heap.size ≤ g1 by omega) _
                case measure => simp [intOf]; omega
              · obtain rfl : j = k := by omega
                have d2 := HGB.out.cell 2 rfl
                have HXN := Lib.hid (least_fin (HVR.out.lb i (by rw [← HN2.out]; exact hlt)))
                have hq := fun (W : World) => run_div_some (P := Try.prog) 98 (div_some HXN.out HMK.out.1 HDG.out) W
                have HSC := Lib.hid (show scB R i = divV (R.bnds.getD i 0) mo by rw [scB_pos HPOS.out, HMO.out])
                obtain ⟨x, hx⟩ : ∃ x, x = R.bnds.getD i 0 := ⟨_, rfl⟩
                have cx := ownF_cell HOB2.out (by rw [stB_len, ← HN2.out]) hlt
                rw [stB_at R (by rw [← HN2.out]; exact hlt) (Nat.le_refl _), ← hx] at cx
                have fx := HOB2.out.frozenAt i
                rw [← hx] at hq HSC
                obtain ⟨y, hy⟩ : ∃ y, y = divV x mo := ⟨_, rfl⟩
                rw [← hy] at hq HSC
                clear hx hy
                go_wp2_with fail
                go_roundw
                case rel =>
                  refine ⟨i + 1, by go_num, by omega, Lib.hid ?_, Lib.hid ?_, Lib.hid ?_, Lib.hid ?_, Lib.hid ?_⟩
                  · rw [Nat.succ_mul, ← HM.out]
                    exact ownsRow_setCell_other HOB1.out (by intro e; cases e; exact n12 rfl) _
                  · exact ownF_set HOB2.out i y (by rw [← HSC.out, stB_set R (by rw [← HN2.out]; exact hlt)])
                  · exact ownsRow_setCell_other HOB3.out (by intro e; cases e; exact n23 rfl) _
                  · exact HGB.out.other (show G ≠ g2 by omega) _
                  · exact HBB.out.setCell (show wc.heap.size ≤ g2 by omega) _
                case measure => simp [intOf]; omega
          · rw [Bool.not_eq_true] at hp
            have HPOS := Lib.hid hp
            have hb := not_gt_b (show gtF mo 0 = false by have := hp; unfold posR at this; rwa [HMO.out] at this)
            clear hp
            go_wp2_with fail
            go_roundw
            case rel =>
              refine ⟨i + 1, by go_num, by omega, Lib.hid ?_, Lib.hid ?_, HOA3, HGA, HBA⟩
              · have := stN_skip HPOS.out
                rw [← HV.out, ← HM.out] at this
                rw [this]
                exact HOA1.out
              · rw [stB_skip HPOS.out]
                exact HOA2.out
            case measure => simp [intOf]; omega
    · obtain rfl : i = N2 := by omega
      have HOR := Lib.hid (show OwnR wc.heap.size G wo (.agg #[.int .i64 V, .slice (some ⟨g1, 0, none⟩) N1 k1, .slice (some ⟨g2, 0, none⟩) i k2, .slice (some ⟨g3, 0, none⟩) V k3]) (scR R) by
        refine ⟨_, _, _, by rw [show (scR R).vars = (V : Int) from HR0.out], ⟨?_, fun g hg => by cases hg; exact hh1⟩, ⟨?_, fun g hg => by cases hg; exact hh2⟩, ⟨?_, fun g hg => by cases hg; exact hh3⟩, fun g hg e => by cases hg; cases e; exact n12 rfl, fun g hg e => by cases hg; cases e; exact n13 rfl, fun g hg e => by cases hg; cases e; exact n23 rfl⟩
        · have := HO1.out
          rw [← HNL.out, HN1.out] at this
          show wo.ownsRow _ _ _ _ (stN R R.nums.length).length ((stN R R.nums.length).map F32)
          rw [stN_len, HN1.out]
          exact this
        · have := HO2.out
          rw [HN2.out] at this
          show wo.ownsRow _ _ _ _ (stB R R.bnds.length).length ((stB R R.bnds.length).map F32)
          rw [stB_len, HN2.out]
          exact this
        · have := HO3.out
          rw [HV.out] at this
          show wo.ownsRow _ _ _ _ R.gains.length (R.gains.map F32)
          rw [HV.out]
          exact this)
      have hgl := HG.out.lt
      have q0 := HG.out.cell 0 rfl
      have q1 := HG.out.cell 1 rfl
      have q2 := HG.out.cell 2 rfl
      have q3 := HG.out.cell 3 rfl
      go_wp2_with fail
      refine (checked_any _ (scR R) wo HOR.out.rd).mono ?_
      rintro e w9 ⟨rfl, hb9⟩
      have HB9 := Lib.hid (HB4.out.trans (hb9.mono HB4.out.size))
      have HO9 := Lib.hid (HOR.out.up hb9 (Nat.le_refl _))
      have hs9 := hb9.size
      have hs98 := HB9.out.size
      clear hb9 q0 q1 q2 q3 HO1 HO2 HO3
      have hlc := HLc.out.below HB9.out HLc.out.lt
      have e0 := hlc.cell 0 rfl
      have e1' := hlc.cell 1 rfl
      have e2' := hlc.cell 2 rfl
      have e3 := hlc.cell 3 rfl
      have f0 := hlc.free 0
      have f1 := hlc.free 1
      have f2 := hlc.free 2
      have f3 := hlc.free 3
      clear hlc
      have FIN := Lib.hid (show ∀ Wf, Kept (· = w.heap.size + 1) w9 Wf → Below w.heap.size w Wf from fun Wf hk => (HB.out.trans ((HBw.out.trans (HB9.out.mono hsz)).mono HB.out.size)).trans (hk.toBelow (by have := HB.out.size; omega) (by intro k h1 h2; omega)))
      by_cases hv : validR (scR R) = true
      · have HVV := Lib.hid hv
        rw [hv]
        clear hv
        go_wp2_with fail
        refine bodyPost_ret (v := .tuple #[.agg #[.int .i64 V, .slice (some ⟨g1, 0, none⟩) N1 k1, .slice (some ⟨g2, 0, none⟩) i k2, .slice (some ⟨g3, 0, none⟩) V k3], .bool true]) (by simp [results, Try.results29, go_sem, *]) rfl ?_
        have hok : scaleOk R = true := by unfold scaleOk; rw [validR_true HVR.out, HVV.out]; rfl
        suffices hF : ∀ Wf, Kept (· = w.heap.size + 1) w9 Wf → ∃ v', Ending.returned (.tuple #[.agg #[.int .i64 V, .slice (some ⟨g1, 0, none⟩) N1 k1, .slice (some ⟨g2, 0, none⟩) i k2, .slice (some ⟨g3, 0, none⟩) V k3], .bool true]) = .returned (.tuple #[v', .bool OK]) ∧ OwnR w.heap.size Wf.heap.size Wf v' AV ∧ Below w.heap.size w Wf by
          refine hF _ ?_
          repeat' first | with_reducible exact Kept.refl _ _ | refine Kept.setCell ?_ (.inr (by simp)) _
        intro Wf hK
        refine ⟨_, by rw [HOK.out, hok], ?_, FIN.out _ hK⟩
        rw [HAV.out, scaleV, if_pos hok]
        have hz := hK.size
        have hbz := HB.out.size
        exact (HO9.out.kept hK (by intro b h1 h2 h3; omega)).wide (by omega) (by omega)
      · rw [Bool.not_eq_true] at hv
        have HVV := Lib.hid hv
        rw [hv]
        clear hv
        go_wp2_with fail
        refine bodyPost_ret (v := .tuple #[.agg #[.int .i64 0, .slice none 0 0, .slice none 0 0, .slice none 0 0], .bool false]) (by simp [results, Try.results29, go_sem, *]) rfl ?_
        have hok : scaleOk R = false := by unfold scaleOk; rw [HVV.out]; simp
        refine ⟨_, by rw [HOK.out, hok], by rw [HAV.out, scaleV, hok]; exact ownR_zero _ _ _, FIN.out _ ?_⟩
        repeat' first | with_reducible exact Kept.refl _ _ | refine Kept.setCell ?_ (.inr (by simp)) _

end Go.Proofs.Ytkkcgclliomocaa

namespace Go.Proofs.Ytkkcgclliomocaa
open Go.ChangeShapes Go.WideShapes Go.ChangeAt Go.RowKit
set_option linter.unusedVariables false

def WfI (zs : List Int) : Prop := ∀ z ∈ zs, -9223372036854775808 ≤ z ∧ z ≤ 9223372036854775807

section
variable {H : Type} {enc : TypeId × Value → H} {w : World} {base : Nat} {spare : Nat → Bool} {held : Bool}

theorem cells_i64 : Try.prog.cellsOf 2 = 1 := by kernel_rfl
theorem wf_i64_bounds {z : Int} (h : (Lit.int .i64 z).wf = true) : -9223372036854775808 ≤ z ∧ z ≤ 9223372036854775807 := bounds_i64 h

set_option maxRecDepth 100000 in
theorem trod_I {fuel : Nat} {cs : List Value} {x : DataW H × List MemPlace} (h : DataW.trod enc Try.prog w base spare held fuel 65 cs = some x) : ∃ v zs, cs = [v] ∧ RdI w v zs ∧ WfI zs := by
  rcases open_ints Try.underlying65 Try.underlying2 cells_i64 h with ⟨rfl, _⟩ | ⟨a, len, cap, zs, rfl, _, hl, hm, hz, _, hcell, hwz⟩
  · exact ⟨_, [], rfl, .inl ⟨rfl, rfl⟩, by intro z hz; simp at hz⟩
  · have hle : len ≤ zs.length := by rw [hz]; split <;> omega
    refine ⟨_, zs.take len, rfl, .inr ⟨a, cap, by simp [Nat.min_eq_left hle], by simp; omega, hm, ?_⟩, fun z hz' => wf_i64_bounds (hwz z (List.mem_of_mem_take hz'))⟩
    intro i u hi
    have hlt : i < len := by
      have := (List.getElem?_eq_some_iff.1 hi).1
      simp at this; omega
    have h2 := hcell i (by omega)
    rw [h2, ← hi]
    simp [I64, List.getElem?_take, hlt, show i < zs.length by omega]

set_option maxRecDepth 100000 in
theorem arg_I {r : Reach} {b0 : Nat} {v : Value} {d : DataW H} {p : List MemPlace} (hv : Value.okWide Try.prog w r b0 65 v) (h : DataW.Trod enc Try.prog w base spare held 65 v d p) : ∃ zs, RdI w v zs ∧ WfI zs := by
  obtain ⟨a, len, cap, rfl⟩ := okWide_slice Try.underlying65 hv
  obtain ⟨fuel, hf⟩ := h
  obtain ⟨v, zs, e, h1, h2⟩ := trod_I hf
  simp [Value.cells] at e
  subst e
  exact ⟨zs, h1, h2⟩
theorem cells_one {a : Addr} {cs : List Value} (h : w.cells? base a 1 = some cs) : ∃ v, cs = [v] ∧ w.cell? a = some v := by
  simp [World.cells?] at h
  obtain ⟨_, h⟩ := h
  cases hc : w.cell? (a.add 0) with
  | none => rw [hc] at h; simp at h
  | some v =>
    rw [hc] at h
    simp at h
    exact ⟨v, h.symm, by simpa [Addr.add] using hc⟩

theorem exists_list {α : Type} (P : Nat → α → Prop) : ∀ (n : Nat), (∀ i, i < n → ∃ x, P i x) → ∃ l : List α, l.length = n ∧ ∀ (i : Nat) x, l[i]? = some x → P i x
  | 0, _ => ⟨[], rfl, by intro i x h; simp at h⟩
  | n + 1, h => by
    obtain ⟨l, hl, hp⟩ := exists_list P n (fun i hi => h i (by omega))
    obtain ⟨x, hx⟩ := h n (by omega)
    refine ⟨l ++ [x], by simp [hl], fun i y hy => ?_⟩
    by_cases hi : i < n
    · rw [List.getElem?_append_left (by omega)] at hy
      exact hp i y hy
    · have : i < (l ++ [x]).length := (List.getElem?_eq_some_iff.1 hy).1
      simp [hl] at this
      obtain rfl : i = n := by omega
      rw [List.getElem?_append_right (by omega), hl] at hy
      simp at hy
      exact hy ▸ hx
end
end Go.Proofs.Ytkkcgclliomocaa
