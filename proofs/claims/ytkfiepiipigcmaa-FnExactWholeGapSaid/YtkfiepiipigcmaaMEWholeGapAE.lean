/-
  FnExactWholeGap: texts joined: Left, LeftI, Flat, WholeM.
-/
import Derived.Test.YtkfiepiipigcmaaMEWholeGapAA
import Derived.Test.YtkfiepiipigcmaaMEWholeGapAB
import Derived.Test.YtkfiepiipigcmaaMEWholeGapAC
import Derived.Test.YtkfiepiipigcmaaMEWholeGapAD
namespace Go.Proofs.Ytkfiepiipigcmaa
open Go.RowKit

def rowO (r : RowsD) (i : Nat) : List Nat := (r.nums.drop (i * r.gains.length)).take r.gains.length
def leftO (r : RowsD) (x : List Nat) (i : Nat) : Option Nat := (dotO (rowO r i) x r.gains.length).bind fun s => Ieee.single.sub (r.bnds.getD i 0) s
noncomputable def fitX (r : RowsD) (x : List Nat) : Bool := validR r && (((x.length : Int) == r.vars) && allFin x)
noncomputable def leftOk (r : RowsD) (x : List Nat) : Bool := fitX r x && (List.range r.bnds.length).all fun i => finO (leftO r x i)
def leftL (r : RowsD) (x : List Nat) : List Nat := (List.range r.bnds.length).map fun i => (leftO r x i).getD 0
noncomputable def leftR (r : RowsD) (x : List Nat) : List Nat := if leftOk r x = true then leftL r x else []
def gainO (r : RowsD) (x : List Nat) : Option Nat := dotO r.gains x r.gains.length
noncomputable def gainOk (r : RowsD) (x : List Nat) : Bool := fitX r x && finO (gainO r x)
noncomputable def gainV (r : RowsD) (x : List Nat) : Nat := if gainOk r x = true then (gainO r x).getD 0 else 0

theorem sub_nanR {x y : Nat} (h : nan32 y = true) : Ieee.single.sub x y = none := by
  unfold nan32 at h
  unfold Ieee.Format.sub
  cases hr : Ieee.single.read y with
  | nan a b => cases Ieee.single.read x <;> simp [Ieee.Datum.sum, Ieee.Datum.opposite]
  | infinity s => rw [hr] at h; simp [Ieee.Datum.isNaN] at h
  | number s m e => rw [hr] at h; simp [Ieee.Datum.isNaN] at h
theorem left_some {r : RowsD} {x : List Nat} {i s q : Nat} (h : Mt (dotO (rowO r i) x r.gains.length) s) (hq : Ieee.single.sub (r.bnds.getD i 0) s = some q) : Mt (leftO r x i) q := by
  unfold leftO
  cases hd : dotO (rowO r i) x r.gains.length with
  | none => rw [hd] at h; rw [sub_nanR (h.2 rfl)] at hq; cases hq
  | some s' =>
    rw [hd] at h
    rw [h.of_some] at hq
    simp only [Option.bind_some, hq]
    exact Mt.some' q
theorem left_none {r : RowsD} {x : List Nat} {i s : Nat} (h : Mt (dotO (rowO r i) x r.gains.length) s) (hq : Ieee.single.sub (r.bnds.getD i 0) s = none) (q : Nat) (hn : nan32 q = true) : Mt (leftO r x i) q := by
  have : leftO r x i = none := by
    unfold leftO
    cases hd : dotO (rowO r i) x r.gains.length with
    | none => rfl
    | some s' =>
      rw [hd] at h
      rw [h.of_some] at hq
      simp only [Option.bind_some, hq]
  rw [this]
  exact ⟨fun r h => by simp at h, fun _ => hn⟩

theorem rowO_len {r : RowsD} (hv : ValR r) {i : Nat} (hi : i < r.bnds.length) : (rowO r i).length = r.gains.length := by
  have h1 := hv.gl
  have h2 := hv.nl
  rw [← h1] at h2
  have h3 : r.nums.length = r.gains.length * r.bnds.length := by exact_mod_cast h2
  have h4 : (i + 1) * r.gains.length ≤ r.nums.length := by rw [h3, Nat.mul_comm]; exact Nat.mul_le_mul_left _ hi
  rw [Nat.add_mul] at h4
  unfold rowO
  rw [List.length_take, List.length_drop]
  omega
theorem rowO_fin {r : RowsD} (hv : ValR r) (i : Nat) : allFin (rowO r i) = true := by
  have h := hv.fn
  unfold allFin at h ⊢
  rw [List.all_eq_true] at h ⊢
  intro y hy
  unfold rowO at hy
  exact h y (List.mem_of_mem_drop (List.mem_of_mem_take hy))

/-- A piece of a slice of numbers reads. -/
theorem rdF_piece {w : World} {b off n cap : Nat} {xs : List Nat} (h : RdF w (.slice (some ⟨b, off, none⟩) n cap) xs) (m k : Nat) (hk : m + k ≤ xs.length) (c2 : Nat) (hc : k ≤ c2) (hc2 : c2 ≤ maxLen) : RdF w (.slice (some ⟨b, off + m, none⟩) k c2) ((xs.drop m).take k) := by
  have hl : ((xs.drop m).take k).length = k := by rw [List.length_take, List.length_drop]; omega
  refine .inr ⟨⟨b, off + m, none⟩, c2, by rw [List.length_map, hl], by rw [List.length_map, hl]; exact hc, hc2, fun i u hi => ?_⟩
  simp only [List.getElem?_map, Option.map_eq_some_iff] at hi
  obtain ⟨q, hq, rfl⟩ := hi
  have hlt : i < k := by have := (List.getElem?_eq_some_iff.1 hq).1; omega
  rw [List.getElem?_take_of_lt hlt, List.getElem?_drop] at hq
  obtain ⟨b', off', e, _, hcell⟩ := h.at (i := m + i) (by omega)
  simp only [Option.some.injEq, Addr.mk.injEq, and_true] at e
  obtain ⟨rfl, rfl⟩ := e
  have e2 : xs.getD (m + i) 0 = q := by rw [List.getD_eq_getElem?_getD, hq]; rfl
  rw [e2] at hcell
  have : (⟨b, off + m, none⟩ : Addr).add i = ⟨b, off + (m + i), none⟩ := by
    unfold Addr.add
    by_cases hz : i = 0
    · simp [hz]
    · simp [hz, Nat.add_assoc]
  rw [this]
  exact hcell

set_option maxHeartbeats 2000000 in
theorem row_any (v : Value) (r : RowsD) (i : Nat) (w : World) (h : RdR w v r) (hv : ValR r) (hi : i < r.bnds.length) :
    Calls Try.prog 168 #[v, .int .i64 i] w fun e w' => ∃ u, e = .returned u ∧ RdF w' u (rowO r i) ∧ Below w.heap.size w w' := by
  obtain ⟨a1, c1, a2, c2, a3, c3, rfl⟩ := h.shape
  obtain ⟨p1, p2, p3⟩ := h.parts
  have hlen := rowO_len hv hi
  have hb8 := hv.b8
  have hv8 := hv.v8
  have hv1 := hv.v1
  have hgl := hv.gl
  have hnl := hv.nl
  have l1 := p1.len
  obtain ⟨n0, x1, x2, x3⟩ := r
  simp only at p1 p2 p3 hlen hb8 hv8 hv1 hgl hnl hi l1 ⊢
  unfold maxLen at l1
  obtain rfl := hgl
  obtain ⟨V, hV⟩ : ∃ V, V = x3.length := ⟨_, rfl⟩
  have hnl2 : x1.length = V * x2.length := by rw [hV]; exact_mod_cast hnl
  obtain ⟨m, hm⟩ : ∃ m, m = i * V := ⟨_, rfl⟩
  have hmm : m + V ≤ x1.length := by
    rw [hm, hnl2, Nat.mul_comm V, ← Nat.succ_mul]
    exact Nat.mul_le_mul_right _ hi
  have hx64 : x1.length ≤ 64 := by rw [hnl2]; exact Nat.le_trans (Nat.mul_le_mul (by omega) hb8) (by decide : 8 * 8 ≤ 64)
  have e1 : (i : Int) * (V : Int) = (m : Int) := by rw [hm]; push_cast; rfl
  have e2 : ((i : Int) + 1) * (V : Int) = (m : Int) + (V : Int) := by rw [Int.add_mul, e1, Int.one_mul]
  have P1 := Lib.hid p1
  have hnz : 0 < x1.length := by omega
  obtain ⟨b, off, rfl, hb0, _⟩ := p1.at hnz
  have hc1 : x1.length ≤ c1 ∧ c1 ≤ maxLen := by
    rcases p1 with ⟨e, _⟩ | ⟨ad, cap', e, q1, q2, _⟩
    · cases e
    · simp only [Value.slice.injEq] at e
      obtain ⟨_, _, rfl⟩ := e
      simpa using And.intro q1 q2
  obtain ⟨hc1a, hc1b⟩ := hc1
  have HC := Lib.hid hc1b
  unfold maxLen at hc1b
  have HV := Lib.hid hV
  have HM := Lib.hid hm
  rw [← hV] at hv8 hv1 ⊢
  have hi8 : i < 8 := by omega
  clear h p1 p2 p3 hlen hnl hnl2 hm hV
  go_enter Try.func168, Try.ntmps168
  go_wp2_with fail
  go_ret
  refine ⟨_, rfl, ?_, by (repeat' first | exact Below.refl _ _ | assumption | refine Below.alloc ?_ ?_ _ | refine Below.setCell ?_ ?_ _ | refine Below.drew ?_ | (simp; done) | (simp; omega))⟩
  simp
  have hb : Below w.heap.size w (w.alloc (.cells #[.int .i64 V, .slice (some ⟨b, off, none⟩) x1.length c1, .slice a2 x2.length c2, .slice a3 V c3] 67)) := (Below.refl _ _).alloc (Nat.le_refl _) _
  have hp := rdF_piece (P1.out.up hb (Nat.le_refl _)) m V hmm (c1 - m) (by omega) (by have := HC.out; omega)
  unfold rowO
  simp only
  rw [← HV.out, ← HM.out]
  exact hp

/-- The post of what returns a number and whether it is one. -/
def NumPost (q : Bool) (s : Nat) (B : Nat) (w : World) (e : Ending) (w' : World) : Prop := e = .returned (.tuple #[.float .f32 s, .bool q]) ∧ Below B w w'

set_option maxHeartbeats 2000000 in
theorem implGain_any (v : Value) (r : RowsD) (u : Value) (x : List Nat) (w : World) (h : RdR w v r) (hu : RdF w u x) :
    Calls Try.prog 91 #[v, u] w (NumPost (gainOk r x) (gainV r x) w.heap.size w) := by
  obtain ⟨a1, c1, a2, c2, a3, c3, rfl⟩ := h.shape
  obtain ⟨a, c, rfl⟩ := hu.shape
  obtain ⟨p1, p2, p3⟩ := h.parts
  have HP := Lib.hid h
  have HU := Lib.hid hu
  have H3 := Lib.hid p3
  obtain ⟨n0, x1, x2, x3⟩ := r
  simp only at HP H3 ⊢
  clear h hu p1 p2 p3
  go_enter Try.func91, Try.ntmps91
  go_wp2_with fail
  refine Calls.at fun W hW => ?_
  have hb := Lib.hid (show Below w.heap.size w W by subst hW; (repeat' first | exact Below.refl _ _ | assumption | refine Below.alloc ?_ ?_ _ | refine Below.setCell ?_ ?_ _ | refine Below.drew ?_ | (simp; done) | (simp; omega)))
  have hk := Lib.hid (show Blk W w.heap.size 67 #[.int .i64 n0, .slice a1 x1.length c1, .slice a2 x2.length c2, .slice a3 x3.length c3] by subst hW; exact Blk.new _ _ _)
  clear hW
  refine (ValidRows_any _ ⟨n0, x1, x2, x3⟩ W (HP.out.up hb.out (Nat.le_refl _))).mono ?_
  rintro e w1 ⟨rfl, hb1⟩
  have HB1 := Lib.hid (hb.out.trans (hb1.mono hb.out.size))
  have HK1 := Lib.hid (hk.out.below hb1 hk.out.lt)
  clear hb1 hb hk
  by_cases hv : validR ⟨n0, x1, x2, x3⟩ = true
  case neg =>
    rw [Bool.not_eq_true] at hv
    have HNO := Lib.hid (show gainOk ⟨n0, x1, x2, x3⟩ x = false by unfold gainOk fitX; rw [hv]; rfl)
    have HNV := Lib.hid (show gainV ⟨n0, x1, x2, x3⟩ x = 0 by unfold gainV; rw [HNO.out]; rfl)
    rw [hv]
    clear hv
    go_wp2_with fail
    go_ret2
    exact ⟨by rw [HNO.out, HNV.out]; rfl, HB1.out⟩
  have HV := Lib.hid (validR_iff.1 hv)
  have HVB := Lib.hid hv
  rw [hv]
  clear hv
  have d0 : w1.cell? ⟨w.heap.size, 0, none⟩ = some (.int .i64 n0) := HK1.out.cell 0 rfl
  have d1 : w1.cell? ⟨w.heap.size, 1, none⟩ = some (.slice a1 x1.length c1) := HK1.out.cell 1 rfl
  have d2 : w1.cell? ⟨w.heap.size, 2, none⟩ = some (.slice a2 x2.length c2) := HK1.out.cell 2 rfl
  have d3 : w1.cell? ⟨w.heap.size, 3, none⟩ = some (.slice a3 x3.length c3) := HK1.out.cell 3 rfl
  go_wp2_with fail
  refine (isX_any _ ⟨n0, x1, x2, x3⟩ _ x w1 (HP.out.up HB1.out (Nat.le_refl _)) (HU.out.up HB1.out (Nat.le_refl _))).mono ?_
  rintro e w2 ⟨rfl, hb2⟩
  simp only
  have HB2 := Lib.hid (HB1.out.trans (hb2.mono HB1.out.size))
  have HK2 := Lib.hid (HK1.out.below hb2 HK1.out.lt)
  clear hb2 d0 d1 d2 d3
  by_cases hx : (((x.length : Int) == n0) && allFin x) = true
  case neg =>
    rw [Bool.not_eq_true] at hx
    have HNO := Lib.hid (show gainOk ⟨n0, x1, x2, x3⟩ x = false by unfold gainOk fitX; simp only [hx, Bool.and_false, Bool.false_and])
    have HNV := Lib.hid (show gainV ⟨n0, x1, x2, x3⟩ x = 0 by unfold gainV; rw [HNO.out]; rfl)
    rw [hx]
    clear hx
    go_wp2_with fail
    go_ret2
    exact ⟨by rw [HNO.out, HNV.out]; rfl, HB2.out⟩
  have HFX := Lib.hid (show fitX ⟨n0, x1, x2, x3⟩ x = true by unfold fitX; rw [HVB.out]; exact hx)
  rw [hx]
  simp only [Bool.and_eq_true, beq_iff_eq] at hx
  have HX := Lib.hid hx
  have HXL := Lib.hid (show x3.length = x.length by have h1 := HV.out.gl; have h2 := hx.1; simp only at h1; omega)
  clear hx
  have d3 : w2.cell? ⟨w.heap.size, 3, none⟩ = some (.slice a3 x3.length c3) := HK2.out.cell 3 rfl
  go_wp2_with fail
  refine (dot_any _ _ x3 x w2 (H3.out.up HB2.out (Nat.le_refl _)) (HU.out.up HB2.out (Nat.le_refl _)) (by have := HXL.out; omega) HV.out.fg HX.out.2).mono ?_
  rintro e w3 ⟨s, rfl, hs, m3, rfl⟩
  have HS := Lib.hid (show Mt (gainO ⟨n0, x1, x2, x3⟩ x) s from hs)
  clear hs d3
  go_wp2_with fail
  refine (IsFinite_any s _).mono ?_
  rintro e w4 ⟨rfl, m4, rfl⟩
  have HG := Lib.hid (show gainOk ⟨n0, x1, x2, x3⟩ x = fin32 s by unfold gainOk; rw [HFX.out, Bool.true_and, HS.out.fin])
  obtain ⟨q, hq⟩ : ∃ q, q = fin32 s := ⟨_, rfl⟩
  rw [← hq]
  have HQ := Lib.hid hq
  clear hq
  cases q
  · have HNV := Lib.hid (show gainV ⟨n0, x1, x2, x3⟩ x = 0 by unfold gainV; rw [HG.out, ← HQ.out]; rfl)
    go_wp2_with fail
    go_ret2
    exact ⟨by rw [HG.out, HNV.out, ← HQ.out]; rfl, below_drewN HB2.out _⟩
  · have HNV := Lib.hid (show gainV ⟨n0, x1, x2, x3⟩ x = s by
      unfold gainV; rw [HG.out, ← HQ.out, if_pos rfl]
      have h1 := HS.out.fin
      cases hg : gainO ⟨n0, x1, x2, x3⟩ x with
      | none => rw [hg, ← HQ.out] at h1; cases h1
      | some g => have := HS.out; rw [hg] at this; rw [this.of_some]; rfl)
    go_wp2_with fail
    go_ret2
    exact ⟨by rw [HG.out, HNV.out, ← HQ.out]; rfl, below_drewN HB2.out _⟩

end Go.Proofs.Ytkfiepiipigcmaa

namespace Go.Proofs.Ytkfiepiipigcmaa
open Go.RowKit

/-- The post of what returns a list and whether there is one. -/
def ListPost (q : Bool) (L : List Nat) (B : Nat) (w : World) (e : Ending) (w' : World) : Prop := ∃ v, e = .returned (.tuple #[v, .bool q]) ∧ RdF w' v L ∧ Below B w w'

theorem left_all {r : RowsD} {x ys : List Nat} (hl : ys.length = r.bnds.length) (h : ∀ j, j < r.bnds.length → Mt (leftO r x j) (ys.getD j 0)) : allFin ys = (List.range r.bnds.length).all fun i => finO (leftO r x i) := by
  rw [Bool.eq_iff_iff]
  constructor
  · intro ha
    rw [List.all_eq_true]
    intro i hi
    have hi' := List.mem_range.1 hi
    rw [← (h i hi').fin]
    exact allFin_get ha (by omega)
  · intro ha
    rw [List.all_eq_true] at ha
    refine allFin_yes fun i hi => ?_
    rw [(h i (by omega)).fin]
    exact ha i (List.mem_range.2 (by omega))
theorem left_eq {r : RowsD} {x ys : List Nat} (hl : ys.length = r.bnds.length) (h : ∀ j, j < r.bnds.length → Mt (leftO r x j) (ys.getD j 0)) (ha : allFin ys = true) : ys = leftL r x := by
  apply List.ext_getElem?
  intro i
  unfold leftL
  by_cases hi : i < r.bnds.length
  · have h1 := h i hi
    have h2 := allFin_get ha (i := i) (by omega)
    rw [h1.fin] at h2
    have h3 : ys[i]? = some (ys.getD i 0) := by simp [show i < ys.length by omega]
    rw [h3]
    simp only [List.getElem?_map, List.getElem?_range hi, Option.map_some]
    cases ho : leftO r x i with
    | none => rw [ho] at h2; cases h2
    | some g => rw [ho] at h1; rw [h1.of_some]; rfl
  · rw [List.getElem?_eq_none (by omega), List.getElem?_eq_none (by simp; omega)]

theorem getD_snoc_lt (ys : List Nat) (q j : Nat) (h : j < ys.length) : (ys ++ [q]).getD j 0 = ys.getD j 0 := by
  rw [List.getD_eq_getElem?_getD, List.getD_eq_getElem?_getD, List.getElem?_append_left h]
theorem getD_snoc_eq (ys : List Nat) (q j : Nat) (h : j = ys.length) : (ys ++ [q]).getD j 0 = q := by
  subst h; rw [List.getD_eq_getElem?_getD]; simp

theorem run_sub_none' {P : Program} (t : TypeId) (x y : Nat) (h : Ieee.single.sub x y = none) (w : World) :
    (binOp .sub t (.float .f32 x) (.float .f32 y)).run P w = .ok (.float .f32 (tape32 (.nanBits .f32 x y) w)) w.drew := run_sub_none t x y h w

set_option maxHeartbeats 4000000 in
set_option maxRecDepth 4000 in
theorem implLeft_any (v : Value) (r : RowsD) (u : Value) (x : List Nat) (w : World) (h : RdR w v r) (hu : RdF w u x) :
    Calls Try.prog 172 #[v, u] w (ListPost (leftOk r x) (leftR r x) w.heap.size w) := by
  obtain ⟨a1, c1, a2, c2, a3, c3, rfl⟩ := h.shape
  obtain ⟨a, c, rfl⟩ := hu.shape
  obtain ⟨p1, p2, p3⟩ := h.parts
  have HP := Lib.hid h
  have HU := Lib.hid hu
  have H2 := Lib.hid p2
  obtain ⟨n0, x1, x2, x3⟩ := r
  simp only at HP H2 ⊢
  clear h hu p1 p2 p3
  go_enter Try.func172, Try.ntmps172
  go_wp2_with fail
  refine Calls.at fun W hW => ?_
  have hb := Lib.hid (show Below w.heap.size w W by subst hW; (repeat' first | exact Below.refl _ _ | assumption | refine Below.alloc ?_ ?_ _ | refine Below.setCell ?_ ?_ _ | refine Below.drew ?_ | (simp; done) | (simp; omega)))
  have hk := Lib.hid (show Blk W w.heap.size 67 #[.int .i64 n0, .slice a1 x1.length c1, .slice a2 x2.length c2, .slice a3 x3.length c3] by subst hW; exact Blk.new _ _ _)
  clear hW
  refine (ValidRows_any _ ⟨n0, x1, x2, x3⟩ W (HP.out.up hb.out (Nat.le_refl _))).mono ?_
  rintro e w1 ⟨rfl, hb1⟩
  have HB1 := Lib.hid (hb.out.trans (hb1.mono hb.out.size))
  have HK1 := Lib.hid (hk.out.below hb1 hk.out.lt)
  clear hb1 hb hk
  by_cases hv : validR ⟨n0, x1, x2, x3⟩ = true
  case neg =>
    rw [Bool.not_eq_true] at hv
    have HNO := Lib.hid (show leftOk ⟨n0, x1, x2, x3⟩ x = false by unfold leftOk fitX; rw [hv]; rfl)
    have HNV := Lib.hid (show leftR ⟨n0, x1, x2, x3⟩ x = [] by unfold leftR; rw [HNO.out]; rfl)
    rw [hv]
    clear hv
    go_wp2_with fail
    go_ret2
    exact ⟨.slice none 0 0, by rw [HNO.out]; rfl, by rw [HNV.out]; exact Slc.nil _, HB1.out⟩
  have HV := Lib.hid (validR_iff.1 hv)
  have HVB := Lib.hid hv
  rw [hv]
  clear hv
  have d0 : w1.cell? ⟨w.heap.size, 0, none⟩ = some (.int .i64 n0) := HK1.out.cell 0 rfl
  have d1 : w1.cell? ⟨w.heap.size, 1, none⟩ = some (.slice a1 x1.length c1) := HK1.out.cell 1 rfl
  have d2 : w1.cell? ⟨w.heap.size, 2, none⟩ = some (.slice a2 x2.length c2) := HK1.out.cell 2 rfl
  have d3 : w1.cell? ⟨w.heap.size, 3, none⟩ = some (.slice a3 x3.length c3) := HK1.out.cell 3 rfl
  go_wp2_with fail
  refine (isX_any _ ⟨n0, x1, x2, x3⟩ _ x w1 (HP.out.up HB1.out (Nat.le_refl _)) (HU.out.up HB1.out (Nat.le_refl _))).mono ?_
  rintro e w2 ⟨rfl, hb2⟩
  simp only
  have HB2 := Lib.hid (HB1.out.trans (hb2.mono HB1.out.size))
  have HK2 := Lib.hid (HK1.out.below hb2 HK1.out.lt)
  clear hb2 d0 d1 d2 d3
  by_cases hx : (((x.length : Int) == n0) && allFin x) = true
  case neg =>
    rw [Bool.not_eq_true] at hx
    have HNO := Lib.hid (show leftOk ⟨n0, x1, x2, x3⟩ x = false by unfold leftOk fitX; simp only [hx, Bool.and_false, Bool.false_and])
    have HNV := Lib.hid (show leftR ⟨n0, x1, x2, x3⟩ x = [] by unfold leftR; rw [HNO.out]; rfl)
    rw [hx]
    clear hx
    go_wp2_with fail
    go_ret2
    exact ⟨.slice none 0 0, by rw [HNO.out]; rfl, by rw [HNV.out]; exact Slc.nil _, HB2.out⟩
  have HFX := Lib.hid (show fitX ⟨n0, x1, x2, x3⟩ x = true by unfold fitX; rw [HVB.out]; exact hx)
  rw [hx]
  simp only [Bool.and_eq_true, beq_iff_eq] at hx
  have HX := Lib.hid hx
  have HXL := Lib.hid (show x3.length = x.length by have h1 := HV.out.gl; have h2 := hx.1; simp only at h1; omega)
  have hb8 : x2.length ≤ 8 := HV.out.b8
  clear hx
  have d2 : w2.cell? ⟨w.heap.size, 2, none⟩ = some (.slice a2 x2.length c2) := HK2.out.cell 2 rfl
  go_wp2_with fail
  go_loopw [6, 21] (fun out kk wr => ∃ (k : Nat) (b : Option Addr) (cap : Nat) (ys : List Nat), kk = .int .i64 k ∧ k ≤ x2.length ∧ out = .slice b k cap ∧ Hid (ys.length = k) ∧ Hid (∀ j, j < k → Mt (leftO ⟨n0, x1, x2, x3⟩ x j) (ys.getD j 0)) ∧ Hid (wr.ownsRow (w.heap.size + 1) 63 1 (.slice b k cap) k (ys.map F32)) ∧ Hid (Below (w.heap.size + 1) w2 wr)) (fun _ kk _ => x2.length - (intOf kk).toNat)
  case atStart => exact ⟨0, none, 0, [], rfl, Nat.zero_le _, rfl, rfl, fun j hj => by omega, World.ownsRow_nil _ _ _ _, Below.refl _ _⟩
  case round =>
    obtain ⟨k, b, cap, ys, rfl, hk, rfl, hyl, hall, HO, HBR⟩ := hrel
    have hK1 := HK2.out.lt
    have HKr := Lib.hid (HK2.out.below HBR.out (by omega))
    have HB := Lib.hid (HB2.out.trans (HBR.out.mono (by omega)))
    by_cases hlt : k < x2.length
    · obtain ⟨ub, uo, rfl, _, hc⟩ := (H2.out.up HB.out (Nat.le_refl _)).at hlt
      obtain ⟨y, hy⟩ : ∃ y, y = x2.getD k 0 := ⟨_, rfl⟩
      rw [← hy] at hc
      have HY := Lib.hid hy
      clear hy
      have d0 : wr.cell? ⟨w.heap.size, 0, none⟩ = some (.int .i64 n0) := HKr.out.cell 0 rfl
      have d1 : wr.cell? ⟨w.heap.size, 1, none⟩ = some (.slice a1 x1.length c1) := HKr.out.cell 1 rfl
      have d2 : wr.cell? ⟨w.heap.size, 2, none⟩ = some (.slice (some ⟨ub, uo, none⟩) x2.length c2) := HKr.out.cell 2 rfl
      have d3 : wr.cell? ⟨w.heap.size, 3, none⟩ = some (.slice a3 x3.length c3) := HKr.out.cell 3 rfl
      go_wp2_with fail
      refine (row_any _ ⟨n0, x1, x2, x3⟩ k wr (HP.out.up HB.out (Nat.le_refl _)) HV.out hlt).mono ?_
      rintro e w3 ⟨ru, rfl, hru, hb3⟩
      obtain ⟨ra, rc, rfl⟩ := hru.shape
      have HRU := Lib.hid hru
      have HO3 := Lib.hid (owns_below HO.out hb3 (Nat.le_refl _))
      have HBR3 := Lib.hid (HBR.out.trans (hb3.mono (Nat.le_trans (by omega : w.heap.size + 1 ≤ w2.heap.size) HBR.out.size)))
      have HB3 := Lib.hid (HB2.out.trans (HBR3.out.mono (by omega)))
      clear hru hb3 d0 d1 d2 d3 hc
      obtain ⟨L, hL⟩ : ∃ L, L = (rowO ⟨n0, x1, x2, x3⟩ k).length := ⟨_, rfl⟩
      rw [← hL] at HRU ⊢
      have HL := Lib.hid hL
      have HLV := Lib.hid (show L = x3.length by rw [hL]; exact rowO_len HV.out hlt)
      clear hL
      go_wp2_with fail
      refine (dot_any _ _ (rowO ⟨n0, x1, x2, x3⟩ k) x w3 HRU.out (HU.out.up HB3.out (Nat.le_refl _)) (by rw [← HL.out, HLV.out, HXL.out]; exact Nat.le_refl _) (rowO_fin HV.out k) HX.out.2).mono ?_
      rintro e w4 ⟨s, rfl, hs, m4, rfl⟩
      have HS := Lib.hid (show Mt (dotO (rowO ⟨n0, x1, x2, x3⟩ k) x x3.length) s by rw [← HLV.out, HL.out]; exact hs)
      clear hs
      have hsz3 : w.heap.size + 1 ≤ w3.heap.size := Nat.le_trans (by omega : w.heap.size + 1 ≤ w2.heap.size) HBR3.out.size
      have HOn := Lib.hid (show ∀ n, (w3.drewN n).ownsRow (w.heap.size + 1) 63 1 (.slice b k cap) k (ys.map F32) from fun n => HO3.out)
      cases hq : Ieee.single.sub y s with
      | some q =>
        have hsub := fun (W : World) => run_sub_some (P := Try.prog) 63 _ _ q hq W
        have HM := Lib.hid (left_some (r := ⟨n0, x1, x2, x3⟩) (x := x) (i := k) HS.out (by simp only; rw [← HY.out]; exact hq))
        clear hq
        go_wp2_with (at_builtin; refine app_flts rfl _ _ rfl (w.heap.size + 1) (.slice b k cap) k ys rfl (owns_below (HOn.out _) ((Below.refl _ _).alloc (Nat.le_refl _) _) (Nat.le_refl _)) _ [_] rfl (slcF_one _ _) (k + 1) (ys ++ [_]) (by simp) rfl (by omega) (by simp; omega) ?_; intro a2 cap2 w5 hown hbl hg _)
        go_roundw
        case rel =>
          refine ⟨k + 1, a2, cap2, ys ++ [_], by go_num, by omega, rfl, Lib.hid (by simp [hyl.out]), fun j hj => ?_, hown, ((below_drewN HBR3.out _).alloc (by simp; omega) _).trans hbl⟩
          by_cases hjk : j < k
          · rw [getD_snoc_lt _ _ _ (by rw [hyl.out]; exact hjk)]; exact hall.out j hjk
          · obtain rfl : j = k := by omega
            rw [getD_snoc_eq _ _ _ hyl.out.symm]; exact HM.out
        case measure => simp [intOf]; omega
      | none =>
        have hsub := fun (W : World) => run_sub_none (P := Try.prog) 63 _ _ hq W
        have HM := Lib.hid (left_none (r := ⟨n0, x1, x2, x3⟩) (x := x) (i := k) HS.out (by simp only; rw [← HY.out]; exact hq))
        clear hq
        go_wp2_with (at_builtin; refine app_flts rfl _ _ rfl (w.heap.size + 1) (.slice b k cap) k ys rfl (owns_below (HOn.out _) ((Below.refl _ _).alloc (Nat.le_refl _) _) (Nat.le_refl _)) _ [_] rfl (slcF_one _ _) (k + 1) (ys ++ [_]) (by simp) rfl (by omega) (by simp; omega) ?_; intro a2 cap2 w5 hown hbl hg _)
        go_roundw
        case rel =>
          refine ⟨k + 1, a2, cap2, ys ++ [_], by go_num, by omega, rfl, Lib.hid (by simp [hyl.out]), fun j hj => ?_, hown, ((below_drewN HBR3.out _).alloc (by simp; omega) _).trans hbl⟩
          by_cases hjk : j < k
          · rw [getD_snoc_lt _ _ _ (by rw [hyl.out]; exact hjk)]; exact hall.out j hjk
          · obtain rfl : j = k := by omega
            rw [getD_snoc_eq _ _ _ hyl.out.symm]; exact HM.out _ (tape32_nan _ _ _)
        case measure => simp [intOf]; omega
    · obtain rfl : k = x2.length := by omega
      have HA := Lib.hid (left_all (r := ⟨n0, x1, x2, x3⟩) (x := x) hyl.out hall.out)
      have HE := Lib.hid (left_eq (r := ⟨n0, x1, x2, x3⟩) (x := x) hyl.out hall.out)
      have HR := Lib.hid (show RdF wr (.slice b x2.length cap) ys from slc_of_owns HO.out)
      have HLO := Lib.hid (show leftOk ⟨n0, x1, x2, x3⟩ x = allFin ys by unfold leftOk; rw [HFX.out, Bool.true_and, HA.out])
      go_wp2_with fail
      refine (areFinite_any _ ys _ (by rw [← hyl.out] at HR; rw [← hyl.out]; exact HR.out)).mono ?_
      rintro e w4 ⟨rfl, m4, rfl⟩
      obtain ⟨q, hq⟩ : ∃ q, q = allFin ys := ⟨_, rfl⟩
      rw [← hq]
      have HQ := Lib.hid hq
      clear hq
      cases q
      · have HNV := Lib.hid (show leftR ⟨n0, x1, x2, x3⟩ x = [] by unfold leftR; rw [HLO.out, ← HQ.out]; rfl)
        go_wp2_with fail
        go_ret2
        exact ⟨.slice none 0 0, by rw [HLO.out, ← HQ.out]; rfl, by rw [HNV.out]; exact Slc.nil _, below_drewN HB.out _⟩
      · have HNV := Lib.hid (show leftR ⟨n0, x1, x2, x3⟩ x = ys by unfold leftR; rw [HLO.out, ← HQ.out, if_pos rfl]; exact (HE.out HQ.out.symm).symm)
        go_wp2_with fail
        go_ret2
        exact ⟨_, by rw [HLO.out, ← HQ.out]; rfl, by rw [HNV.out]; exact HR.out, below_drewN HB.out _⟩

end Go.Proofs.Ytkfiepiipigcmaa

namespace Go.Proofs.Ytkfiepiipigcmaa
open Go.RowKit

theorem flat_len {α : Type} (f : α → List Value) (c : Nat) (hf : ∀ a, (f a).length = c) : ∀ (l : List α), (l.flatMap f).length = l.length * c
  | [] => by simp
  | a :: r => by
    have ih := flat_len f c hf r
    simp only [List.flatMap_cons, List.length_append, List.length_cons, hf a, ih]
    rw [Nat.add_mul]; omega

theorem flat_at {α : Type} (f : α → List Value) (c : Nat) (hf : ∀ a, (f a).length = c) : ∀ (l : List α) (i d : Nat) (a : α), l[i]? = some a → d < c → (l.flatMap f)[i * c + d]? = (f a)[d]?
  | [], i, d, a, h, _ => by simp at h
  | b :: r, 0, d, a, h, hd => by
    simp only [List.getElem?_cons_zero, Option.some.injEq] at h
    subst h
    simp only [List.flatMap_cons, Nat.zero_mul, Nat.zero_add]
    rw [List.getElem?_append_left (by rw [hf b]; exact hd)]
  | b :: r, i + 1, d, a, h, hd => by
    have ih := flat_at f c hf r i d a (by simpa using h) hd
    simp only [List.flatMap_cons]
    rw [List.getElem?_append_right (by rw [hf b, Nat.add_mul]; omega), ← ih]
    congr 1
    rw [hf b, Nat.add_mul]; omega

/-- Cells written one behind another. -/
def putAt : List Value → Nat → List Value → List Value
  | L, _, [] => L
  | L, b, u :: us => putAt (L.set b u) (b + 1) us

theorem putAt_append : ∀ (us A B : List Value) (b : Nat), A.length ≤ b → putAt (A ++ B) b us = A ++ putAt B (b - A.length) us
  | [], A, B, b, _ => rfl
  | u :: us, A, B, b, h => by
    simp only [putAt]
    rw [List.set_append_right _ _ h, putAt_append us A _ (b + 1) (by omega), show b + 1 - A.length = b - A.length + 1 by omega]
theorem putAt_whole : ∀ (us A B : List Value), A.length = us.length → putAt (A ++ B) 0 us = us ++ B
  | [], A, B, h => by
    have : A = [] := List.length_eq_zero_iff.1 (by simpa using h)
    subst this; rfl
  | u :: us, [], B, h => by simp at h
  | u :: us, x :: A, B, h => by
    simp only [putAt, List.cons_append, List.set_cons_zero]
    have := putAt_append us [u] (A ++ B) 1 (by simp)
    simp only [List.cons_append, List.nil_append, List.length_cons, List.length_nil] at this
    rw [this]
    simp only [Nat.sub_self]
    rw [putAt_whole us A B (by simpa using h)]

theorem flat_put {α : Type} (f : α → List Value) (c : Nat) (hf : ∀ a, (f a).length = c) : ∀ (l : List α) (i : Nat) (a : α), i < l.length → putAt (l.flatMap f) (i * c) (f a) = (l.set i a).flatMap f
  | [], i, a, h => by simp at h
  | b :: r, 0, a, _ => by
    simp only [List.flatMap_cons, Nat.zero_mul, List.set_cons_zero]
    exact putAt_whole _ _ _ (by rw [hf, hf])
  | b :: r, i + 1, a, h => by
    have ih := flat_put f c hf r i a (by simpa using h)
    simp only [List.flatMap_cons, List.set_cons_succ]
    rw [putAt_append _ _ _ _ (by rw [hf, Nat.add_mul]; omega), ← ih]
    congr 2
    rw [hf, Nat.add_mul]; omega

theorem made_rows (zs : List Value) (n : Nat) (h : zs ≠ []) : (madeCells zs.toArray (n * zs.length)).toList = (List.replicate n zs).flatten := by
  have hp : 0 < zs.length := List.length_pos_iff.2 h
  induction n with
  | zero => simp [madeCells]
  | succ n ih =>
    rw [List.replicate_succ, List.flatten_cons, ← ih]
    apply List.ext_getElem?
    intro j
    by_cases hj : j < zs.length
    · have hj2 : j < (n + 1) * zs.length := by rw [Nat.add_mul]; omega
      rw [List.getElem?_append_left hj]
      simp [madeCells, hj2, Nat.mod_eq_of_lt hj, hj]
    · rw [List.getElem?_append_right (by omega)]
      by_cases hj2 : j < (n + 1) * zs.length
      · have hj3 : j - zs.length < n * zs.length := by rw [Nat.add_mul] at hj2; omega
        have hm : (j - zs.length) % zs.length = j % zs.length := by
          rw [Nat.mod_eq_sub_mod (a := j) (by omega)]
        simp [madeCells, hj2, hj3, hm]
      · have hj3 : ¬ j - zs.length < n * zs.length := by rw [Nat.add_mul] at hj2; omega
        simp [madeCells, hj2, hj3]

theorem flat_made {α : Type} (f : α → List Value) (z : α) (n : Nat) (h : f z ≠ []) : (madeCells (f z).toArray (n * (f z).length)).toList = (List.replicate n z).flatMap f := by
  rw [made_rows _ _ h, List.flatMap_def, List.map_replicate]

end Go.Proofs.Ytkfiepiipigcmaa

namespace Go.Proofs.Ytkfiepiipigcmaa
open Go.RowKit

def fI (n : Int) : Nat := floatOfInt .f32 n
def geB (x : Nat) : Bool := !(FloatKind.f32.format.order x 0 == some .lt)
/-- The integers keep all rows. -/
noncomputable def wholeB (r : RowsD) (x : List Int) : Bool := leftOk r (x.map fI) && (leftR r (x.map fI)).all geB
theorem order_negz (x : Nat) : FloatKind.f32.format.order x 2147483648 = FloatKind.f32.format.order x 0 := by
  have h1 : FloatKind.f32.format.read 2147483648 = .number true 0 (-149) := by decide +kernel
  have h2 : FloatKind.f32.format.read 0 = .number false 0 (-149) := by decide +kernel
  unfold Ieee.Format.order
  rw [h1, h2]
  cases FloatKind.f32.format.read x with
  | nan a b => simp [Ieee.Datum.order]
  | infinity s => cases s <;> simp [Ieee.Datum.order]
  | number s m e => simp [Ieee.Datum.order, Ieee.signed]

/-- The lists of f integers that begin with some, as the program tells them. -/
noncomputable def wSols (r : RowsD) (top : Nat) : Nat → List Int → List (List Int)
  | 0, now => if wholeB r now = true then [now] else []
  | f + 1, now => (List.range (top + 1)).flatMap fun (k : Nat) => wSols r top f (now ++ [(k : Int)])
noncomputable def wPart (r : RowsD) (top f : Nat) (now : List Int) (k : Nat) : List (List Int) := (List.range k).flatMap fun (k : Nat) => wSols r top f (now ++ [(k : Int)])
theorem wPart_succ (r : RowsD) (top f : Nat) (now : List Int) (k : Nat) : wPart r top f now (k + 1) = wPart r top f now k ++ wSols r top f (now ++ [(k : Int)]) := by
  unfold wPart; rw [List.range_succ, List.flatMap_append]; simp
theorem wSols_succ (r : RowsD) (top f : Nat) (now : List Int) : wSols r top (f + 1) now = wPart r top f now (top + 1) := rfl
theorem wSols_len (r : RowsD) (top : Nat) : ∀ (f : Nat) (now : List Int), (wSols r top f now).length ≤ (top + 1) ^ f
  | 0, now => by unfold wSols; split <;> simp
  | f + 1, now => by
    rw [wSols_succ]
    have : ∀ k, (wPart r top f now k).length ≤ k * (top + 1) ^ f := by
      intro k
      induction k with
      | zero => simp [wPart]
      | succ k ih =>
        rw [wPart_succ, List.length_append, Nat.add_mul, Nat.one_mul]
        have := wSols_len r top f (now ++ [(k : Int)])
        omega
    have h := this (top + 1)
    rw [Nat.pow_succ, Nat.mul_comm]
    exact h
theorem wPart_len (r : RowsD) (top f : Nat) (now : List Int) (k : Nat) : (wPart r top f now k).length ≤ k * (top + 1) ^ f := by
  induction k with
  | zero => simp [wPart]
  | succ k ih =>
    rw [wPart_succ, List.length_append, Nat.add_mul, Nat.one_mul]
    have := wSols_len r top f (now ++ [(k : Int)])
    omega

/-- The digits of a number, the greatest first. -/
def digB (B : Nat) : Nat → Nat → List Int
  | 0, _ => []
  | n + 1, N => ((N / B ^ n : Nat) : Int) :: digB B n (N % B ^ n)
theorem digB_len (B : Nat) : ∀ (n N : Nat), (digB B n N).length = n
  | 0, _ => rfl
  | n + 1, N => by simp only [digB, List.length_cons, digB_len B n]
theorem range_mul (a b : Nat) : List.range (a * b) = (List.range a).flatMap fun k => (List.range b).map fun m => k * b + m := by
  induction a with
  | zero => simp
  | succ a ih =>
    rw [Nat.add_mul, Nat.one_mul, List.range_add, ih, List.range_succ, List.flatMap_append]
    simp
theorem flatMap_same {α β : Type} : ∀ (l : List α) (f g : α → List β), (∀ a ∈ l, f a = g a) → l.flatMap f = l.flatMap g
  | [], f, g, _ => rfl
  | a :: r, f, g, h => by
    simp only [List.flatMap_cons]
    rw [h a (by simp), flatMap_same r f g fun b hb => h b (by simp [hb])]
theorem wSols_dig (r : RowsD) (top : Nat) : ∀ (f : Nat) (now : List Int), wSols r top f now = (List.range ((top + 1) ^ f)).flatMap fun N => if wholeB r (now ++ digB (top + 1) f N) = true then [now ++ digB (top + 1) f N] else []
  | 0, now => by simp [wSols, digB]
  | f + 1, now => by
    have hp : 0 < (top + 1) ^ f := Nat.pow_pos (by omega)
    rw [wSols_succ, wPart, Nat.pow_succ, Nat.mul_comm, range_mul, List.flatMap_assoc]
    congr 1
    funext k
    rw [wSols_dig r top f, List.flatMap_map]
    apply flatMap_same
    intro m hm
    have hm' := List.mem_range.1 hm
    have e1 : (k * (top + 1) ^ f + m) / (top + 1) ^ f = k := by
      rw [Nat.mul_comm, Nat.mul_add_div hp, Nat.div_eq_of_lt hm', Nat.add_zero]
    have e2 : (k * (top + 1) ^ f + m) % (top + 1) ^ f = m := by
      rw [Nat.mul_comm, Nat.mul_add_mod, Nat.mod_eq_of_lt hm']
    simp only [digB, e1, e2, List.append_assoc, List.singleton_append]

/-- Counting up. -/
def nextL (top : Int) : List Int → Bool × List Int
  | [] => (false, [])
  | a :: r => if (nextL top r).1 = true then (true, a :: (nextL top r).2) else if a < top then (true, (a + 1) :: (nextL top r).2) else (false, 0 :: (nextL top r).2)
theorem digB_zero (B : Nat) : ∀ n, digB B n 0 = List.replicate n 0
  | 0 => rfl
  | n + 1 => by simp only [digB, Nat.zero_div, Nat.zero_mod, digB_zero B n, List.replicate_succ]; rfl
theorem next_dig (top : Nat) : ∀ (n N : Nat), N < (top + 1) ^ n → nextL top (digB (top + 1) n N) = (decide (N + 1 < (top + 1) ^ n), digB (top + 1) n ((N + 1) % (top + 1) ^ n))
  | 0, N, h => by
    have : N = 0 := by simpa using h
    subst this
    simp [nextL, digB]
  | n + 1, N, h => by
    have hp : 0 < (top + 1) ^ n := Nat.pow_pos (by omega)
    have hm : N % (top + 1) ^ n < (top + 1) ^ n := Nat.mod_lt _ hp
    have ih := next_dig top n (N % (top + 1) ^ n) hm
    have hdm := Nat.div_add_mod N ((top + 1) ^ n)
    rw [Nat.pow_succ] at h
    have hk : N / (top + 1) ^ n ≤ top := by
      have : N / (top + 1) ^ n < top + 1 := Nat.div_lt_of_lt_mul h
      omega
    simp only [digB, nextL, ih]
    rw [Nat.pow_succ]
    generalize hP : (top + 1) ^ n = P at *
    generalize hK : N / P = k at *
    generalize hM : N % P = m at *
    have hNe : N = P * k + m := hdm.symm
    have hPk : P * k ≤ P * top := Nat.mul_le_mul_left _ hk
    have hPt : P * (top + 1) = P * top + P := by rw [Nat.mul_add, Nat.mul_one]
    by_cases h1 : m + 1 < P
    · have hd : decide (m + 1 < P) = true := by simp [h1]
      rw [if_pos hd]
      have hlt : N + 1 < P * (top + 1) := by rw [hPt]; omega
      have e1 : (N + 1) / P = k := by rw [hNe, Nat.add_assoc, Nat.mul_add_div hp, Nat.div_eq_of_lt h1, Nat.add_zero]
      have e2 : (N + 1) % P = m + 1 := by rw [hNe, Nat.add_assoc, Nat.mul_add_mod, Nat.mod_eq_of_lt h1]
      rw [Nat.mod_eq_of_lt hlt, e1, e2, Nat.mod_eq_of_lt h1]
      simp [hlt]
    · have hd : ¬ decide (m + 1 < P) = true := by simpa using h1
      rw [if_neg hd]
      have hmP : m + 1 = P := by omega
      have e0 : (m + 1) % P = 0 := by rw [hmP, Nat.mod_self]
      rw [e0]
      by_cases h2 : k < top
      · rw [if_pos (by exact_mod_cast h2)]
        have hN1 : N + 1 = P * (k + 1) := by rw [Nat.mul_add, Nat.mul_one]; omega
        have hlt : N + 1 < P * (top + 1) := by rw [hN1]; exact Nat.mul_lt_mul_of_pos_left (by omega) hp
        have e1 : (N + 1) / P = k + 1 := by rw [hN1, Nat.mul_div_cancel_left _ hp]
        have e2 : (N + 1) % P = 0 := by rw [hN1, Nat.mul_mod_right]
        rw [Nat.mod_eq_of_lt hlt, e1, e2]
        simp [hlt]
      · rw [if_neg (by exact_mod_cast h2)]
        have hkt : k = top := by omega
        have hN1 : N + 1 = P * (top + 1) := by rw [hPt, hNe, hkt]; omega
        rw [hN1, Nat.mod_self]
        simp

/-- The walk of counting up: the last ones are zeros already. -/
theorem next_hit (top : Int) : ∀ (x : List Int) (i : Nat), i < x.length → nextL top (x.drop (i + 1)) = (false, List.replicate (x.length - (i + 1)) 0) → x.getD i 0 < top →
    nextL top x = (true, x.take i ++ (x.getD i 0 + 1) :: List.replicate (x.length - (i + 1)) 0)
  | [], i, h, _, _ => by simp at h
  | a :: r, 0, _, h1, h2 => by
    simp only [List.drop_succ_cons, List.drop_zero, List.length_cons] at h1
    simp only [List.getD_cons_zero] at h2
    simp only [nextL, h1, Bool.false_eq_true, if_false, if_pos h2, List.take_zero, List.nil_append, List.getD_cons_zero, List.length_cons]
  | a :: r, i + 1, h, h1, h2 => by
    have ih := next_hit top r i (by simpa using h) (by simpa using h1) (by simpa using h2)
    simp only [nextL, ih, if_true, List.take_succ_cons, List.cons_append, List.getD_cons_succ, List.length_cons]
    congr 3
    simp
theorem next_miss (top : Int) (x : List Int) (i : Nat) (hi : i < x.length) (h1 : nextL top (x.drop (i + 1)) = (false, List.replicate (x.length - (i + 1)) 0)) (h2 : ¬ x.getD i 0 < top) :
    nextL top (x.drop i) = (false, List.replicate (x.length - i) 0) := by
  rw [List.drop_eq_getElem_cons hi]
  have e : x.getD i 0 = x[i] := by simp [hi]
  rw [e] at h2
  simp only [nextL, h1, Bool.false_eq_true, if_false, if_neg h2]
  rw [show x.length - i = (x.length - (i + 1)) + 1 by omega, List.replicate_succ]

end Go.Proofs.Ytkfiepiipigcmaa
