/-
  What rows leave of their bounds, and what they gain: in plain Lean; and by the program.
-/
import Derived.Test.YtkmbkjbammpdhaaDot
import Derived.Test.YtkmbkjbammpdhaaValidR
import Derived.Test.YtkmbkjbammpdhaaAppF
import Derived.Test.YtkmbkjbammpdhaaRound
namespace Go.Proofs.Ytkmbkjbammpdhaa
open Go.RowKit

def rowO (r : RowsD) (i : Nat) : List Nat := (r.nums.drop (i * r.gains.length)).take r.gains.length
def leftO (r : RowsD) (x : List Nat) (i : Nat) : Option Nat := (dotO (rowO r i) x r.gains.length).bind fun s => Ieee.single.sub (r.bnds.getD i 0) s
noncomputable def fitX (r : RowsD) (x : List Nat) : Bool := validR r && (((x.length : Int) == r.vars) && allFin x)
noncomputable def leftOk (r : RowsD) (x : List Nat) : Bool := fitX r x && (List.range r.bnds.length).all fun i => finO (leftO r x i)
def leftL (r : RowsD) (x : List Nat) : List Nat := (List.range r.bnds.length).map fun i => (leftO r x i).getD 0
noncomputable def leftR (r : RowsD) (x : List Nat) : List Nat := if leftOk r x = true then leftL r x else []
def gainO (r : RowsD) (x : List Nat) : Option Nat := dotO r.gains x r.gains.length
noncomputable def gainOk (r : RowsD) (x : List Nat) : Bool := fitX r x && finO (gainO r x)
noncomputable def gainV (r : RowsD) (x : List Nat) : Nat := if gainOk r x = true then (gainO r x).getD 0 else 0

theorem sub_nanR {x y : Nat} (h : nan32 y = true) : Ieee.single.sub x y = none := by
  unfold nan32 at h
  unfold Ieee.Format.sub
  cases hr : Ieee.single.read y with
  | nan a b => cases Ieee.single.read x <;> simp [Ieee.Datum.sum, Ieee.Datum.opposite]
  | infinity s => rw [hr] at h; simp [Ieee.Datum.isNaN] at h
  | number s m e => rw [hr] at h; simp [Ieee.Datum.isNaN] at h
theorem left_some {r : RowsD} {x : List Nat} {i s q : Nat} (h : Mt (dotO (rowO r i) x r.gains.length) s) (hq : Ieee.single.sub (r.bnds.getD i 0) s = some q) : Mt (leftO r x i) q := by
  unfold leftO
  cases hd : dotO (rowO r i) x r.gains.length with
  | none => rw [hd] at h; rw [sub_nanR (h.2 rfl)] at hq; cases hq
  | some s' =>
    rw [hd] at h
    rw [h.of_some] at hq
    simp only [Option.bind_some, hq]
    exact Mt.some' q
theorem left_none {r : RowsD} {x : List Nat} {i s : Nat} (h : Mt (dotO (rowO r i) x r.gains.length) s) (hq : Ieee.single.sub (r.bnds.getD i 0) s = none) (q : Nat) (hn : nan32 q = true) : Mt (leftO r x i) q := by
  have : leftO r x i = none := by
    unfold leftO
    cases hd : dotO (rowO r i) x r.gains.length with
    | none => rfl
    | some s' =>
      rw [hd] at h
      rw [h.of_some] at hq
      simp only [Option.bind_some, hq]
  rw [this]
  exact ⟨fun r h => by simp at h, fun _ => hn⟩

theorem rowO_len {r : RowsD} (hv : ValR r) {i : Nat} (hi : i < r.bnds.length) : (rowO r i).length = r.gains.length := by
  have h1 := hv.gl
  have h2 := hv.nl
  rw [← h1] at h2
  have h3 : r.nums.length = r.gains.length * r.bnds.length := by exact_mod_cast h2
  have h4 : (i + 1) * r.gains.length ≤ r.nums.length := by rw [h3, Nat.mul_comm]; exact Nat.mul_le_mul_left _ hi
  rw [Nat.add_mul] at h4
  unfold rowO
  rw [List.length_take, List.length_drop]
  omega
theorem rowO_fin {r : RowsD} (hv : ValR r) (i : Nat) : allFin (rowO r i) = true := by
  have h := hv.fn
  unfold allFin at h ⊢
  rw [List.all_eq_true] at h ⊢
  intro y hy
  unfold rowO at hy
  exact h y (List.mem_of_mem_drop (List.mem_of_mem_take hy))

/-- A piece of a slice of numbers reads. -/
theorem rdF_piece {w : World} {b off n cap : Nat} {xs : List Nat} (h : RdF w (.slice (some ⟨b, off, none⟩) n cap) xs) (m k : Nat) (hk : m + k ≤ xs.length) (c2 : Nat) (hc : k ≤ c2) (hc2 : c2 ≤ maxLen) : RdF w (.slice (some ⟨b, off + m, none⟩) k c2) ((xs.drop m).take k) := by
  have hl : ((xs.drop m).take k).length = k := by rw [List.length_take, List.length_drop]; omega
  refine .inr ⟨⟨b, off + m, none⟩, c2, by rw [List.length_map, hl], by rw [List.length_map, hl]; exact hc, hc2, fun i u hi => ?_⟩
  simp only [List.getElem?_map, Option.map_eq_some_iff] at hi
  obtain ⟨q, hq, rfl⟩ := hi
  have hlt : i < k := by have := (List.getElem?_eq_some_iff.1 hq).1; omega
  rw [List.getElem?_take_of_lt hlt, List.getElem?_drop] at hq
  obtain ⟨b', off', e, _, hcell⟩ := h.at (i := m + i) (by omega)
  simp only [Option.some.injEq, Addr.mk.injEq, and_true] at e
  obtain ⟨rfl, rfl⟩ := e
  have e2 : xs.getD (m + i) 0 = q := by rw [List.getD_eq_getElem?_getD, hq]; rfl
  rw [e2] at hcell
  have : (⟨b, off + m, none⟩ : Addr).add i = ⟨b, off + (m + i), none⟩ := by
    unfold Addr.add
    by_cases hz : i = 0
    · simp [hz]
    · simp [hz, Nat.add_assoc]
  rw [this]
  exact hcell

set_option maxHeartbeats 2000000 in
theorem row_any (v : Value) (r : RowsD) (i : Nat) (w : World) (h : RdR w v r) (hv : ValR r) (hi : i < r.bnds.length) :
    Calls Try.prog 90 #[v, .int .i64 i] w fun e w' => ∃ u, e = .returned u ∧ RdF w' u (rowO r i) ∧ Below w.heap.size w w' := by
  obtain ⟨a1, c1, a2, c2, a3, c3, rfl⟩ := h.shape
  obtain ⟨p1, p2, p3⟩ := h.parts
  have hlen := rowO_len hv hi
  have hb8 := hv.b8
  have hv8 := hv.v8
  have hv1 := hv.v1
  have hgl := hv.gl
  have hnl := hv.nl
  have l1 := p1.len
  obtain ⟨n0, x1, x2, x3⟩ := r
  simp only at p1 p2 p3 hlen hb8 hv8 hv1 hgl hnl hi l1 ⊢
  unfold maxLen at l1
  obtain rfl := hgl
  obtain ⟨V, hV⟩ : ∃ V, V = x3.length := ⟨_, rfl⟩
  have hnl2 : x1.length = V * x2.length := by rw [hV]; exact_mod_cast hnl
  obtain ⟨m, hm⟩ : ∃ m, m = i * V := ⟨_, rfl⟩
  have hmm : m + V ≤ x1.length := by
    rw [hm, hnl2, Nat.mul_comm V, ← Nat.succ_mul]
    exact Nat.mul_le_mul_right _ hi
  have hx64 : x1.length ≤ 64 := by rw [hnl2]; exact Nat.le_trans (Nat.mul_le_mul (by omega) hb8) (by decide : 8 * 8 ≤ 64)
  have e1 : (i : Int) * (V : Int) = (m : Int) := by rw [hm]; push_cast; rfl
  have e2 : ((i : Int) + 1) * (V : Int) = (m : Int) + (V : Int) := by rw [Int.add_mul, e1, Int.one_mul]
  have P1 := Lib.hid p1
  have hnz : 0 < x1.length := by omega
  obtain ⟨b, off, rfl, hb0, _⟩ := p1.at hnz
  have hc1 : x1.length ≤ c1 ∧ c1 ≤ maxLen := by
    rcases p1 with ⟨e, _⟩ | ⟨ad, cap', e, q1, q2, _⟩
    · cases e
    · simp only [Value.slice.injEq] at e
      obtain ⟨_, _, rfl⟩ := e
      simpa using And.intro q1 q2
  obtain ⟨hc1a, hc1b⟩ := hc1
  have HC := Lib.hid hc1b
  unfold maxLen at hc1b
  have HV := Lib.hid hV
  have HM := Lib.hid hm
  rw [← hV] at hv8 hv1 ⊢
  have hi8 : i < 8 := by omega
  clear h p1 p2 p3 hlen hnl hnl2 hm hV
  go_enter Try.func90, Try.ntmps90
  go_wp2_with fail
  go_ret
  refine ⟨_, rfl, ?_, by (repeat' first | exact Below.refl _ _ | assumption | refine Below.alloc ?_ ?_ _ | refine Below.setCell ?_ ?_ _ | refine Below.drew ?_ | (simp; done) | (simp; omega))⟩
  simp
  have hb : Below w.heap.size w (w.alloc (.cells #[.int .i64 V, .slice (some ⟨b, off, none⟩) x1.length c1, .slice a2 x2.length c2, .slice a3 V c3] 26)) := (Below.refl _ _).alloc (Nat.le_refl _) _
  have hp := rdF_piece (P1.out.up hb (Nat.le_refl _)) m V hmm (c1 - m) (by omega) (by have := HC.out; omega)
  unfold rowO
  simp only
  rw [← HV.out, ← HM.out]
  exact hp

/-- The post of what returns a number and whether it is one. -/
def NumPost (q : Bool) (s : Nat) (B : Nat) (w : World) (e : Ending) (w' : World) : Prop := e = .returned (.tuple #[.float .f32 s, .bool q]) ∧ Below B w w'

set_option maxHeartbeats 2000000 in
theorem implGain_any (v : Value) (r : RowsD) (u : Value) (x : List Nat) (w : World) (h : RdR w v r) (hu : RdF w u x) :
    Calls Try.prog 101 #[v, u] w (NumPost (gainOk r x) (gainV r x) w.heap.size w) := by
  obtain ⟨a1, c1, a2, c2, a3, c3, rfl⟩ := h.shape
  obtain ⟨a, c, rfl⟩ := hu.shape
  obtain ⟨p1, p2, p3⟩ := h.parts
  have HP := Lib.hid h
  have HU := Lib.hid hu
  have H3 := Lib.hid p3
  obtain ⟨n0, x1, x2, x3⟩ := r
  simp only at HP H3 ⊢
  clear h hu p1 p2 p3
  go_enter Try.func101, Try.ntmps101
  go_wp2_with fail
  refine Calls.at fun W hW => ?_
  have hb := Lib.hid (show Below w.heap.size w W by subst hW; (repeat' first | exact Below.refl _ _ | assumption | refine Below.alloc ?_ ?_ _ | refine Below.setCell ?_ ?_ _ | refine Below.drew ?_ | (simp; done) | (simp; omega)))
  have hk := Lib.hid (show Blk W w.heap.size 26 #[.int .i64 n0, .slice a1 x1.length c1, .slice a2 x2.length c2, .slice a3 x3.length c3] by subst hW; exact Blk.new _ _ _)
  clear hW
  refine (ValidRows_any _ ⟨n0, x1, x2, x3⟩ W (HP.out.up hb.out (Nat.le_refl _))).mono ?_
  rintro e w1 ⟨rfl, hb1⟩
  have HB1 := Lib.hid (hb.out.trans (hb1.mono hb.out.size))
  have HK1 := Lib.hid (hk.out.below hb1 hk.out.lt)
  clear hb1 hb hk
  by_cases hv : validR ⟨n0, x1, x2, x3⟩ = true
  case neg =>
    rw [Bool.not_eq_true] at hv
    have HNO := Lib.hid (show gainOk ⟨n0, x1, x2, x3⟩ x = false by unfold gainOk fitX; rw [hv]; rfl)
    have HNV := Lib.hid (show gainV ⟨n0, x1, x2, x3⟩ x = 0 by unfold gainV; rw [HNO.out]; rfl)
    rw [hv]
    clear hv
    go_wp2_with fail
    go_ret2
    exact ⟨by rw [HNO.out, HNV.out]; rfl, HB1.out⟩
  have HV := Lib.hid (validR_iff.1 hv)
  have HVB := Lib.hid hv
  rw [hv]
  clear hv
  have d0 : w1.cell? ⟨w.heap.size, 0, none⟩ = some (.int .i64 n0) := HK1.out.cell 0 rfl
  have d1 : w1.cell? ⟨w.heap.size, 1, none⟩ = some (.slice a1 x1.length c1) := HK1.out.cell 1 rfl
  have d2 : w1.cell? ⟨w.heap.size, 2, none⟩ = some (.slice a2 x2.length c2) := HK1.out.cell 2 rfl
  have d3 : w1.cell? ⟨w.heap.size, 3, none⟩ = some (.slice a3 x3.length c3) := HK1.out.cell 3 rfl
  go_wp2_with fail
  refine (isX_any _ ⟨n0, x1, x2, x3⟩ _ x w1 (HP.out.up HB1.out (Nat.le_refl _)) (HU.out.up HB1.out (Nat.le_refl _))).mono ?_
  rintro e w2 ⟨rfl, hb2⟩
  simp only
  have HB2 := Lib.hid (HB1.out.trans (hb2.mono HB1.out.size))
  have HK2 := Lib.hid (HK1.out.below hb2 HK1.out.lt)
  clear hb2 d0 d1 d2 d3
  by_cases hx : (((x.length : Int) == n0) && allFin x) = true
  case neg =>
    rw [Bool.not_eq_true] at hx
    have HNO := Lib.hid (show gainOk ⟨n0, x1, x2, x3⟩ x = false by unfold gainOk fitX; simp only [hx, Bool.and_false, Bool.false_and])
    have HNV := Lib.hid (show gainV ⟨n0, x1, x2, x3⟩ x = 0 by unfold gainV; rw [HNO.out]; rfl)
    rw [hx]
    clear hx
    go_wp2_with fail
    go_ret2
    exact ⟨by rw [HNO.out, HNV.out]; rfl, HB2.out⟩
  have HFX := Lib.hid (show fitX ⟨n0, x1, x2, x3⟩ x = true by unfold fitX; rw [HVB.out]; exact hx)
  rw [hx]
  simp only [Bool.and_eq_true, beq_iff_eq] at hx
  have HX := Lib.hid hx
  have HXL := Lib.hid (show x3.length = x.length by have h1 := HV.out.gl; have h2 := hx.1; simp only at h1; omega)
  clear hx
  have d3 : w2.cell? ⟨w.heap.size, 3, none⟩ = some (.slice a3 x3.length c3) := HK2.out.cell 3 rfl
  go_wp2_with fail
  refine (dot_any _ _ x3 x w2 (H3.out.up HB2.out (Nat.le_refl _)) (HU.out.up HB2.out (Nat.le_refl _)) (by have := HXL.out; omega) HV.out.fg HX.out.2).mono ?_
  rintro e w3 ⟨s, rfl, hs, m3, rfl⟩
  have HS := Lib.hid (show Mt (gainO ⟨n0, x1, x2, x3⟩ x) s from hs)
  clear hs d3
  go_wp2_with fail
  refine (IsFinite_any s _).mono ?_
  rintro e w4 ⟨rfl, m4, rfl⟩
  have HG := Lib.hid (show gainOk ⟨n0, x1, x2, x3⟩ x = fin32 s by unfold gainOk; rw [HFX.out, Bool.true_and, HS.out.fin])
  obtain ⟨q, hq⟩ : ∃ q, q = fin32 s := ⟨_, rfl⟩
  rw [← hq]
  have HQ := Lib.hid hq
  clear hq
  cases q
  · have HNV := Lib.hid (show gainV ⟨n0, x1, x2, x3⟩ x = 0 by unfold gainV; rw [HG.out, ← HQ.out]; rfl)
    go_wp2_with fail
    go_ret2
    exact ⟨by rw [HG.out, HNV.out, ← HQ.out]; rfl, below_drewN HB2.out _⟩
  · have HNV := Lib.hid (show gainV ⟨n0, x1, x2, x3⟩ x = s by
      unfold gainV; rw [HG.out, ← HQ.out, if_pos rfl]
      have h1 := HS.out.fin
      cases hg : gainO ⟨n0, x1, x2, x3⟩ x with
      | none => rw [hg, ← HQ.out] at h1; cases h1
      | some g => have := HS.out; rw [hg] at this; rw [this.of_some]; rfl)
    go_wp2_with fail
    go_ret2
    exact ⟨by rw [HG.out, HNV.out, ← HQ.out]; rfl, below_drewN HB2.out _⟩

end Go.Proofs.Ytkmbkjbammpdhaa
