/-
  FnExactWholeGap: texts joined: Left, Has, Str, Reg, Tab, AbsF.
-/
import Derived.Deep.RegionHeld3
import Derived.Deep.Cut
import Derived.Laws.BitsAllLaws
import Derived.Test.YtkfiepiipigcmaaMEWholeGapAA
import Derived.Test.YtkfiepiipigcmaaMEWholeGapAB
import Derived.Test.YtkfiepiipigcmaaMEWholeGapAC
import Derived.Test.YtkfiepiipigcmaaMEWholeGapAD
namespace Go.Proofs.Ytkfiepiipigcmaa
open Go.RowKit

def rowO (r : RowsD) (i : Nat) : List Nat := (r.nums.drop (i * r.gains.length)).take r.gains.length
def leftO (r : RowsD) (x : List Nat) (i : Nat) : Option Nat := (dotO (rowO r i) x r.gains.length).bind fun s => Ieee.single.sub (r.bnds.getD i 0) s
noncomputable def fitX (r : RowsD) (x : List Nat) : Bool := validR r && (((x.length : Int) == r.vars) && allFin x)
noncomputable def leftOk (r : RowsD) (x : List Nat) : Bool := fitX r x && (List.range r.bnds.length).all fun i => finO (leftO r x i)
def leftL (r : RowsD) (x : List Nat) : List Nat := (List.range r.bnds.length).map fun i => (leftO r x i).getD 0
noncomputable def leftR (r : RowsD) (x : List Nat) : List Nat := if leftOk r x = true then leftL r x else []
def gainO (r : RowsD) (x : List Nat) : Option Nat := dotO r.gains x r.gains.length
noncomputable def gainOk (r : RowsD) (x : List Nat) : Bool := fitX r x && finO (gainO r x)
noncomputable def gainV (r : RowsD) (x : List Nat) : Nat := if gainOk r x = true then (gainO r x).getD 0 else 0

theorem sub_nanR {x y : Nat} (h : nan32 y = true) : Ieee.single.sub x y = none := by
  unfold nan32 at h
  unfold Ieee.Format.sub
  cases hr : Ieee.single.read y with
  | nan a b => cases Ieee.single.read x <;> simp [Ieee.Datum.sum, Ieee.Datum.opposite]
  | infinity s => rw [hr] at h; simp [Ieee.Datum.isNaN] at h
  | number s m e => rw [hr] at h; simp [Ieee.Datum.isNaN] at h
theorem left_some {r : RowsD} {x : List Nat} {i s q : Nat} (h : Mt (dotO (rowO r i) x r.gains.length) s) (hq : Ieee.single.sub (r.bnds.getD i 0) s = some q) : Mt (leftO r x i) q := by
  unfold leftO
  cases hd : dotO (rowO r i) x r.gains.length with
  | none => rw [hd] at h; rw [sub_nanR (h.2 rfl)] at hq; cases hq
  | some s' =>
    rw [hd] at h
    rw [h.of_some] at hq
    simp only [Option.bind_some, hq]
    exact Mt.some' q
theorem left_none {r : RowsD} {x : List Nat} {i s : Nat} (h : Mt (dotO (rowO r i) x r.gains.length) s) (hq : Ieee.single.sub (r.bnds.getD i 0) s = none) (q : Nat) (hn : nan32 q = true) : Mt (leftO r x i) q := by
  have : leftO r x i = none := by
    unfold leftO
    cases hd : dotO (rowO r i) x r.gains.length with
    | none => rfl
    | some s' =>
      rw [hd] at h
      rw [h.of_some] at hq
      simp only [Option.bind_some, hq]
  rw [this]
  exact ⟨fun r h => by simp at h, fun _ => hn⟩

theorem rowO_len {r : RowsD} (hv : ValR r) {i : Nat} (hi : i < r.bnds.length) : (rowO r i).length = r.gains.length := by
  have h1 := hv.gl
  have h2 := hv.nl
  rw [← h1] at h2
  have h3 : r.nums.length = r.gains.length * r.bnds.length := by exact_mod_cast h2
  have h4 : (i + 1) * r.gains.length ≤ r.nums.length := by rw [h3, Nat.mul_comm]; exact Nat.mul_le_mul_left _ hi
  rw [Nat.add_mul] at h4
  unfold rowO
  rw [List.length_take, List.length_drop]
  omega
theorem rowO_fin {r : RowsD} (hv : ValR r) (i : Nat) : allFin (rowO r i) = true := by
  have h := hv.fn
  unfold allFin at h ⊢
  rw [List.all_eq_true] at h ⊢
  intro y hy
  unfold rowO at hy
  exact h y (List.mem_of_mem_drop (List.mem_of_mem_take hy))

/-- A piece of a slice of numbers reads. -/
theorem rdF_piece {w : World} {b off n cap : Nat} {xs : List Nat} (h : RdF w (.slice (some ⟨b, off, none⟩) n cap) xs) (m k : Nat) (hk : m + k ≤ xs.length) (c2 : Nat) (hc : k ≤ c2) (hc2 : c2 ≤ maxLen) : RdF w (.slice (some ⟨b, off + m, none⟩) k c2) ((xs.drop m).take k) := by
  have hl : ((xs.drop m).take k).length = k := by rw [List.length_take, List.length_drop]; omega
  refine .inr ⟨⟨b, off + m, none⟩, c2, by rw [List.length_map, hl], by rw [List.length_map, hl]; exact hc, hc2, fun i u hi => ?_⟩
  simp only [List.getElem?_map, Option.map_eq_some_iff] at hi
  obtain ⟨q, hq, rfl⟩ := hi
  have hlt : i < k := by have := (List.getElem?_eq_some_iff.1 hq).1; omega
  rw [List.getElem?_take_of_lt hlt, List.getElem?_drop] at hq
  obtain ⟨b', off', e, _, hcell⟩ := h.at (i := m + i) (by omega)
  simp only [Option.some.injEq, Addr.mk.injEq, and_true] at e
  obtain ⟨rfl, rfl⟩ := e
  have e2 : xs.getD (m + i) 0 = q := by rw [List.getD_eq_getElem?_getD, hq]; rfl
  rw [e2] at hcell
  have : (⟨b, off + m, none⟩ : Addr).add i = ⟨b, off + (m + i), none⟩ := by
    unfold Addr.add
    by_cases hz : i = 0
    · simp [hz]
    · simp [hz, Nat.add_assoc]
  rw [this]
  exact hcell

set_option maxHeartbeats 2000000 in
theorem row_any (v : Value) (r : RowsD) (i : Nat) (w : World) (h : RdR w v r) (hv : ValR r) (hi : i < r.bnds.length) :
    Calls Try.prog 168 #[v, .int .i64 i] w fun e w' => ∃ u, e = .returned u ∧ RdF w' u (rowO r i) ∧ Below w.heap.size w w' := by
  obtain ⟨a1, c1, a2, c2, a3, c3, rfl⟩ := h.shape
  obtain ⟨p1, p2, p3⟩ := h.parts
  have hlen := rowO_len hv hi
  have hb8 := hv.b8
  have hv8 := hv.v8
  have hv1 := hv.v1
  have hgl := hv.gl
  have hnl := hv.nl
  have l1 := p1.len
  obtain ⟨n0, x1, x2, x3⟩ := r
  simp only at p1 p2 p3 hlen hb8 hv8 hv1 hgl hnl hi l1 ⊢
  unfold maxLen at l1
  obtain rfl := hgl
  obtain ⟨V, hV⟩ : ∃ V, V = x3.length := ⟨_, rfl⟩
  have hnl2 : x1.length = V * x2.length := by rw [hV]; exact_mod_cast hnl
  obtain ⟨m, hm⟩ : ∃ m, m = i * V := ⟨_, rfl⟩
  have hmm : m + V ≤ x1.length := by
    rw [hm, hnl2, Nat.mul_comm V, ← Nat.succ_mul]
    exact Nat.mul_le_mul_right _ hi
  have hx64 : x1.length ≤ 64 := by rw [hnl2]; exact Nat.le_trans (Nat.mul_le_mul (by omega) hb8) (by decide : 8 * 8 ≤ 64)
  have e1 : (i : Int) * (V : Int) = (m : Int) := by rw [hm]; push_cast; rfl
  have e2 : ((i : Int) + 1) * (V : Int) = (m : Int) + (V : Int) := by rw [Int.add_mul, e1, Int.one_mul]
  have P1 := Lib.hid p1
  have hnz : 0 < x1.length := by omega
  obtain ⟨b, off, rfl, hb0, _⟩ := p1.at hnz
  have hc1 : x1.length ≤ c1 ∧ c1 ≤ maxLen := by
    rcases p1 with ⟨e, _⟩ | ⟨ad, cap', e, q1, q2, _⟩
    · cases e
    · simp only [Value.slice.injEq] at e
      obtain ⟨_, _, rfl⟩ := e
      simpa using And.intro q1 q2
  obtain ⟨hc1a, hc1b⟩ := hc1
  have HC := Lib.hid hc1b
  unfold maxLen at hc1b
  have HV := Lib.hid hV
  have HM := Lib.hid hm
  rw [← hV] at hv8 hv1 ⊢
  have hi8 : i < 8 := by omega
  clear h p1 p2 p3 hlen hnl hnl2 hm hV
  go_enter Try.func168, Try.ntmps168
  go_wp2_with fail
  go_ret
  refine ⟨_, rfl, ?_, by (repeat' first | exact Below.refl _ _ | assumption | refine Below.alloc ?_ ?_ _ | refine Below.setCell ?_ ?_ _ | refine Below.drew ?_ | (simp; done) | (simp; omega))⟩
  simp
  have hb : Below w.heap.size w (w.alloc (.cells #[.int .i64 V, .slice (some ⟨b, off, none⟩) x1.length c1, .slice a2 x2.length c2, .slice a3 V c3] 67)) := (Below.refl _ _).alloc (Nat.le_refl _) _
  have hp := rdF_piece (P1.out.up hb (Nat.le_refl _)) m V hmm (c1 - m) (by omega) (by have := HC.out; omega)
  unfold rowO
  simp only
  rw [← HV.out, ← HM.out]
  exact hp

/-- The post of what returns a number and whether it is one. -/
def NumPost (q : Bool) (s : Nat) (B : Nat) (w : World) (e : Ending) (w' : World) : Prop := e = .returned (.tuple #[.float .f32 s, .bool q]) ∧ Below B w w'

set_option maxHeartbeats 2000000 in
theorem implGain_any (v : Value) (r : RowsD) (u : Value) (x : List Nat) (w : World) (h : RdR w v r) (hu : RdF w u x) :
    Calls Try.prog 91 #[v, u] w (NumPost (gainOk r x) (gainV r x) w.heap.size w) := by
  obtain ⟨a1, c1, a2, c2, a3, c3, rfl⟩ := h.shape
  obtain ⟨a, c, rfl⟩ := hu.shape
  obtain ⟨p1, p2, p3⟩ := h.parts
  have HP := Lib.hid h
  have HU := Lib.hid hu
  have H3 := Lib.hid p3
  obtain ⟨n0, x1, x2, x3⟩ := r
  simp only at HP H3 ⊢
  clear h hu p1 p2 p3
  go_enter Try.func91, Try.ntmps91
  go_wp2_with fail
  refine Calls.at fun W hW => ?_
  have hb := Lib.hid (show Below w.heap.size w W by subst hW; (repeat' first | exact Below.refl _ _ | assumption | refine Below.alloc ?_ ?_ _ | refine Below.setCell ?_ ?_ _ | refine Below.drew ?_ | (simp; done) | (simp; omega)))
  have hk := Lib.hid (show Blk W w.heap.size 67 #[.int .i64 n0, .slice a1 x1.length c1, .slice a2 x2.length c2, .slice a3 x3.length c3] by subst hW; exact Blk.new _ _ _)
  clear hW
  refine (ValidRows_any _ ⟨n0, x1, x2, x3⟩ W (HP.out.up hb.out (Nat.le_refl _))).mono ?_
  rintro e w1 ⟨rfl, hb1⟩
  have HB1 := Lib.hid (hb.out.trans (hb1.mono hb.out.size))
  have HK1 := Lib.hid (hk.out.below hb1 hk.out.lt)
  clear hb1 hb hk
  by_cases hv : validR ⟨n0, x1, x2, x3⟩ = true
  case neg =>
    rw [Bool.not_eq_true] at hv
    have HNO := Lib.hid (show gainOk ⟨n0, x1, x2, x3⟩ x = false by unfold gainOk fitX; rw [hv]; rfl)
    have HNV := Lib.hid (show gainV ⟨n0, x1, x2, x3⟩ x = 0 by unfold gainV; rw [HNO.out]; rfl)
    rw [hv]
    clear hv
    go_wp2_with fail
    go_ret2
    exact ⟨by rw [HNO.out, HNV.out]; rfl, HB1.out⟩
  have HV := Lib.hid (validR_iff.1 hv)
  have HVB := Lib.hid hv
  rw [hv]
  clear hv
  have d0 : w1.cell? ⟨w.heap.size, 0, none⟩ = some (.int .i64 n0) := HK1.out.cell 0 rfl
  have d1 : w1.cell? ⟨w.heap.size, 1, none⟩ = some (.slice a1 x1.length c1) := HK1.out.cell 1 rfl
  have d2 : w1.cell? ⟨w.heap.size, 2, none⟩ = some (.slice a2 x2.length c2) := HK1.out.cell 2 rfl
  have d3 : w1.cell? ⟨w.heap.size, 3, none⟩ = some (.slice a3 x3.length c3) := HK1.out.cell 3 rfl
  go_wp2_with fail
  refine (isX_any _ ⟨n0, x1, x2, x3⟩ _ x w1 (HP.out.up HB1.out (Nat.le_refl _)) (HU.out.up HB1.out (Nat.le_refl _))).mono ?_
  rintro e w2 ⟨rfl, hb2⟩
  simp only
  have HB2 := Lib.hid (HB1.out.trans (hb2.mono HB1.out.size))
  have HK2 := Lib.hid (HK1.out.below hb2 HK1.out.lt)
  clear hb2 d0 d1 d2 d3
  by_cases hx : (((x.length : Int) == n0) && allFin x) = true
  case neg =>
    rw [Bool.not_eq_true] at hx
    have HNO := Lib.hid (show gainOk ⟨n0, x1, x2, x3⟩ x = false by unfold gainOk fitX; simp only [hx, Bool.and_false, Bool.false_and])
    have HNV := Lib.hid (show gainV ⟨n0, x1, x2, x3⟩ x = 0 by unfold gainV; rw [HNO.out]; rfl)
    rw [hx]
    clear hx
    go_wp2_with fail
    go_ret2
    exact ⟨by rw [HNO.out, HNV.out]; rfl, HB2.out⟩
  have HFX := Lib.hid (show fitX ⟨n0, x1, x2, x3⟩ x = true by unfold fitX; rw [HVB.out]; exact hx)
  rw [hx]
  simp only [Bool.and_eq_true, beq_iff_eq] at hx
  have HX := Lib.hid hx
  have HXL := Lib.hid (show x3.length = x.length by have h1 := HV.out.gl; have h2 := hx.1; simp only at h1; omega)
  clear hx
  have d3 : w2.cell? ⟨w.heap.size, 3, none⟩ = some (.slice a3 x3.length c3) := HK2.out.cell 3 rfl
  go_wp2_with fail
  refine (dot_any _ _ x3 x w2 (H3.out.up HB2.out (Nat.le_refl _)) (HU.out.up HB2.out (Nat.le_refl _)) (by have := HXL.out; omega) HV.out.fg HX.out.2).mono ?_
  rintro e w3 ⟨s, rfl, hs, m3, rfl⟩
  have HS := Lib.hid (show Mt (gainO ⟨n0, x1, x2, x3⟩ x) s from hs)
  clear hs d3
  go_wp2_with fail
  refine (IsFinite_any s _).mono ?_
  rintro e w4 ⟨rfl, m4, rfl⟩
  have HG := Lib.hid (show gainOk ⟨n0, x1, x2, x3⟩ x = fin32 s by unfold gainOk; rw [HFX.out, Bool.true_and, HS.out.fin])
  obtain ⟨q, hq⟩ : ∃ q, q = fin32 s := ⟨_, rfl⟩
  rw [← hq]
  have HQ := Lib.hid hq
  clear hq
  cases q
  · have HNV := Lib.hid (show gainV ⟨n0, x1, x2, x3⟩ x = 0 by unfold gainV; rw [HG.out, ← HQ.out]; rfl)
    go_wp2_with fail
    go_ret2
    exact ⟨by rw [HG.out, HNV.out, ← HQ.out]; rfl, below_drewN HB2.out _⟩
  · have HNV := Lib.hid (show gainV ⟨n0, x1, x2, x3⟩ x = s by
      unfold gainV; rw [HG.out, ← HQ.out, if_pos rfl]
      have h1 := HS.out.fin
      cases hg : gainO ⟨n0, x1, x2, x3⟩ x with
      | none => rw [hg, ← HQ.out] at h1; cases h1
      | some g => have := HS.out; rw [hg] at this; rw [this.of_some]; rfl)
    go_wp2_with fail
    go_ret2
    exact ⟨by rw [HG.out, HNV.out, ← HQ.out]; rfl, below_drewN HB2.out _⟩

end Go.Proofs.Ytkfiepiipigcmaa

namespace Go.Proofs.Ytkfiepiipigcmaa
open Go.RowKit

def hasB (l : List Int) (x : Int) : Bool := l.contains x
theorem hasB_yes {l : List Int} {x : Int} {j : Nat} (hj : j < l.length) (h : l.getD j 0 = x) : hasB l x = true := by
  unfold hasB; rw [List.contains_iff_mem]
  have : l.getD j 0 = l[j] := by simp [hj]
  rw [this] at h; rw [← h]; exact List.getElem_mem hj
theorem hasB_no {l : List Int} {x : Int} (h : ∀ j, j < l.length → l.getD j 0 ≠ x) : hasB l x = false := by
  unfold hasB; rw [Bool.eq_false_iff]; intro hc
  rw [List.contains_iff_mem] at hc
  obtain ⟨j, hj, e⟩ := List.getElem_of_mem hc
  exact h j hj (by simp [hj, e])

set_option maxHeartbeats 400000 in
theorem has_any (v : Value) (l : List Int) (x : Int) (w : World) (h : RdI w v l) :
    Calls Try.prog 138 #[v, .int .i64 x] w fun e w' => e = .returned (.bool (hasB l x)) ∧ w = w' := by
  obtain ⟨a, c, rfl⟩ := h.shape
  have hl := h.len
  unfold maxLen at hl
  have HS := Lib.hid h
  clear h
  go_enter Try.func138, Try.ntmps138
  go_wp2_with fail
  go_loop [9] (fun i => ∃ k : Nat, i = .int .i64 k ∧ k ≤ l.length ∧ Hid (∀ j, j < k → l.getD j 0 ≠ x)) (fun i => l.length - (intOf i).toNat)
  case atStart => exact ⟨0, rfl, Nat.zero_le _, fun j hj => by omega⟩
  case round =>
    obtain ⟨k, rfl, hk, hno⟩ := hrel
    by_cases hlt : k < l.length
    · obtain ⟨b, off, rfl, _, hc⟩ := HS.out.at hlt
      obtain ⟨y, hy⟩ : ∃ y, y = l.getD k 0 := ⟨_, rfl⟩
      rw [← hy] at hc
      by_cases he : y = x
      · have he' : (y == x) = true := by simp [he]
        have HY := Lib.hid (show hasB l x = true from hasB_yes hlt (hy.symm.trans he))
        clear he hy
        go_wp2_with fail
        go_ret
        exact ⟨by rw [HY.out]; rfl, rfl⟩
      · have he' : (y == x) = false := by simp [he]
        have HE := Lib.hid (show l.getD k 0 ≠ x by rw [← hy]; exact he)
        clear he hy
        go_wp2_with fail
        go_round
        case rel => exact ⟨k + 1, by go_num, by omega, fun j hj => by
          rcases Nat.lt_succ_iff_lt_or_eq.1 hj with h | rfl
          · exact hno.out j h
          · exact HE.out⟩
        case measure => simp [intOf]; omega
    · obtain rfl : k = l.length := by omega
      go_wp2_with fail
      go_ret
      exact ⟨by rw [hasB_no hno.out]; rfl, rfl⟩

end Go.Proofs.Ytkfiepiipigcmaa

namespace Go.Proofs.Ytkfiepiipigcmaa
open Go.RowKit

theorem str_ext {s t : ByteArray} (h : s.toList = t.toList) : s = t := by
  rw [ByteArray.toList_eq, ByteArray.toList_eq] at h
  exact ByteArray.ext (Array.ext' h)
theorem str_ne {s t : ByteArray} (h : s ≠ t) : (s.toList == t.toList) = false := by
  cases hb : s.toList == t.toList
  · rfl
  · exact absurd (str_ext (eq_of_beq hb)) h

@[go_sem] theorem binOp_string_neq_true (t : TypeId) (a b : ByteArray) (h : (a.toList == b.toList) = false) : binOp .neq t (.string a) (.string b) = pure (.bool true) := by
  rw [binOp_string_neq, h]; rfl
@[go_sem] theorem binOp_string_neq_same (t : TypeId) (a : ByteArray) : binOp .neq t (.string a) (.string a) = pure (.bool false) := by
  rw [binOp_string_neq]; simp
@[go_sem] theorem binOp_string_eql_false (t : TypeId) (a b : ByteArray) (h : (a.toList == b.toList) = false) : binOp .eql t (.string a) (.string b) = pure (.bool false) := by
  rw [binOp_string_eql, h]
@[go_sem] theorem binOp_string_eql_same (t : TypeId) (a : ByteArray) : binOp .eql t (.string a) (.string a) = pure (.bool true) := by
  rw [binOp_string_eql]; simp

def allB (m : Nat) (p : Nat → Bool) : Bool := (List.range m).all p
theorem allB_true {m : Nat} {p : Nat → Bool} (h : ∀ i, i < m → p i = true) : allB m p = true := by
  unfold allB; rw [List.all_eq_true]; intro i hi; exact h i (List.mem_range.1 hi)
theorem allB_false {m : Nat} {p : Nat → Bool} {i : Nat} (hi : i < m) (h : p i = false) : allB m p = false := by
  unfold allB
  cases hb : (List.range m).all p
  · rfl
  · rw [List.all_eq_true] at hb
    have := hb i (List.mem_range.2 hi)
    rw [h] at this; cases this
theorem allB_iff {m : Nat} {p : Nat → Bool} : allB m p = true ↔ ∀ i, i < m → p i = true := by
  unfold allB; rw [List.all_eq_true]
  exact ⟨fun h i hi => h i (List.mem_range.2 hi), fun h i hi => h i (List.mem_range.1 hi)⟩

theorem inB_iff {lo hi n : Int} : inB lo hi n = true ↔ lo ≤ n ∧ n ≤ hi := by unfold inB; simp
theorem bool_false {b : Bool} (h : ¬ b = true) : b = false := by cases b <;> simp_all

end Go.Proofs.Ytkfiepiipigcmaa

namespace Go.Proofs.Ytkfiepiipigcmaa
open Go.RowKit

theorem wp_region_cls {P : Program} {id : Nat} {Q : Exit → Act → World → Prop} {a : Act} {w : World} {l : List Oper} (C : World → Prop) (hm : P.follows .mixedOrders = true) (hB : Region.lexB .any l.toArray = true) (hC : C w.drew)
    (h : wpQuiet P l.toArray C (fun a' => ∀ w', C w' → Q .normal a' w') l a) : (Code.region id l.toArray true).wp P Q a w :=
  wp_region_quiet (C := C) hm hB hC (by simpa using h)

theorem q_step {P : Program} {ops : Array Oper} {C : World → Prop} {Q : Act → Prop} {o : Oper} {rest : List Oper} {a : Act} (hw : Region.wanted o (yielded ops a.tmps) = true)
    (h : ∃ v, (∀ X, C X → o.quietAt P a C X v) ∧ wpQuiet P ops C Q rest (a.put o.dst v)) : wpQuiet P ops C Q (o :: rest) a :=
  wpQuiet_step fun _ hK => by obtain ⟨v, h1, h2⟩ := h; rw [if_pos hw]; exact ⟨v, h1, hK _ h2⟩

end Go.Proofs.Ytkfiepiipigcmaa

namespace Go.Proofs.Ytkfiepiipigcmaa
open Go.RowKit

structure TabD where
  vars : Nat
  nums : List Nat
  basis : List Int
def RdTb (w : World) (v : Value) (t : TabD) : Prop := ∃ va vb, v = .agg #[.int .i64 t.vars, va, vb] ∧ RdF w va t.nums ∧ RdI w vb t.basis
theorem RdTb.shape {w : World} {v : Value} {t : TabD} (h : RdTb w v t) : ∃ a c b d, v = .agg #[.int .i64 t.vars, .slice a t.nums.length c, .slice b t.basis.length d] := by
  obtain ⟨va, vb, rfl, h1, h2⟩ := h
  obtain ⟨a, c, rfl⟩ := h1.shape
  obtain ⟨b, d, rfl⟩ := h2.shape
  exact ⟨a, c, b, d, rfl⟩
theorem RdTb.parts {w : World} {x0 x y : Value} {t : TabD} (h : RdTb w (.agg #[x0, x, y]) t) : RdF w x t.nums ∧ RdI w y t.basis := by
  obtain ⟨va, vb, e, h1, h2⟩ := h
  simp only [Value.agg.injEq, Array.mk.injEq, List.cons.injEq, and_true] at e
  obtain ⟨_, rfl, rfl⟩ := e
  exact ⟨h1, h2⟩
theorem RdTb.up {w w' : World} {v : Value} {t : TabD} {B : Nat} (h : RdTb w v t) (hb : Below B w w') (hB : w.heap.size ≤ B) : RdTb w' v t := by
  obtain ⟨va, vb, e, h1, h2⟩ := h
  exact ⟨va, vb, e, h1.up hb hB, h2.up hb hB⟩
/-- How many numbers a row of a table has. -/
def wdT (t : TabD) : Nat := t.vars + t.basis.length + 1
/-- The sides of a table are as they should be. -/
structure DimT (t : TabD) : Prop where
  v1 : 1 ≤ t.vars
  v8 : t.vars ≤ 8
  b1 : 1 ≤ t.basis.length
  b8 : t.basis.length ≤ 8
  nl : t.nums.length = wdT t * (t.basis.length + 1)
theorem DimT.w17 {t : TabD} (h : DimT t) : 3 ≤ wdT t ∧ wdT t ≤ 17 := by have := h.v1; have := h.v8; have := h.b1; have := h.b8; unfold wdT; omega
theorem DimT.ix {t : TabD} (h : DimT t) {i k : Nat} (hi : i ≤ t.basis.length) (hk : k < wdT t) : i * wdT t + k < t.nums.length := by
  rw [h.nl, Nat.mul_comm (wdT t)]
  have : (i + 1) * wdT t ≤ (t.basis.length + 1) * wdT t := Nat.mul_le_mul_right _ (by omega)
  rw [Nat.add_mul] at this
  omega
theorem DimT.n153 {t : TabD} (h : DimT t) : t.nums.length ≤ 153 := by
  have h1 := h.w17
  have h2 := h.b8
  rw [h.nl]
  exact Nat.le_trans (Nat.mul_le_mul h1.2 (show t.basis.length + 1 ≤ 9 by omega)) (by decide)
def atT (t : TabD) (i k : Nat) : Nat := t.nums.getD (i * wdT t + k) 0

set_option maxHeartbeats 1000000 in
theorem tabWide_any (v : Value) (t : TabD) (w : World) (h : RdTb w v t) (hd : DimT t) :
    Calls Try.prog 151 #[v] w fun e w' => e = .returned (.int .i64 (wdT t : Nat)) ∧ Below w.heap.size w w' := by
  obtain ⟨a, c, b, d, rfl⟩ := h.shape
  have h8 := hd.v8
  have hb8 := hd.b8
  have HW := Lib.hid (show ((wdT t : Nat) : Int) = (t.vars : Int) + t.basis.length + 1 by unfold wdT; push_cast; rfl)
  obtain ⟨V, hV⟩ : ∃ V, V = t.vars := ⟨_, rfl⟩
  obtain ⟨N, hN⟩ : ∃ N, N = t.basis.length := ⟨_, rfl⟩
  rw [← hV] at h8 HW ⊢
  rw [← hN] at hb8 HW ⊢
  clear hd hV hN h
  go_enter Try.func151, Try.ntmps151
  go_wp2_with fail
  go_ret
  exact ⟨by rw [HW.out]; rfl, by (repeat' first | exact Below.refl _ _ | assumption | refine Below.alloc ?_ ?_ _ | refine Below.setCell ?_ ?_ _ | refine Below.drew ?_ | (simp; done) | (simp; omega))⟩

set_option maxHeartbeats 1000000 in
theorem tabAt_any (v : Value) (t : TabD) (i k : Nat) (w : World) (h : RdTb w v t) (hd : DimT t) (hi : i ≤ t.basis.length) (hk : k < wdT t) :
    Calls Try.prog 152 #[v, .int .i64 i, .int .i64 k] w fun e w' => e = .returned (.float .f32 (atT t i k)) ∧ Below w.heap.size w w' := by
  have HRT := Lib.hid h
  obtain ⟨a, c, b, d, rfl⟩ := h.shape
  have hx := hd.ix hi hk
  have hn := hd.n153
  have h17 := hd.w17
  have hb8 := hd.b8
  obtain ⟨gb, go, rfl, _, hc⟩ := h.parts.1.at hx
  obtain ⟨x, hxe⟩ : ∃ x, x = atT t i k := ⟨_, rfl⟩
  rw [show t.nums.getD (i * wdT t + k) 0 = x from hxe.symm] at hc
  rw [← hxe]
  obtain ⟨W, hW⟩ : ∃ W, W = wdT t := ⟨_, rfl⟩
  obtain ⟨m, hm⟩ : ∃ m, m = i * W + k := ⟨_, rfl⟩
  obtain ⟨p, hp⟩ : ∃ p, p = i * W := ⟨_, rfl⟩
  have e1 : (i : Int) * (W : Int) = (p : Int) := by rw [hp]; push_cast; rfl
  have e2 : (p : Int) + (k : Int) = (m : Int) := by rw [hm, ← hp]; push_cast; rfl
  have hpm : p ≤ m := by omega
  have hm153 : m < 153 := by rw [← hW, ← hm] at hx; omega
  have hw1 : IntKind.i64.wrap (p : Int) = (p : Int) := IntWalk.i64_in _ (by omega)
  have hw2 : IntKind.i64.wrap ((p : Int) + (k : Int)) = (m : Int) := by rw [e2]; exact IntWalk.i64_in _ (by omega)
  rw [← hW] at hx hc hk h17
  rw [← hm] at hx hc
  have HW := Lib.hid (fun X (hb : Below w.heap.size w X) => tabWide_any _ t X (HRT.out.up hb (Nat.le_refl _)) hd)
  rw [← hW] at HW
  obtain ⟨N, hN⟩ : ∃ N, N = t.nums.length := ⟨_, rfl⟩
  rw [← hN] at hx hn HW ⊢
  have hxI : (m : Int) < (N : Int) := by omega
  clear h hd hxe hW hm hN HRT hp e2
  go_enter Try.func152, Try.ntmps152
  go_upto_region 1 with fail
  refine wp_at fun W0 hW0 => ?_
  have HB0 := Lib.hid (show Below w.heap.size w W0 by subst hW0; (repeat' first | exact Below.refl _ _ | assumption | refine Below.alloc ?_ ?_ _ | refine Below.setCell ?_ ?_ _ | refine Below.drew ?_ | (simp; done) | (simp; omega)))
  have HK0 := Lib.hid (show Blk W0 w.heap.size 136 #[.int .i64 t.vars, .slice (some ⟨gb, go, none⟩) N c, .slice b t.basis.length d] by subst hW0; exact Blk.new _ _ _)
  clear hW0
  have d0 : W0.cell? ⟨w.heap.size, 0, none⟩ = some (.int .i64 t.vars) := HK0.out.cell 0 rfl
  have d1 : W0.cell? ⟨w.heap.size, 1, none⟩ = some (.slice (some ⟨gb, go, none⟩) N c) := HK0.out.cell 1 rfl
  have d2 : W0.cell? ⟨w.heap.size, 2, none⟩ = some (.slice b t.basis.length d) := HK0.out.cell 2 rfl
  have hc0 := held_of HB0.out hc (Nat.le_refl _)
  have hz0 := HB0.out.size
  clear hc
  refine wp_region_cls (fun X => X.cell? ⟨w.heap.size, 0, none⟩ = some (.int .i64 t.vars) ∧ X.cell? ⟨w.heap.size, 1, none⟩ = some (.slice (some ⟨gb, go, none⟩) N c) ∧ X.cell? ⟨w.heap.size, 2, none⟩ = some (.slice b t.basis.length d) ∧ X.cell? ⟨gb, go + m, none⟩ = some (.float .f32 x) ∧ Hid (Below W0.heap.size W0 X)) (by kernel_rfl) (by kernel_rfl) (⟨d0, d1, d2, hc0, (Below.refl _ _).drew⟩) ?_
  repeat (first
    | go_big_quiet_skip
    | (go_big_quiet_want
       apply Exists.intro
       refine ⟨fun X hX => ?_, ?_⟩
       · (try dsimp only at hX)
         go_simp
         (first | with_reducible rfl | done | (have hcur := hX.2.2.2.2; go_at_call 151; refine (HW.out X (HB0.out.trans (hcur.out.mono hz0))).mono ?_; rintro e w2 ⟨rfl, hb2⟩; have hbn := hcur.out.trans (hb2.mono hcur.out.size); exact ⟨rfl, held_of hbn d0 (Nat.le_refl _), held_of hbn d1 (Nat.le_refl _), held_of hbn d2 (Nat.le_refl _), held_of hbn hc0 (Nat.le_refl _), hbn⟩))
       go_big_quiet_on
       (try simp only [Act.put, List.setIfInBounds_toArray, List.set_cons_zero, List.set_cons_succ])))
  refine wpQuiet_nil ?_
  intro w1 hC
  (try dsimp only at hC)
  go_wp2_with fail
  go_ret
  exact ⟨rfl, HB0.out.trans (hC.2.2.2.2.out.mono hz0)⟩

end Go.Proofs.Ytkfiepiipigcmaa

namespace Go.Proofs.Ytkfiepiipigcmaa
open Go.RowKit

def abs32 (x : Nat) : Nat := x % 2147483648

theorem read32_parts {x : Nat} (h : fin32 x = true) : ∃ s m e, Ieee.single.read x = .number s m e ∧ s = (x / 2147483648 % 2 == 1) ∧ m < 16777216 ∧ -149 ≤ e ∧ e ≤ 104 ∧ abs32 x < 2139095040 ∧ (e + 149).toNat * 8388608 + m = abs32 x ∧ (m < 8388608 → e = -149) := by
  unfold fin32 at h
  unfold Ieee.Format.read at h ⊢
  unfold abs32
  have c1 : Ieee.single.signWeight = 2147483648 := rfl
  have c2 : Ieee.single.binade = 8388608 := rfl
  have c3 : Ieee.single.infRung = 2139095040 := rfl
  have c4 : Ieee.single.leastPlace = -149 := by decide +kernel
  simp only [c1, c2, c3, c4] at h ⊢
  by_cases h1 : x % 2147483648 < 8388608
  · rw [if_pos h1]
    exact ⟨_, _, _, rfl, rfl, by omega, by omega, by omega, by omega, by omega, by omega⟩
  · rw [if_neg h1] at h ⊢
    by_cases h2 : x % 2147483648 < 2139095040
    · rw [if_pos h2]
      exact ⟨_, _, _, rfl, rfl, by omega, by omega, by omega, h2, by omega, by omega⟩
    · rw [if_neg h2] at h
      by_cases h3 : x % 2147483648 = 2139095040
      · rw [if_pos h3] at h; simp at h
      · rw [if_neg h3] at h; simp at h

theorem log2_shift (m a : Nat) (h : m ≠ 0) : (m <<< a).log2 = m.log2 + a := by
  rw [Nat.shiftLeft_eq]
  have h1 := Nat.lt_log2_self (n := m)
  have h2 := Nat.log2_self_le h
  have hp := Nat.two_pow_pos a
  refine (Nat.log2_eq_iff (by have := Nat.mul_pos (by omega : 0 < m) hp; omega)).2 ⟨?_, ?_⟩
  · rw [Nat.pow_add]; exact Nat.mul_le_mul_right _ h2
  · rw [show m.log2 + a + 1 = (m.log2 + 1) + a by omega, Nat.pow_add]; exact Nat.mul_lt_mul_of_pos_right h1 hp

theorem cut_back (t : Bool) (m a : Nat) (h : m ≠ 0) : Ieee.Toward.even.cut t (m <<< a) a = m := by
  unfold Ieee.Toward.cut
  rw [log2_shift m a h, show min a (m.log2 + a + 2) = a by omega]
  have hp := Nat.two_pow_pos a
  simp only [Nat.shiftLeft_eq, Nat.one_mul, Nat.mul_mod_left, Nat.mul_div_left _ hp]
  have e1 : decide (2 ^ a < 2 * 0) = false := by simp
  have e2 : (2 ^ a == 2 * 0) = false := by simp
  simp [e1, e2]

/-- What is read is written back, at any place. -/
theorem nearest_back {x : Nat} (hx : fin32 x = true) {s : Bool} {m : Nat} {e : Int} (hr : Ieee.single.read x = .number s m e) (t : Bool) (a : Nat) (e' : Int) (he : e' = e - a) :
    Ieee.single.nearest t (m <<< a) e' = Ieee.single.word t (abs32 x) := by
  obtain ⟨s', m', e2, h0, h1, h2, h3, h4, h5, h6, h7⟩ := read32_parts hx
  rw [hr] at h0
  cases h0
  unfold Ieee.Format.nearest
  by_cases hm : m = 0
  · subst hm
    rw [if_pos (by simp)]
    have : abs32 x = 0 := by have := h7 (by omega); omega
    rw [this]
  have hm' : m <<< a ≠ 0 := by rw [Nat.shiftLeft_eq]; have := Nat.mul_pos (show 0 < m by omega) (Nat.two_pow_pos a); omega
  rw [if_neg hm', log2_shift m a hm]
  have c2 : Ieee.single.binade = 8388608 := rfl
  have c3 : Ieee.single.infRung = 2139095040 := rfl
  have c4 : Ieee.single.leastPlace = -149 := by decide +kernel
  have c5 : Ieee.single.fractionBits = 23 := rfl
  have hl : max (e' + ((m.log2 + a : Nat) : Int) - (23 : Nat)) (-149) = e := by
    by_cases hs : m < 8388608
    · have h8 := h7 hs
      have : m.log2 < 23 := (Nat.log2_lt hm).2 (by omega)
      omega
    · have g1 : m.log2 < 24 := (Nat.log2_lt hm).2 (by omega)
      have g2 : ¬ m.log2 < 23 := fun h => by have := (Nat.log2_lt hm).1 h; omega
      omega
  simp only [c2, c3, c4, c5, hl]
  rw [show (e' - e).toNat = 0 by omega, show (e - e').toNat = a by omega, Nat.shiftLeft_zero, cut_back t m a hm]
  rw [show (e - -149).toNat = (e + 149).toNat by omega, h6, Nat.min_eq_left (by omega)]

theorem cut64 (s : Bool) (K : Nat) : Ieee.Toward.even.cut s K 0 = K := by
  unfold Ieee.Toward.cut
  simp [Nat.mod_one]
/-- Of double precision: what was a number of single precision. -/
theorem double_of {s : Bool} {m : Nat} {e : Int} (hm : m < 16777216) (h1 : -149 ≤ e) (h2 : e ≤ 104) :
    ∃ r a e', r < 9218868437227405312 ∧ Ieee.double.nearest s m e = Ieee.double.word s r ∧ Ieee.double.read r = .number false (m <<< a) e' ∧ (m ≠ 0 → e' = e - a) := by
  unfold Ieee.Format.nearest
  have c1 : Ieee.double.signWeight = 9223372036854775808 := rfl
  have c2 : Ieee.double.binade = 4503599627370496 := rfl
  have c3 : Ieee.double.infRung = 9218868437227405312 := rfl
  have c4 : Ieee.double.leastPlace = -1074 := by decide +kernel
  have c5 : Ieee.double.fractionBits = 52 := rfl
  by_cases h0 : m = 0
  · rw [if_pos h0]
    refine ⟨0, 0, -1074, by decide, rfl, ?_, fun h => absurd h0 h⟩
    subst h0
    decide +kernel
  · rw [if_neg h0]
    have hl : m.log2 ≤ 23 := by
      have : m.log2 < 24 := (Nat.log2_lt h0).2 (by omega)
      omega
    have hlt : m < 2 ^ (m.log2 + 1) := Nat.lt_log2_self
    have hge : 2 ^ m.log2 ≤ m := Nat.log2_self_le h0
    have hlast : max (e + (m.log2 : Int) - (52 : Nat)) (-1074) = e + m.log2 - 52 := by omega
    simp only [c2, c3, c4, c5, hlast]
    have ha : (e - (e + (m.log2 : Int) - 52)).toNat = 52 - m.log2 := by omega
    have hb : (e + (m.log2 : Int) - 52 - e).toNat = 0 := by omega
    rw [ha, hb]
    have hk : m <<< (52 - m.log2) < 9007199254740992 := by
      rw [Nat.shiftLeft_eq]
      have : m * 2 ^ (52 - m.log2) < 2 ^ (m.log2 + 1) * 2 ^ (52 - m.log2) := Nat.mul_lt_mul_of_pos_right hlt (Nat.two_pow_pos _)
      rw [← Nat.pow_add, show m.log2 + 1 + (52 - m.log2) = 53 by omega] at this
      exact this
    have hk2 : 4503599627370496 ≤ m <<< (52 - m.log2) := by
      rw [Nat.shiftLeft_eq]
      have : 2 ^ m.log2 * 2 ^ (52 - m.log2) ≤ m * 2 ^ (52 - m.log2) := Nat.mul_le_mul_right _ hge
      rw [← Nat.pow_add, show m.log2 + (52 - m.log2) = 52 by omega] at this
      exact this
    rw [cut64]
    obtain ⟨K, hK⟩ : ∃ K, K = m <<< (52 - m.log2) := ⟨_, rfl⟩
    rw [← hK] at hk hk2 ⊢
    obtain ⟨Q, hQ⟩ : ∃ Q, Q = (e + (m.log2 : Int) - 52 - -1074).toNat := ⟨_, rfl⟩
    rw [← hQ]
    have hQ1 : Q ≤ 1149 := by omega
    have hQ2 : (Q : Int) = e + m.log2 + 1022 := by omega
    have hlt2 : Q * 4503599627370496 + K < 9218868437227405312 := by
      have := near_aux Q K hQ1 hk
      omega
    rw [Nat.min_eq_left (by omega)]
    refine ⟨_, 52 - m.log2, e + m.log2 - 52, hlt2, rfl, ?_, fun _ => by omega⟩
    unfold Ieee.Format.read
    simp only [c1, c2, c3, c4]
    have q1 : (Q * 4503599627370496 + K) / 9223372036854775808 % 2 = 0 := by omega
    have q2 : (Q * 4503599627370496 + K) % 9223372036854775808 = Q * 4503599627370496 + K := by omega
    rw [q1, q2, if_neg (by omega), if_pos hlt2, ← hK]
    have q3 : (Q * 4503599627370496 + K) % 4503599627370496 = K - 4503599627370496 := by omega
    have q4 : (Q * 4503599627370496 + K) / 4503599627370496 = Q + 1 := by omega
    rw [q3, q4, show 4503599627370496 + (K - 4503599627370496) = K by omega, show (-1074 : Int) + ((Q + 1 - 1 : Nat) : Int) = e + m.log2 - 52 by omega]
    rfl

theorem andNot_top (s : Bool) (r : Nat) (h : r < 9218868437227405312) : bits .andNot .u64 ((Ieee.double.word s r : Nat) : Int) 9223372036854775808 = (r : Int) := by
  have c1 : Ieee.double.signWeight = 9223372036854775808 := rfl
  have hw : Ieee.double.word s r < 18446744073709551616 := by unfold Ieee.Format.word; rw [c1]; split <;> omega
  have h2 := u64_andNot_nat (Ieee.double.word s r) 9223372036854775808 hw (by omega)
  rw [show ((9223372036854775808 : Nat) : Int) = 9223372036854775808 from rfl] at h2
  rw [h2, show 18446744073709551615 - 9223372036854775808 = 2 ^ 63 - 1 from rfl, Nat.and_two_pow_sub_one_eq_mod]
  unfold Ieee.Format.word
  rw [c1]
  congr 1
  split <;> omega

theorem conv_up {x : Nat} (hx : fin32 x = true) : ∃ s r a m e e', r < 9218868437227405312 ∧ floatToFloatBits .f32 x .f64 = some (Ieee.double.word s r) ∧ Ieee.single.read x = .number s m e ∧ Ieee.double.read r = .number false (m <<< a) e' ∧ (m ≠ 0 → e' = e - a) := by
  obtain ⟨s, m, e, h0, h1, h2, h3, h4, h5, h6, h7⟩ := read32_parts hx
  obtain ⟨r, a, e', b1, b2, b3, b4⟩ := double_of (s := s) h2 h3 h4
  refine ⟨s, r, a, m, e, e', b1, ?_, h0, b3, b4⟩
  unfold floatToFloatBits
  rw [if_neg (by decide), show FloatKind.f32.decode x = Ieee.single.read x from rfl, h0]
  have b5 : FloatKind.f64.encode (.number s m e) = Ieee.double.word s r := b2
  have b6 := read_word64 s r b1
  simp only [b5]
  rw [if_neg (by rw [show FloatKind.f64.decode (Ieee.double.word s r) = Ieee.double.read (Ieee.double.word s r) from rfl, b6.2]; simp)]

theorem abs_fin {x : Nat} (hx : fin32 x = true) : fin32 (abs32 x) = true := by
  obtain ⟨s, m, e, h0, h1, h2, h3, h4, h5, h6, h7⟩ := read32_parts hx
  unfold fin32 Ieee.Format.read
  have c1 : Ieee.single.signWeight = 2147483648 := rfl
  have c2 : Ieee.single.binade = 8388608 := rfl
  have c3 : Ieee.single.infRung = 2139095040 := rfl
  simp only [c1, c2, c3]
  have q : abs32 x % 2147483648 = abs32 x := by omega
  rw [q]
  by_cases h1 : abs32 x < 8388608
  · rw [if_pos h1]
  · rw [if_neg h1, if_pos h5]
theorem conv_down {x : Nat} (hx : fin32 x = true) {s : Bool} {m r a : Nat} {e e' : Int} (h0 : Ieee.single.read x = .number s m e) (h1 : Ieee.double.read r = .number false (m <<< a) e') (h2 : m ≠ 0 → e' = e - a) :
    floatToFloatBits .f64 r .f32 = some (abs32 x) := by
  unfold floatToFloatBits
  rw [if_neg (by decide), show FloatKind.f64.decode r = Ieee.double.read r from rfl, h1]
  have hn : Ieee.single.nearest false (m <<< a) e' = abs32 x := by
    by_cases hm : m = 0
    · obtain ⟨s', m', e2, g0, g1, g2, g3, g4, g5, g6, g7⟩ := read32_parts hx
      rw [h0] at g0
      cases g0
      subst hm
      have := g7 (by omega)
      unfold Ieee.Format.nearest
      rw [if_pos (by simp)]
      show 0 = abs32 x
      omega
    · have := nearest_back hx h0 false a e' (h2 hm)
      rw [this]; rfl
  have b5 : FloatKind.f32.encode (.number false (m <<< a) e') = abs32 x := hn
  simp only [b5]
  have hf := abs_fin hx
  have : (FloatKind.f32.decode (abs32 x)).isInfinity = false := by
    show (Ieee.single.read (abs32 x)).isInfinity = false
    unfold fin32 at hf
    cases h : Ieee.single.read (abs32 x) with
    | number => rfl
    | infinity => rw [h] at hf; simp at hf
    | nan => rw [h] at hf; simp at hf
  rw [if_neg (by rw [this]; simp)]

end Go.Proofs.Ytkfiepiipigcmaa
