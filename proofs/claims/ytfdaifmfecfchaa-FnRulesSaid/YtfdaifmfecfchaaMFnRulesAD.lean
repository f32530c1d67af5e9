/-
  FnRules: texts joined: Left, LeftI, LeftS, Quo, SimM, SortM.
-/
import Derived.Deep.RegionLaw
import Derived.Sort.LotA
import Derived.Sort.WalkA
import Derived.Test.YtfdaifmfecfchaaMFnRulesAB
import Derived.Test.YtfdaifmfecfchaaMFnRulesAC
namespace Go.Proofs.Ytfdaifmfecfchaa
open Go.RowKit

def rowO (r : RowsD) (i : Nat) : List Nat := (r.nums.drop (i * r.gains.length)).take r.gains.length
def leftO (r : RowsD) (x : List Nat) (i : Nat) : Option Nat := (dotO (rowO r i) x r.gains.length).bind fun s => Ieee.single.sub (r.bnds.getD i 0) s
noncomputable def fitX (r : RowsD) (x : List Nat) : Bool := validR r && (((x.length : Int) == r.vars) && allFin x)
noncomputable def leftOk (r : RowsD) (x : List Nat) : Bool := fitX r x && (List.range r.bnds.length).all fun i => finO (leftO r x i)
def leftL (r : RowsD) (x : List Nat) : List Nat := (List.range r.bnds.length).map fun i => (leftO r x i).getD 0
noncomputable def leftR (r : RowsD) (x : List Nat) : List Nat := if leftOk r x = true then leftL r x else []
def gainO (r : RowsD) (x : List Nat) : Option Nat := dotO r.gains x r.gains.length
noncomputable def gainOk (r : RowsD) (x : List Nat) : Bool := fitX r x && finO (gainO r x)
noncomputable def gainV (r : RowsD) (x : List Nat) : Nat := if gainOk r x = true then (gainO r x).getD 0 else 0

theorem sub_nanR {x y : Nat} (h : nan32 y = true) : Ieee.single.sub x y = none := by
  unfold nan32 at h
  unfold Ieee.Format.sub
  cases hr : Ieee.single.read y with
  | nan a b => cases Ieee.single.read x <;> simp [Ieee.Datum.sum, Ieee.Datum.opposite]
  | infinity s => rw [hr] at h; simp [Ieee.Datum.isNaN] at h
  | number s m e => rw [hr] at h; simp [Ieee.Datum.isNaN] at h
theorem left_some {r : RowsD} {x : List Nat} {i s q : Nat} (h : Mt (dotO (rowO r i) x r.gains.length) s) (hq : Ieee.single.sub (r.bnds.getD i 0) s = some q) : Mt (leftO r x i) q := by
  unfold leftO
  cases hd : dotO (rowO r i) x r.gains.length with
  | none => rw [hd] at h; rw [sub_nanR (h.2 rfl)] at hq; cases hq
  | some s' =>
    rw [hd] at h
    rw [h.of_some] at hq
    simp only [Option.bind_some, hq]
    exact Mt.some' q
theorem left_none {r : RowsD} {x : List Nat} {i s : Nat} (h : Mt (dotO (rowO r i) x r.gains.length) s) (hq : Ieee.single.sub (r.bnds.getD i 0) s = none) (q : Nat) (hn : nan32 q = true) : Mt (leftO r x i) q := by
  have : leftO r x i = none := by
    unfold leftO
    cases hd : dotO (rowO r i) x r.gains.length with
    | none => rfl
    | some s' =>
      rw [hd] at h
      rw [h.of_some] at hq
      simp only [Option.bind_some, hq]
  rw [this]
  exact ⟨fun r h => by simp at h, fun _ => hn⟩

theorem rowO_len {r : RowsD} (hv : ValR r) {i : Nat} (hi : i < r.bnds.length) : (rowO r i).length = r.gains.length := by
  have h1 := hv.gl
  have h2 := hv.nl
  rw [← h1] at h2
  have h3 : r.nums.length = r.gains.length * r.bnds.length := by exact_mod_cast h2
  have h4 : (i + 1) * r.gains.length ≤ r.nums.length := by rw [h3, Nat.mul_comm]; exact Nat.mul_le_mul_left _ hi
  rw [Nat.add_mul] at h4
  unfold rowO
  rw [List.length_take, List.length_drop]
  omega
theorem rowO_fin {r : RowsD} (hv : ValR r) (i : Nat) : allFin (rowO r i) = true := by
  have h := hv.fn
  unfold allFin at h ⊢
  rw [List.all_eq_true] at h ⊢
  intro y hy
  unfold rowO at hy
  exact h y (List.mem_of_mem_drop (List.mem_of_mem_take hy))

/-- A piece of a slice of numbers reads. -/
theorem rdF_piece {w : World} {b off n cap : Nat} {xs : List Nat} (h : RdF w (.slice (some ⟨b, off, none⟩) n cap) xs) (m k : Nat) (hk : m + k ≤ xs.length) (c2 : Nat) (hc : k ≤ c2) (hc2 : c2 ≤ maxLen) : RdF w (.slice (some ⟨b, off + m, none⟩) k c2) ((xs.drop m).take k) := by
  have hl : ((xs.drop m).take k).length = k := by rw [List.length_take, List.length_drop]; omega
  refine .inr ⟨⟨b, off + m, none⟩, c2, by rw [List.length_map, hl], by rw [List.length_map, hl]; exact hc, hc2, fun i u hi => ?_⟩
  simp only [List.getElem?_map, Option.map_eq_some_iff] at hi
  obtain ⟨q, hq, rfl⟩ := hi
  have hlt : i < k := by have := (List.getElem?_eq_some_iff.1 hq).1; omega
  rw [List.getElem?_take_of_lt hlt, List.getElem?_drop] at hq
  obtain ⟨b', off', e, _, hcell⟩ := h.at (i := m + i) (by omega)
  simp only [Option.some.injEq, Addr.mk.injEq, and_true] at e
  obtain ⟨rfl, rfl⟩ := e
  have e2 : xs.getD (m + i) 0 = q := by rw [List.getD_eq_getElem?_getD, hq]; rfl
  rw [e2] at hcell
  have : (⟨b, off + m, none⟩ : Addr).add i = ⟨b, off + (m + i), none⟩ := by
    unfold Addr.add
    by_cases hz : i = 0
    · simp [hz]
    · simp [hz, Nat.add_assoc]
  rw [this]
  exact hcell

set_option maxHeartbeats 2000000 in
theorem row_any (v : Value) (r : RowsD) (i : Nat) (w : World) (h : RdR w v r) (hv : ValR r) (hi : i < r.bnds.length) :
    Calls Try.prog 74 #[v, .int .i64 i] w fun e w' => ∃ u, e = .returned u ∧ RdF w' u (rowO r i) ∧ Below w.heap.size w w' := by
  obtain ⟨a1, c1, a2, c2, a3, c3, rfl⟩ := h.shape
  obtain ⟨p1, p2, p3⟩ := h.parts
  have hlen := rowO_len hv hi
  have hb8 := hv.b8
  have hv8 := hv.v8
  have hv1 := hv.v1
  have hgl := hv.gl
  have hnl := hv.nl
  have l1 := p1.len
  obtain ⟨n0, x1, x2, x3⟩ := r
  simp only at p1 p2 p3 hlen hb8 hv8 hv1 hgl hnl hi l1 ⊢
  unfold maxLen at l1
  obtain rfl := hgl
  obtain ⟨V, hV⟩ : ∃ V, V = x3.length := ⟨_, rfl⟩
  have hnl2 : x1.length = V * x2.length := by rw [hV]; exact_mod_cast hnl
  obtain ⟨m, hm⟩ : ∃ m, m = i * V := ⟨_, rfl⟩
  have hmm : m + V ≤ x1.length := by
    rw [hm, hnl2, Nat.mul_comm V, ← Nat.succ_mul]
    exact Nat.mul_le_mul_right _ hi
  have hx64 : x1.length ≤ 64 := by rw [hnl2]; exact Nat.le_trans (Nat.mul_le_mul (by omega) hb8) (by decide : 8 * 8 ≤ 64)
  have e1 : (i : Int) * (V : Int) = (m : Int) := by rw [hm]; push_cast; rfl
  have e2 : ((i : Int) + 1) * (V : Int) = (m : Int) + (V : Int) := by rw [Int.add_mul, e1, Int.one_mul]
  have P1 := Lib.hid p1
  have hnz : 0 < x1.length := by omega
  obtain ⟨b, off, rfl, hb0, _⟩ := p1.at hnz
  have hc1 : x1.length ≤ c1 ∧ c1 ≤ maxLen := by
    rcases p1 with ⟨e, _⟩ | ⟨ad, cap', e, q1, q2, _⟩
    · cases e
    · simp only [Value.slice.injEq] at e
      obtain ⟨_, _, rfl⟩ := e
      simpa using And.intro q1 q2
  obtain ⟨hc1a, hc1b⟩ := hc1
  have HC := Lib.hid hc1b
  unfold maxLen at hc1b
  have HV := Lib.hid hV
  have HM := Lib.hid hm
  rw [← hV] at hv8 hv1 ⊢
  have hi8 : i < 8 := by omega
  clear h p1 p2 p3 hlen hnl hnl2 hm hV
  go_enter Try.func74, Try.ntmps74
  go_wp2_with fail
  go_ret
  refine ⟨_, rfl, ?_, by (repeat' first | exact Below.refl _ _ | assumption | refine Below.alloc ?_ ?_ _ | refine Below.setCell ?_ ?_ _ | refine Below.drew ?_ | (simp; done) | (simp; omega))⟩
  simp
  have hb : Below w.heap.size w (w.alloc (.cells #[.int .i64 V, .slice (some ⟨b, off, none⟩) x1.length c1, .slice a2 x2.length c2, .slice a3 V c3] 61)) := (Below.refl _ _).alloc (Nat.le_refl _) _
  have hp := rdF_piece (P1.out.up hb (Nat.le_refl _)) m V hmm (c1 - m) (by omega) (by have := HC.out; omega)
  unfold rowO
  simp only
  rw [← HV.out, ← HM.out]
  exact hp

/-- The post of what returns a number and whether it is one. -/
def NumPost (q : Bool) (s : Nat) (B : Nat) (w : World) (e : Ending) (w' : World) : Prop := e = .returned (.tuple #[.float .f32 s, .bool q]) ∧ Below B w w'

end Go.Proofs.Ytfdaifmfecfchaa

namespace Go.Proofs.Ytfdaifmfecfchaa
open Go.RowKit

/-- The post of what returns a list and whether there is one. -/
def ListPost (q : Bool) (L : List Nat) (B : Nat) (w : World) (e : Ending) (w' : World) : Prop := ∃ v, e = .returned (.tuple #[v, .bool q]) ∧ RdF w' v L ∧ Below B w w'

theorem left_all {r : RowsD} {x ys : List Nat} (hl : ys.length = r.bnds.length) (h : ∀ j, j < r.bnds.length → Mt (leftO r x j) (ys.getD j 0)) : allFin ys = (List.range r.bnds.length).all fun i => finO (leftO r x i) := by
  rw [Bool.eq_iff_iff]
  constructor
  · intro ha
    rw [List.all_eq_true]
    intro i hi
    have hi' := List.mem_range.1 hi
    rw [← (h i hi').fin]
    exact allFin_get ha (by omega)
  · intro ha
    rw [List.all_eq_true] at ha
    refine allFin_yes fun i hi => ?_
    rw [(h i (by omega)).fin]
    exact ha i (List.mem_range.2 (by omega))
theorem left_eq {r : RowsD} {x ys : List Nat} (hl : ys.length = r.bnds.length) (h : ∀ j, j < r.bnds.length → Mt (leftO r x j) (ys.getD j 0)) (ha : allFin ys = true) : ys = leftL r x := by
  apply List.ext_getElem?
  intro i
  unfold leftL
  by_cases hi : i < r.bnds.length
  · have h1 := h i hi
    have h2 := allFin_get ha (i := i) (by omega)
    rw [h1.fin] at h2
    have h3 : ys[i]? = some (ys.getD i 0) := by simp [show i < ys.length by omega]
    rw [h3]
    simp only [List.getElem?_map, List.getElem?_range hi, Option.map_some]
    cases ho : leftO r x i with
    | none => rw [ho] at h2; cases h2
    | some g => rw [ho] at h1; rw [h1.of_some]; rfl
  · rw [List.getElem?_eq_none (by omega), List.getElem?_eq_none (by simp; omega)]

theorem getD_snoc_lt (ys : List Nat) (q j : Nat) (h : j < ys.length) : (ys ++ [q]).getD j 0 = ys.getD j 0 := by
  rw [List.getD_eq_getElem?_getD, List.getD_eq_getElem?_getD, List.getElem?_append_left h]
theorem getD_snoc_eq (ys : List Nat) (q j : Nat) (h : j = ys.length) : (ys ++ [q]).getD j 0 = q := by
  subst h; rw [List.getD_eq_getElem?_getD]; simp

theorem run_sub_none' {P : Program} (t : TypeId) (x y : Nat) (h : Ieee.single.sub x y = none) (w : World) :
    (binOp .sub t (.float .f32 x) (.float .f32 y)).run P w = .ok (.float .f32 (tape32 (.nanBits .f32 x y) w)) w.drew := run_sub_none t x y h w

set_option maxHeartbeats 4000000 in
set_option maxRecDepth 4000 in
theorem implLeft_any (v : Value) (r : RowsD) (u : Value) (x : List Nat) (w : World) (h : RdR w v r) (hu : RdF w u x) :
    Calls Try.prog 73 #[v, u] w (ListPost (leftOk r x) (leftR r x) w.heap.size w) := by
  obtain ⟨a1, c1, a2, c2, a3, c3, rfl⟩ := h.shape
  obtain ⟨a, c, rfl⟩ := hu.shape
  obtain ⟨p1, p2, p3⟩ := h.parts
  have HP := Lib.hid h
  have HU := Lib.hid hu
  have H2 := Lib.hid p2
  obtain ⟨n0, x1, x2, x3⟩ := r
  simp only at HP H2 ⊢
  clear h hu p1 p2 p3
  go_enter Try.func73, Try.ntmps73
  go_wp2_with fail
  refine Calls.at fun W hW => ?_
  have hb := Lib.hid (show Below w.heap.size w W by subst hW; (repeat' first | exact Below.refl _ _ | assumption | refine Below.alloc ?_ ?_ _ | refine Below.setCell ?_ ?_ _ | refine Below.drew ?_ | (simp; done) | (simp; omega)))
  have hk := Lib.hid (show Blk W w.heap.size 61 #[.int .i64 n0, .slice a1 x1.length c1, .slice a2 x2.length c2, .slice a3 x3.length c3] by subst hW; exact Blk.new _ _ _)
  clear hW
  refine (ValidRows_any _ ⟨n0, x1, x2, x3⟩ W (HP.out.up hb.out (Nat.le_refl _))).mono ?_
  rintro e w1 ⟨rfl, hb1⟩
  have HB1 := Lib.hid (hb.out.trans (hb1.mono hb.out.size))
  have HK1 := Lib.hid (hk.out.below hb1 hk.out.lt)
  clear hb1 hb hk
  by_cases hv : validR ⟨n0, x1, x2, x3⟩ = true
  case neg =>
    rw [Bool.not_eq_true] at hv
    have HNO := Lib.hid (show leftOk ⟨n0, x1, x2, x3⟩ x = false by unfold leftOk fitX; rw [hv]; rfl)
    have HNV := Lib.hid (show leftR ⟨n0, x1, x2, x3⟩ x = [] by unfold leftR; rw [HNO.out]; rfl)
    rw [hv]
    clear hv
    go_wp2_with fail
    go_ret2
    exact ⟨.slice none 0 0, by rw [HNO.out]; rfl, by rw [HNV.out]; exact Slc.nil _, HB1.out⟩
  have HV := Lib.hid (validR_iff.1 hv)
  have HVB := Lib.hid hv
  rw [hv]
  clear hv
  have d0 : w1.cell? ⟨w.heap.size, 0, none⟩ = some (.int .i64 n0) := HK1.out.cell 0 rfl
  have d1 : w1.cell? ⟨w.heap.size, 1, none⟩ = some (.slice a1 x1.length c1) := HK1.out.cell 1 rfl
  have d2 : w1.cell? ⟨w.heap.size, 2, none⟩ = some (.slice a2 x2.length c2) := HK1.out.cell 2 rfl
  have d3 : w1.cell? ⟨w.heap.size, 3, none⟩ = some (.slice a3 x3.length c3) := HK1.out.cell 3 rfl
  go_wp2_with fail
  refine (isX_any _ ⟨n0, x1, x2, x3⟩ _ x w1 (HP.out.up HB1.out (Nat.le_refl _)) (HU.out.up HB1.out (Nat.le_refl _))).mono ?_
  rintro e w2 ⟨rfl, hb2⟩
  simp only
  have HB2 := Lib.hid (HB1.out.trans (hb2.mono HB1.out.size))
  have HK2 := Lib.hid (HK1.out.below hb2 HK1.out.lt)
  clear hb2 d0 d1 d2 d3
  by_cases hx : (((x.length : Int) == n0) && allFin x) = true
  case neg =>
    rw [Bool.not_eq_true] at hx
    have HNO := Lib.hid (show leftOk ⟨n0, x1, x2, x3⟩ x = false by unfold leftOk fitX; simp only [hx, Bool.and_false, Bool.false_and])
    have HNV := Lib.hid (show leftR ⟨n0, x1, x2, x3⟩ x = [] by unfold leftR; rw [HNO.out]; rfl)
    rw [hx]
    clear hx
    go_wp2_with fail
    go_ret2
    exact ⟨.slice none 0 0, by rw [HNO.out]; rfl, by rw [HNV.out]; exact Slc.nil _, HB2.out⟩
  have HFX := Lib.hid (show fitX ⟨n0, x1, x2, x3⟩ x = true by unfold fitX; rw [HVB.out]; exact hx)
  rw [hx]
  simp only [Bool.and_eq_true, beq_iff_eq] at hx
  have HX := Lib.hid hx
  have HXL := Lib.hid (show x3.length = x.length by have h1 := HV.out.gl; have h2 := hx.1; simp only at h1; omega)
  have hb8 : x2.length ≤ 8 := HV.out.b8
  clear hx
  have d2 : w2.cell? ⟨w.heap.size, 2, none⟩ = some (.slice a2 x2.length c2) := HK2.out.cell 2 rfl
  go_wp2_with fail
  go_loopw [6, 21] (fun out kk wr => ∃ (k : Nat) (b : Option Addr) (cap : Nat) (ys : List Nat), kk = .int .i64 k ∧ k ≤ x2.length ∧ out = .slice b k cap ∧ Hid (ys.length = k) ∧ Hid (∀ j, j < k → Mt (leftO ⟨n0, x1, x2, x3⟩ x j) (ys.getD j 0)) ∧ Hid (wr.ownsRow (w.heap.size + 1) 53 1 (.slice b k cap) k (ys.map F32)) ∧ Hid (Below (w.heap.size + 1) w2 wr)) (fun _ kk _ => x2.length - (intOf kk).toNat)
  case atStart => exact ⟨0, none, 0, [], rfl, Nat.zero_le _, rfl, rfl, fun j hj => by omega, World.ownsRow_nil _ _ _ _, Below.refl _ _⟩
  case round =>
    obtain ⟨k, b, cap, ys, rfl, hk, rfl, hyl, hall, HO, HBR⟩ := hrel
    have hK1 := HK2.out.lt
    have HKr := Lib.hid (HK2.out.below HBR.out (by omega))
    have HB := Lib.hid (HB2.out.trans (HBR.out.mono (by omega)))
    by_cases hlt : k < x2.length
    · obtain ⟨ub, uo, rfl, _, hc⟩ := (H2.out.up HB.out (Nat.le_refl _)).at hlt
      obtain ⟨y, hy⟩ : ∃ y, y = x2.getD k 0 := ⟨_, rfl⟩
      rw [← hy] at hc
      have HY := Lib.hid hy
      clear hy
      have d0 : wr.cell? ⟨w.heap.size, 0, none⟩ = some (.int .i64 n0) := HKr.out.cell 0 rfl
      have d1 : wr.cell? ⟨w.heap.size, 1, none⟩ = some (.slice a1 x1.length c1) := HKr.out.cell 1 rfl
      have d2 : wr.cell? ⟨w.heap.size, 2, none⟩ = some (.slice (some ⟨ub, uo, none⟩) x2.length c2) := HKr.out.cell 2 rfl
      have d3 : wr.cell? ⟨w.heap.size, 3, none⟩ = some (.slice a3 x3.length c3) := HKr.out.cell 3 rfl
      go_wp2_with fail
      refine (row_any _ ⟨n0, x1, x2, x3⟩ k wr (HP.out.up HB.out (Nat.le_refl _)) HV.out hlt).mono ?_
      rintro e w3 ⟨ru, rfl, hru, hb3⟩
      obtain ⟨ra, rc, rfl⟩ := hru.shape
      have HRU := Lib.hid hru
      have HO3 := Lib.hid (owns_below HO.out hb3 (Nat.le_refl _))
      have HBR3 := Lib.hid (HBR.out.trans (hb3.mono (Nat.le_trans (by omega : w.heap.size + 1 ≤ w2.heap.size) HBR.out.size)))
      have HB3 := Lib.hid (HB2.out.trans (HBR3.out.mono (by omega)))
      clear hru hb3 d0 d1 d2 d3 hc
      obtain ⟨L, hL⟩ : ∃ L, L = (rowO ⟨n0, x1, x2, x3⟩ k).length := ⟨_, rfl⟩
      rw [← hL] at HRU ⊢
      have HL := Lib.hid hL
      have HLV := Lib.hid (show L = x3.length by rw [hL]; exact rowO_len HV.out hlt)
      clear hL
      go_wp2_with fail
      refine (dot_any _ _ (rowO ⟨n0, x1, x2, x3⟩ k) x w3 HRU.out (HU.out.up HB3.out (Nat.le_refl _)) (by rw [← HL.out, HLV.out, HXL.out]; exact Nat.le_refl _) (rowO_fin HV.out k) HX.out.2).mono ?_
      rintro e w4 ⟨s, rfl, hs, m4, rfl⟩
      have HS := Lib.hid (show Mt (dotO (rowO ⟨n0, x1, x2, x3⟩ k) x x3.length) s by rw [← HLV.out, HL.out]; exact hs)
      clear hs
      have hsz3 : w.heap.size + 1 ≤ w3.heap.size := Nat.le_trans (by omega : w.heap.size + 1 ≤ w2.heap.size) HBR3.out.size
      have HOn := Lib.hid (show ∀ n, (w3.drewN n).ownsRow (w.heap.size + 1) 53 1 (.slice b k cap) k (ys.map F32) from fun n => HO3.out)
      cases hq : Ieee.single.sub y s with
      | some q =>
        have hsub := fun (W : World) => run_sub_some (P := Try.prog) 53 _ _ q hq W
        have HM := Lib.hid (left_some (r := ⟨n0, x1, x2, x3⟩) (x := x) (i := k) HS.out (by simp only; rw [← HY.out]; exact hq))
        clear hq
        go_wp2_with (at_builtin; refine app_flts rfl _ _ rfl (w.heap.size + 1) (.slice b k cap) k ys rfl (owns_below (HOn.out _) ((Below.refl _ _).alloc (Nat.le_refl _) _) (Nat.le_refl _)) _ [_] rfl (slcF_one _ _) (k + 1) (ys ++ [_]) (by simp) rfl (by omega) (by simp; omega) ?_; intro a2 cap2 w5 hown hbl hg _)
        go_roundw
        case rel =>
          refine ⟨k + 1, a2, cap2, ys ++ [_], by go_num, by omega, rfl, Lib.hid (by simp [hyl.out]), fun j hj => ?_, hown, ((below_drewN HBR3.out _).alloc (by simp; omega) _).trans hbl⟩
          by_cases hjk : j < k
          · rw [getD_snoc_lt _ _ _ (by rw [hyl.out]; exact hjk)]; exact hall.out j hjk
          · obtain rfl : j = k := by omega
            rw [getD_snoc_eq _ _ _ hyl.out.symm]; exact HM.out
        case measure => simp [intOf]; omega
      | none =>
        have hsub := fun (W : World) => run_sub_none (P := Try.prog) 53 _ _ hq W
        have HM := Lib.hid (left_none (r := ⟨n0, x1, x2, x3⟩) (x := x) (i := k) HS.out (by simp only; rw [← HY.out]; exact hq))
        clear hq
        go_wp2_with (at_builtin; refine app_flts rfl _ _ rfl (w.heap.size + 1) (.slice b k cap) k ys rfl (owns_below (HOn.out _) ((Below.refl _ _).alloc (Nat.le_refl _) _) (Nat.le_refl _)) _ [_] rfl (slcF_one _ _) (k + 1) (ys ++ [_]) (by simp) rfl (by omega) (by simp; omega) ?_; intro a2 cap2 w5 hown hbl hg _)
        go_roundw
        case rel =>
          refine ⟨k + 1, a2, cap2, ys ++ [_], by go_num, by omega, rfl, Lib.hid (by simp [hyl.out]), fun j hj => ?_, hown, ((below_drewN HBR3.out _).alloc (by simp; omega) _).trans hbl⟩
          by_cases hjk : j < k
          · rw [getD_snoc_lt _ _ _ (by rw [hyl.out]; exact hjk)]; exact hall.out j hjk
          · obtain rfl : j = k := by omega
            rw [getD_snoc_eq _ _ _ hyl.out.symm]; exact HM.out _ (tape32_nan _ _ _)
        case measure => simp [intOf]; omega
    · obtain rfl : k = x2.length := by omega
      have HA := Lib.hid (left_all (r := ⟨n0, x1, x2, x3⟩) (x := x) hyl.out hall.out)
      have HE := Lib.hid (left_eq (r := ⟨n0, x1, x2, x3⟩) (x := x) hyl.out hall.out)
      have HR := Lib.hid (show RdF wr (.slice b x2.length cap) ys from slc_of_owns HO.out)
      have HLO := Lib.hid (show leftOk ⟨n0, x1, x2, x3⟩ x = allFin ys by unfold leftOk; rw [HFX.out, Bool.true_and, HA.out])
      go_wp2_with fail
      refine (areFinite_any _ ys _ (by rw [← hyl.out] at HR; rw [← hyl.out]; exact HR.out)).mono ?_
      rintro e w4 ⟨rfl, m4, rfl⟩
      obtain ⟨q, hq⟩ : ∃ q, q = allFin ys := ⟨_, rfl⟩
      rw [← hq]
      have HQ := Lib.hid hq
      clear hq
      cases q
      · have HNV := Lib.hid (show leftR ⟨n0, x1, x2, x3⟩ x = [] by unfold leftR; rw [HLO.out, ← HQ.out]; rfl)
        go_wp2_with fail
        go_ret2
        exact ⟨.slice none 0 0, by rw [HLO.out, ← HQ.out]; rfl, by rw [HNV.out]; exact Slc.nil _, below_drewN HB.out _⟩
      · have HNV := Lib.hid (show leftR ⟨n0, x1, x2, x3⟩ x = ys by unfold leftR; rw [HLO.out, ← HQ.out, if_pos rfl]; exact (HE.out HQ.out.symm).symm)
        go_wp2_with fail
        go_ret2
        exact ⟨_, by rw [HLO.out, ← HQ.out]; rfl, by rw [HNV.out]; exact HR.out, below_drewN HB.out _⟩

end Go.Proofs.Ytfdaifmfecfchaa

namespace Go.Proofs.Ytfdaifmfecfchaa
open Go.RowKit

/-- A difference, a number or a NaN that the tape names. -/
def subV (x y : Nat) (w : World) : Nat := match Ieee.single.sub x y with
  | some r => r
  | none => tape32 (.nanBits .f32 x y) w
def subD (x y : Nat) : Nat := match Ieee.single.sub x y with
  | some _ => 0
  | none => 1
theorem run_sub_all {P : Program} (t : TypeId) (x y : Nat) (w : World) : (binOp .sub t (.float .f32 x) (.float .f32 y)).run P w = .ok (.float .f32 (subV x y w)) (w.drewN (subD x y)) := by
  unfold subV subD
  cases h : Ieee.single.sub x y with
  | some r => exact run_sub_some t x y r h w
  | none => exact run_sub_none t x y h w
theorem left_all' {r : RowsD} {x : List Nat} {i s : Nat} {y : Nat} (hy : y = r.bnds.getD i 0) (h : Mt (dotO (rowO r i) x r.gains.length) s) (w : World) : Mt (leftO r x i) (subV y s w) := by
  subst hy
  unfold subV
  cases hq : Ieee.single.sub (r.bnds.getD i 0) s with
  | some q => exact left_some h hq
  | none => exact left_none h hq _ (tape32_nan _ _ _)

theorem slcF_oneB (w : World) (z b : Nat) (hb : b = w.heap.size) : Slc (w.alloc (.cells #[.float .f32 z] 53)) (.slice (some ⟨b, 0, none⟩) 1 1) ([z].map F32) := by subst hb; exact slcF_one w z

end Go.Proofs.Ytfdaifmfecfchaa

namespace Go.Proofs.Ytfdaifmfecfchaa
open Go.RowKit

def gtF (a b : Nat) : Bool := Ieee.single.order a b == some .gt
def divV (x m : Nat) : Nat := (Ieee.single.div x m).getD 0

theorem datum_swap (a b : Ieee.Datum) : a.order b = (b.order a).map Ordering.swap := by
  cases a <;> cases b <;> simp only [Ieee.Datum.order, Option.map_none, Option.map_some]
  · rename_i s m i t n j
    rw [Int.min_comm, ← Std.OrientedCmp.eq_swap]
  · rename_i s _ _ t; cases t <;> rfl
  · rename_i s t _ _; cases s <;> rfl
  · rw [← Std.OrientedCmp.eq_swap]
theorem order_swap (a b : Nat) : Ieee.single.order a b = (Ieee.single.order b a).map Ordering.swap := datum_swap _ _
theorem order_fin {a b : Nat} (ha : fin32 a = true) (hb : fin32 b = true) : ∃ o, Ieee.single.order a b = some o := by
  obtain ⟨s, m, e, h, _⟩ := read32_parts ha
  obtain ⟨s', m', e', h', _⟩ := read32_parts hb
  unfold Ieee.Format.order
  rw [h, h']
  exact ⟨_, rfl⟩
theorem gt_lt {a b : Nat} (h : gtF a b = true) : FloatKind.f32.format.order b a = some .lt := by
  show Ieee.single.order b a = _
  unfold gtF at h
  simp only [beq_iff_eq] at h
  rw [order_swap, h]; rfl
theorem gt_gt {a b : Nat} (h : gtF a b = true) : FloatKind.f32.format.order a b = some .gt := by
  show Ieee.single.order a b = _
  unfold gtF at h
  simpa using h
theorem not_gt {a b : Nat} (ha : fin32 a = true) (hb : fin32 b = true) (h : gtF a b = false) : FloatKind.f32.format.order b a = some .gt ∨ FloatKind.f32.format.order b a = some .eq := by
  show Ieee.single.order b a = _ ∨ Ieee.single.order b a = _
  obtain ⟨o, ho⟩ := order_fin hb ha
  rw [ho]
  cases o
  · rw [order_swap] at ho
    unfold gtF at h
    cases hx : Ieee.single.order a b with
    | none => rw [hx] at ho; simp at ho
    | some q => rw [hx] at ho h; cases q <;> simp_all
  · exact .inr rfl
  · exact .inl rfl
theorem not_gt_b {a b : Nat} (h : gtF a b = false) : (FloatKind.f32.format.order a b == some .gt) = false := h
theorem yes_gt_b {a b : Nat} (h : gtF a b = true) : (FloatKind.f32.format.order a b == some .gt) = true := h
theorem fin0 : fin32 0 = true := by decide +kernel
theorem div_some {x m : Nat} (hx : fin32 x = true) (hm : fin32 m = true) (hp : gtF m 0 = true) : Ieee.single.div x m = some (divV x m) := by
  obtain ⟨s, a, e, h, _⟩ := read32_parts hx
  obtain ⟨s', a', e', h', _⟩ := read32_parts hm
  have hn : a' ≠ 0 := by
    intro e0
    subst e0
    unfold gtF Ieee.Format.order at hp
    rw [h', show Ieee.single.read 0 = .number false 0 (-149) by decide +kernel] at hp
    simp [Ieee.Datum.order, Ieee.signed] at hp
  unfold divV Ieee.Format.div
  rw [h, h']
  simp only [Ieee.Datum.quotient, if_neg hn, Option.map_some, Option.getD_some]
theorem run_div_some {P : Program} (t : TypeId) {x y : Nat} (h : Ieee.single.div x y = some (divV x y)) (w : World) :
    (binOp .quo t (.float .f32 x) (.float .f32 y)).run P w = .ok (.float .f32 (divV x y)) w := run_float_arith w .quo t .f32 x y _ h

/-- What a number is worth, in the least unit. -/
def valI (x : Nat) : Int := match Ieee.single.read x with
  | .number s m e => Ieee.signed s m (e + 149).toNat
  | _ => 0
theorem valI_of {x m : Nat} {s : Bool} {e : Int} (h : Ieee.single.read x = .number s m e) : valI x = Ieee.signed s m (e + 149).toNat := by unfold valI; rw [h]
theorem signed_eq (s : Bool) (m k : Nat) : Ieee.signed s m k = (if s = true then -1 else 1) * ((m * 2 ^ k : Nat) : Int) := by
  unfold Ieee.signed
  rw [Nat.shiftLeft_eq]
  cases s <;> simp
theorem signed_shift (s : Bool) (m k d : Nat) : Ieee.signed s m (k + d) = Ieee.signed s m k * ((2 ^ d : Nat) : Int) := by
  rw [signed_eq, signed_eq, Nat.pow_add, ← Nat.mul_assoc, Int.natCast_mul, Int.mul_assoc]
theorem cmp_mul (a b : Int) (d : Nat) (h : 0 < d) : compare (a * (d : Int)) (b * (d : Int)) = compare a b := by
  have hd : (0 : Int) < (d : Int) := by omega
  rcases Int.lt_trichotomy a b with h1 | h1 | h1
  · rw [Int.compare_eq_lt.2 h1, Int.compare_eq_lt.2 (Int.mul_lt_mul_of_pos_right h1 hd)]
  · rw [h1]; simp
  · rw [Int.compare_eq_gt.2 h1, Int.compare_eq_gt.2 (Int.mul_lt_mul_of_pos_right h1 hd)]
theorem order_val {x y : Nat} (hx : fin32 x = true) (hy : fin32 y = true) : Ieee.single.order x y = some (compare (valI x) (valI y)) := by
  obtain ⟨s, m, e, h, _, _, h1, _⟩ := read32_parts hx
  obtain ⟨t, n, j, h', _, _, h2, _⟩ := read32_parts hy
  rw [valI_of h, valI_of h']
  unfold Ieee.Format.order
  rw [h, h']
  simp only [Ieee.Datum.order]
  have e1 : (e + 149).toNat = (e - min e j).toNat + (min e j + 149).toNat := by omega
  have e2 : (j + 149).toNat = (j - min e j).toNat + (min e j + 149).toNat := by omega
  rw [e1, e2, signed_shift, signed_shift, cmp_mul _ _ _ (Nat.two_pow_pos _)]
theorem gtF_val {x y : Nat} (hx : fin32 x = true) (hy : fin32 y = true) : gtF x y = decide (valI y < valI x) := by
  unfold gtF
  rw [order_val hx hy]
  rcases Int.lt_trichotomy (valI x) (valI y) with h1 | h1 | h1
  · rw [Int.compare_eq_lt.2 h1, decide_eq_false (by omega)]; rfl
  · rw [h1, decide_eq_false (by omega)]; simp
  · rw [Int.compare_eq_gt.2 h1, decide_eq_true h1]; rfl


end Go.Proofs.Ytfdaifmfecfchaa

namespace Go.Proofs.Ytfdaifmfecfchaa
open Go.RowKit Go.Sort

/-- Numbers that are worth the same are the same, or both nothing. -/
theorem val_inj {x y : Nat} (hx : fin32 x = true) (hy : fin32 y = true) (h : valI x = valI y) : Ieee.single.read x = Ieee.single.read y ∨ valI x = 0 := by
  obtain ⟨s, m, e, h0, _, h2, h3, h4, h5, h6, h7⟩ := read32_parts hx
  obtain ⟨t, n, j, k0, _, k2, k3, k4, k5, k6, k7⟩ := read32_parts hy
  by_cases hz : valI x = 0
  · exact .inr hz
  left
  rw [valI_of h0, signed_eq] at h hz
  rw [valI_of k0, signed_eq] at h
  have key : ∀ (m n a b : Nat), m < 16777216 → (n < 8388608 → b = 0) → m * 2 ^ a = n * 2 ^ b → ¬ a < b := by
    intro m n a b hm hnb he hab
    obtain ⟨c, rfl⟩ : ∃ c, b = a + (c + 1) := ⟨b - a - 1, by omega⟩
    rw [Nat.pow_add, ← Nat.mul_assoc, Nat.mul_right_comm] at he
    have he2 := Nat.eq_of_mul_eq_mul_right (Nat.two_pow_pos a) he
    have h8 : 8388608 ≤ n := by
      rcases Nat.lt_or_ge n 8388608 with h | h
      · have := hnb h; omega
      · exact h
    have h9 : n * 2 ≤ n * 2 ^ (c + 1) := Nat.mul_le_mul_left n (by rw [Nat.pow_succ]; have := Nat.two_pow_pos c; omega)
    omega
  have hst : s = t ∧ m * 2 ^ (e + 149).toNat = n * 2 ^ (j + 149).toNat := by
    revert h hz
    generalize m * 2 ^ (e + 149).toNat = A
    generalize n * 2 ^ (j + 149).toNat = B
    intro hz h
    cases s <;> cases t <;> simp only [if_true, Bool.false_eq_true, if_false] at h hz ⊢ <;> simp <;> omega
  obtain ⟨rfl, hm⟩ := hst
  have a1 := key m n _ _ h2 (fun hh => by have := k7 hh; omega) hm
  have a2 := key n m _ _ k2 (fun hh => by have := h7 hh; omega) hm.symm
  have hej : (e + 149).toNat = (j + 149).toNat := by omega
  rw [hej] at hm
  have hmn := Nat.eq_of_mul_eq_mul_right (Nat.two_pow_pos _) hm
  have he : e = j := by omega
  rw [h0, k0, hmn, he]

/-- A datum that is a number or an infinity, and not below 0. -/
def Pos (d : Ieee.Datum) : Prop := d.neg = false ∧ d.isNaN = false
theorem write_pos {d : Ieee.Datum} (h : Pos d) : Pos (Ieee.single.read (Ieee.single.write d)) := by
  have word : ∀ r, r ≤ 2139095040 → Pos (Ieee.single.read r) := by
    intro r hr
    unfold Ieee.Format.read
    have c1 : Ieee.single.signWeight = 2147483648 := rfl
    have c2 : Ieee.single.binade = 8388608 := rfl
    have c3 : Ieee.single.infRung = 2139095040 := rfl
    simp only [c1, c2, c3]
    have e1 : (r / 2147483648 % 2 == 1) = false := by rw [Nat.div_eq_of_lt (by omega)]; rfl
    have e2 : r % 2147483648 = r := Nat.mod_eq_of_lt (by omega)
    rw [e1, e2]
    split
    · exact ⟨rfl, rfl⟩
    · split
      · exact ⟨rfl, rfl⟩
      · split
        · exact ⟨rfl, rfl⟩
        · omega
  have w1 : ∀ r, r ≤ 2139095040 → Pos (Ieee.single.read (Ieee.single.word false r)) := fun r hr => word r hr
  have hi : Ieee.single.infRung = 2139095040 := rfl
  obtain ⟨h1, h2⟩ := h
  cases d with
  | nan a b => simp [Ieee.Datum.isNaN] at h2
  | infinity s =>
    obtain rfl : s = false := h1
    exact w1 Ieee.single.infRung (Nat.le_of_eq hi)
  | number s m e =>
    obtain rfl : s = false := h1
    show Pos (Ieee.single.read (Ieee.single.nearest false m e))
    unfold Ieee.Format.nearest
    split
    · exact w1 0 (Nat.zero_le _)
    · exact w1 _ (Nat.le_trans (Nat.min_le_right _ _) (Nat.le_of_eq hi))

theorem signed_sign {s : Bool} {m k : Nat} (h : Ieee.signed s m k = 0) : m = 0 := by
  rw [signed_eq] at h
  have h2 : m * 2 ^ k = 0 := by
    generalize m * 2 ^ k = A at h ⊢
    cases s
    · simp at h; omega
    · simp at h; omega
  rcases Nat.mul_eq_zero.1 h2 with h3 | h3
  · exact h3
  · have := Nat.two_pow_pos k; omega
theorem signed_nonneg {s : Bool} {m k k' : Nat} (h : 0 ≤ Ieee.signed s m k) : 0 ≤ Ieee.signed s m k' := by
  rw [signed_eq] at h ⊢
  cases s
  · generalize m * 2 ^ k' = A; simp only [Bool.false_eq_true, if_false]; omega
  · have h0 : m * 2 ^ k = 0 := by generalize m * 2 ^ k = A at h ⊢; simp only [if_true] at h; omega
    rcases Nat.mul_eq_zero.1 h0 with h3 | h3
    · subst h3; simp
    · have := Nat.two_pow_pos k; omega
theorem signed_pos (m k : Nat) : 0 ≤ Ieee.signed false m k := by
  rw [signed_eq]; generalize m * 2 ^ k = A; simp only [Bool.false_eq_true, if_false]; omega

/-- What is not below 0, and one that is not below 0 put to it. -/
theorem add_pos {s x : Nat} (hs : Pos (Ieee.single.read s)) (hx : fin32 x = true) (h0 : 0 ≤ valI x) : ∃ r, Ieee.single.add s x = some r ∧ Pos (Ieee.single.read r) := by
  obtain ⟨t, n, j, k0, _⟩ := read32_parts hx
  rw [valI_of k0] at h0
  unfold Ieee.Format.add
  rw [k0]
  obtain ⟨h1, h2⟩ := hs
  cases hr : Ieee.single.read s with
  | nan a b => rw [hr] at h2; simp [Ieee.Datum.isNaN] at h2
  | infinity q =>
    rw [hr] at h1
    obtain rfl : q = false := h1
    exact ⟨_, rfl, write_pos ⟨rfl, rfl⟩⟩
  | number q m i =>
    rw [hr] at h1
    obtain rfl : q = false := h1
    refine ⟨_, rfl, write_pos ⟨?_, rfl⟩⟩
    simp only [Ieee.Datum.neg]
    have g1 := signed_nonneg (k' := (j - min i j).toNat) h0
    have g2 : 0 ≤ Ieee.signed false m (i - min i j).toNat := signed_pos _ _
    split
    · simp
    · simp; omega
/-- Nothing is put to it: of which sign is of no matter. -/
theorem add_zero {s x y : Nat} (hs : Pos (Ieee.single.read s)) (hx : fin32 x = true) (hy : fin32 y = true) (vx : valI x = 0) (vy : valI y = 0) : Ieee.single.add s x = Ieee.single.add s y := by
  obtain ⟨t, n, j, k0, _, _, _, _, _, _, k7⟩ := read32_parts hx
  obtain ⟨t', n', j', l0, _, _, _, _, _, _, l7⟩ := read32_parts hy
  rw [valI_of k0] at vx
  rw [valI_of l0] at vy
  obtain rfl := signed_sign vx
  obtain rfl := signed_sign vy
  obtain rfl := k7 (by omega)
  obtain rfl := l7 (by omega)
  unfold Ieee.Format.add
  rw [k0, l0]
  obtain ⟨h1, h2⟩ := hs
  cases hr : Ieee.single.read s with
  | nan a b => rw [hr] at h2; simp [Ieee.Datum.isNaN] at h2
  | infinity q => rfl
  | number q m i =>
    rw [hr] at h1
    obtain rfl : q = false := h1
    simp only [Ieee.Datum.sum, signed_eq, Nat.zero_mul, Bool.false_and]
    simp

/-- The sum of the first k; none where it is no number. -/
def sumO (xs : List Nat) : Nat → Option Nat
  | 0 => some 0
  | k + 1 => (sumO xs k).bind fun s => Ieee.single.add s (xs.getD k 0)

/-- Two rows in descending order that are worth the same, place for place, have the same sums. -/
theorem sum_same (D E : List Nat) (hl : D.length = E.length) (fD : ∀ i, i < D.length → fin32 (D.getD i 0) = true) (fE : ∀ i, i < D.length → fin32 (E.getD i 0) = true)
    (hv : ∀ i, i < D.length → valI (D.getD i 0) = valI (E.getD i 0)) (hs : ∀ i j, i < j → j < D.length → valI (D.getD j 0) ≤ valI (D.getD i 0)) :
    ∀ k, k ≤ D.length → sumO D k = sumO E k ∧ ((∀ i, i < k → 0 ≤ valI (D.getD i 0)) → ∃ s, sumO D k = some s ∧ Pos (Ieee.single.read s))
  | 0, _ => ⟨rfl, fun _ => ⟨0, rfl, by refine ⟨?_, ?_⟩ <;> decide +kernel⟩⟩
  | k + 1, h => by
    obtain ⟨h1, h2⟩ := sum_same D E hl fD fE hv hs k (by omega)
    have hk : k < D.length := by omega
    refine ⟨?_, fun hp => ?_⟩
    · simp only [sumO]
      rcases val_inj (fD k hk) (fE k hk) (hv k hk) with e | e
      · rw [h1]
        unfold Ieee.Format.add
        rw [e]
      · obtain ⟨s, h3, h4⟩ := h2 fun i hi => by have := hs i k hi hk; omega
        rw [← h1, h3]
        exact add_zero h4 (fD k hk) (fE k hk) e (by rw [← hv k hk]; exact e)
    · obtain ⟨s, h3, h4⟩ := h2 fun i hi => hp i (by omega)
      obtain ⟨r, h5, h6⟩ := add_pos h4 (fD k hk) (hp k (by omega))
      exact ⟨r, by simp only [sumO, h3, Option.bind_some, h5], h6⟩

/-- Sorted ones of one list are worth the same, place for place. -/
theorem sorted_same (D E : List Nat) (hp : D.Perm E) (hD : ∀ i j, i < j → j < D.length → valI (D.getD j 0) ≤ valI (D.getD i 0)) (hE : ∀ i j, i < j → j < E.length → valI (E.getD j 0) ≤ valI (E.getD i 0)) :
    ∀ i, i < D.length → valI (D.getD i 0) = valI (E.getD i 0) := by
  have hpw : ∀ (L : List Nat), (∀ i j, i < j → j < L.length → valI (L.getD j 0) ≤ valI (L.getD i 0)) → (L.map valI).Pairwise (fun a b => b ≤ a) := by
    intro L hL
    rw [List.pairwise_iff_getElem]
    intro i j hi hj hij
    rw [List.length_map] at hi hj
    rw [List.getElem_map, List.getElem_map]
    have := hL i j hij hj
    rw [List.getD_eq_getElem?_getD, List.getD_eq_getElem?_getD, List.getElem?_eq_getElem hi, List.getElem?_eq_getElem hj] at this
    exact this
  have he : D.map valI = E.map valI := List.Perm.eq_of_pairwise (fun a b _ _ h1 h2 => Int.le_antisymm h2 h1) (hpw D hD) (hpw E hE) (hp.map valI)
  intro i hi
  have h1 := congrArg (fun l : List Int => l[i]?) he
  simp only [List.getElem?_map] at h1
  have hi2 : i < E.length := by rw [← hp.length_eq]; exact hi
  rw [List.getElem?_eq_getElem hi, List.getElem?_eq_getElem hi2] at h1
  rw [List.getD_eq_getElem?_getD, List.getD_eq_getElem?_getD, List.getElem?_eq_getElem hi, List.getElem?_eq_getElem hi2]
  exact Option.some.inj h1

/-! ### No NaN comes up -/
def Num (x : Nat) : Prop := (Ieee.single.read x).isNaN = false
theorem word_num (s : Bool) (r : Nat) (hr : r ≤ 2139095040) : Num (Ieee.single.word s r) := by
  unfold Num Ieee.Format.read Ieee.Format.word
  have c1 : Ieee.single.signWeight = 2147483648 := rfl
  have c2 : Ieee.single.binade = 8388608 := rfl
  have c3 : Ieee.single.infRung = 2139095040 := rfl
  simp only [c1, c2, c3]
  have e2 : (if s = true then 2147483648 + r else r) % 2147483648 = r := by
    cases s <;> simp <;> omega
  rw [e2]
  split
  · rfl
  · split
    · rfl
    · split
      · rfl
      · omega
theorem write_num {d : Ieee.Datum} (h : d.isNaN = false) : Num (Ieee.single.write d) := by
  have hi : Ieee.single.infRung = 2139095040 := rfl
  cases d with
  | nan a b => simp [Ieee.Datum.isNaN] at h
  | infinity s => exact word_num s Ieee.single.infRung (Nat.le_of_eq hi)
  | number s m e =>
    show Num (Ieee.single.nearest s m e)
    unfold Ieee.Format.nearest
    split
    · exact word_num s 0 (Nat.zero_le _)
    · exact word_num s _ (Nat.le_trans (Nat.min_le_right _ _) (Nat.le_of_eq hi))
theorem num_fin {x : Nat} (h : fin32 x = true) : Num x := by
  obtain ⟨s, m, e, h0, _⟩ := read32_parts h
  unfold Num; rw [h0]; rfl
def addW (s x : Nat) : Nat := (Ieee.single.add s x).getD 0
def subV2 (s x : Nat) : Nat := (Ieee.single.sub s x).getD 0
theorem add_num {s x : Nat} (hs : Num s) (hx : fin32 x = true) : Ieee.single.add s x = some (addW s x) ∧ Num (addW s x) := by
  obtain ⟨t, n, j, k0, _⟩ := read32_parts hx
  unfold addW Ieee.Format.add
  rw [k0]
  unfold Num at hs
  cases hr : Ieee.single.read s with
  | nan a b => rw [hr] at hs; simp [Ieee.Datum.isNaN] at hs
  | infinity q => simp only [Ieee.Datum.sum, Option.map_some, Option.getD_some, true_and]; exact write_num rfl
  | number q m i => simp only [Ieee.Datum.sum, Option.map_some, Option.getD_some, true_and]; exact write_num rfl
theorem sub_numR {s x : Nat} (hs : Num s) (hx : fin32 x = true) : Ieee.single.sub s x = some (subV2 s x) ∧ Num (subV2 s x) := by
  obtain ⟨t, n, j, k0, _⟩ := read32_parts hx
  unfold subV2 Ieee.Format.sub
  rw [k0]
  unfold Num at hs
  cases hr : Ieee.single.read s with
  | nan a b => rw [hr] at hs; simp [Ieee.Datum.isNaN] at hs
  | infinity q => simp only [Ieee.Datum.opposite, Ieee.Datum.sum, Option.map_some, Option.getD_some, true_and]; exact write_num rfl
  | number q m i => simp only [Ieee.Datum.opposite, Ieee.Datum.sum, Option.map_some, Option.getD_some, true_and]; exact write_num rfl
theorem sub_numL {s x : Nat} (hx : fin32 s = true) (hs : Num x) : Ieee.single.sub s x = some (subV2 s x) ∧ Num (subV2 s x) := by
  obtain ⟨t, n, j, k0, _⟩ := read32_parts hx
  unfold subV2 Ieee.Format.sub
  rw [k0]
  unfold Num at hs
  cases hr : Ieee.single.read x with
  | nan a b => rw [hr] at hs; simp [Ieee.Datum.isNaN] at hs
  | infinity q => simp only [Ieee.Datum.opposite, Ieee.Datum.sum, Option.map_some, Option.getD_some, true_and]; exact write_num rfl
  | number q m i => simp only [Ieee.Datum.opposite, Ieee.Datum.sum, Option.map_some, Option.getD_some, true_and]; exact write_num rfl
theorem div_num {s x : Nat} (hs : Num s) (hx : fin32 x = true) (h0 : valI x ≠ 0) : Ieee.single.div s x = some (divV s x) ∧ Num (divV s x) := by
  obtain ⟨t, n, j, k0, _⟩ := read32_parts hx
  rw [valI_of k0, signed_eq] at h0
  have hn : n ≠ 0 := by rintro rfl; simp at h0
  unfold divV Ieee.Format.div
  rw [k0]
  unfold Num at hs
  cases hr : Ieee.single.read s with
  | nan a b => rw [hr] at hs; simp [Ieee.Datum.isNaN] at hs
  | infinity q => simp only [Ieee.Datum.quotient, Option.map_some, Option.getD_some, true_and]; exact write_num rfl
  | number q m i =>
    simp only [Ieee.Datum.quotient, if_neg hn, Option.map_some, Option.getD_some, true_and]
    exact write_num rfl

/-- The sum of the first k. -/
def totV (xs : List Nat) : Nat → Nat
  | 0 => 0
  | k + 1 => addW (totV xs k) (xs.getD k 0)
theorem totV_num {xs : List Nat} (h : allFin xs = true) : ∀ k, k ≤ xs.length → Num (totV xs k) ∧ sumO xs k = some (totV xs k)
  | 0, _ => ⟨num_fin fin0, rfl⟩
  | k + 1, hk => by
    obtain ⟨h1, h2⟩ := totV_num h k (by omega)
    obtain ⟨h3, h4⟩ := add_num h1 (allFin_get h (show k < xs.length by omega))
    exact ⟨h4, by simp only [sumO, h2, Option.bind_some, h3]; rfl⟩
/-- What is to be taken off, told by the first k + 1. -/
def cutK (xs : List Nat) (k : Nat) : Nat := divV (subV2 (totV xs (k + 1)) 1065353216) (floatOfInt .f32 ((k + 1 : Nat) : Int))
/-- The last of those that leave something, and whether there is one. -/
def cutF (xs : List Nat) : Nat → Nat × Bool
  | 0 => (0, false)
  | k + 1 => if gtF (xs.getD k 0) (cutK xs k) = true then (cutK xs k, true) else cutF xs k
def ltF0 (y : Nat) : Bool := Ieee.single.order y 0 == some .lt
def lessV (x less : Nat) : Nat := if ltF0 (subV2 x less) = true then 0 else subV2 x less

end Go.Proofs.Ytfdaifmfecfchaa

namespace Go.Proofs.Ytfdaifmfecfchaa
open Go.RowKit Go.Sort

def ltK (key : Nat → Int) (x y : Nat) : Bool := decide (key x < key y)
theorem swo_ltK (key : Nat → Int) : SWO (ltK key) where
  irrefl x := by simp [ltK]
  trans x y z h1 h2 := by simp only [ltK, decide_eq_true_eq] at *; omega
  ntrans x y z h1 h2 := by simp only [ltK, decide_eq_false_iff_not] at *; omega
/-- The indices below n, those with a lesser key first, equal ones in order. -/
def ordA (key : Nat → Int) (n : Nat) : Array Nat := insertionSort (ltK key) (Array.range n) 0 n
def ordL (key : Nat → Int) (n : Nat) : List Nat := (ordA key n).toList
theorem ordA_perm (key : Nat → Int) (n : Nat) : PermIn 0 n (Array.range n) (ordA key n) :=
  (insertionSort_holds (swo_ltK key) (Array.range n) 0 n (Nat.zero_le _) (by simp)).1
theorem ordA_size (key : Nat → Int) (n : Nat) : (ordA key n).size = n := by rw [(ordA_perm key n).1]; simp
theorem ordL_len (key : Nat → Int) (n : Nat) : (ordL key n).length = n := by unfold ordL; rw [Array.length_toList, ordA_size]
theorem ordL_perm (key : Nat → Int) (n : Nat) : (ordL key n).Perm (List.range n) := by
  have h := (ordA_perm key n).2.2
  have e0 : ∀ (a : Array Nat) k, a.size = k → a.extract 0 k = a := by
    rintro a _ rfl
    exact Array.extract_size
  have e1 := e0 _ _ (ordA_size key n)
  have e2 := e0 (Array.range n) n (by simp)
  rw [e1, e2, Array.toList_range] at h
  exact h
theorem ordL_lt (key : Nat → Int) (n : Nat) : ∀ x ∈ ordL key n, x < n := fun x hx => List.mem_range.1 ((ordL_perm key n).mem_iff.1 hx)

/-- The reference's state: what stands ahead, and what is still to come. -/
theorem ins_zero (key : Nat → Int) (n : Nat) : insOuter (ltK key) 0 n 0 (Array.range n) = ordA key n := by
  unfold ordA insertionSort
  by_cases h : 0 < n
  · rw [insOuter_go _ _ _ _ _ h, insInner_stop _ _ _ _ (.inl (Nat.le_refl _))]
  · rw [insOuter_stop _ _ _ _ _ h, insOuter_stop _ _ _ _ _ (by omega)]

end Go.Proofs.Ytfdaifmfecfchaa
