/-
  FnJournal: texts joined: Dot, Round, Left, Has, Tab, AbsF, LeftI, LeftS.
-/
import Derived.Deep.RegionHeld3
import Derived.Deep.Cut
import Derived.Laws.BitsAllLaws
import Derived.Deep.RegionLaw
import Derived.Test.YtgkbbpajkbkgnaaGreatDoorMFnJournalAB
import Derived.Test.YtgkbbpajkbkgnaaGreatDoorMFnJournalAD
import Derived.Test.YtgkbbpajkbkgnaaGreatDoorMFnJournalAE
import Derived.Test.YtgkbbpajkbkgnaaGreatDoorMFnJournalAF
import Derived.Test.YtgkbbpajkbkgnaaGreatDoorMFnJournalAG
set_option linter.unusedVariables false
set_option linter.unusedSimpArgs false
namespace Go.Proofs.YtgkbbpajkbkgnaaGreatDoor
open Go.RowKit
def dotO (a b : List Nat) : Nat → Option Nat
  | 0 => some 0
  | k + 1 => (dotO a b k).bind fun s => (Ieee.single.mul (a.getD k 0) (b.getD k 0)).bind fun p => Ieee.single.add s p
def Mt (o : Option Nat) (s : Nat) : Prop := (∀ r, o = some r → s = r) ∧ (o = none → nan32 s = true)
def finO (o : Option Nat) : Bool := match o with
  | some r => fin32 r
  | none => false
theorem drewN_on {w W : World} (h : ∃ m, W = w.drewN m) (n : Nat) : ∃ m, W.drewN n = w.drewN m := by obtain ⟨m, rfl⟩ := h; exact ⟨m + n, World.drewN_drewN _ _ _⟩
theorem fin_of_nan {x : Nat} (h : nan32 x = true) : fin32 x = false := by
  unfold nan32 at h
  unfold fin32
  cases hr : Ieee.single.read x with
  | nan a b => rfl
  | infinity s => rfl
  | number s m e => rw [hr] at h; simp [Ieee.Datum.isNaN] at h
theorem Mt.fin {o : Option Nat} {s : Nat} (h : Mt o s) : fin32 s = finO o := by
  cases o with
  | none => exact fin_of_nan (h.2 rfl)
  | some r => rw [h.1 r rfl]; rfl
theorem Mt.of_some {r s : Nat} (h : Mt (some r) s) : s = r := h.1 r rfl
theorem Mt.some' (r : Nat) : Mt (some r) r := ⟨fun _ h => (Option.some.inj h), fun h => nomatch h⟩
theorem mul_fin {x y : Nat} (hx : fin32 x = true) (hy : fin32 y = true) : ∃ p, Ieee.single.mul x y = some p := by
  unfold fin32 at hx hy
  unfold Ieee.Format.mul
  cases hr : Ieee.single.read x with
  | nan a b => rw [hr] at hx; simp at hx
  | infinity s => rw [hr] at hx; simp at hx
  | number s m e =>
    cases hq : Ieee.single.read y with
    | nan a b => rw [hq] at hy; simp at hy
    | infinity s => rw [hq] at hy; simp at hy
    | number s' m' e' => exact ⟨_, rfl⟩
theorem add_nanL {x y : Nat} (h : nan32 x = true) : Ieee.single.add x y = none := by
  unfold nan32 at h
  unfold Ieee.Format.add
  cases hr : Ieee.single.read x with
  | nan a b => simp [Ieee.Datum.sum]
  | infinity s => rw [hr] at h; simp [Ieee.Datum.isNaN] at h
  | number s m e => rw [hr] at h; simp [Ieee.Datum.isNaN] at h
theorem Mt_some {a b : List Nat} {k s p r : Nat} (h : Mt (dotO a b k) s) (hp : Ieee.single.mul (a.getD k 0) (b.getD k 0) = some p) (hr : Ieee.single.add s p = some r) : Mt (dotO a b (k + 1)) r := by
  cases hd : dotO a b k with
  | none => rw [hd] at h; rw [add_nanL (h.2 rfl)] at hr; cases hr
  | some s' =>
    rw [hd] at h
    rw [h.of_some] at hr
    simp only [dotO, hd, Option.bind_some, hp, hr]
    exact Mt.some' r
theorem Mt_none {a b : List Nat} {k s p : Nat} (h : Mt (dotO a b k) s) (hp : Ieee.single.mul (a.getD k 0) (b.getD k 0) = some p) (hr : Ieee.single.add s p = none) (q : Nat) (hq : nan32 q = true) : Mt (dotO a b (k + 1)) q := by
  have : dotO a b (k + 1) = none := by
    cases hd : dotO a b k with
    | none => simp only [dotO, hd, Option.bind_none]
    | some s' =>
      rw [hd] at h
      rw [h.of_some] at hr
      simp only [dotO, hd, Option.bind_some, hp, hr]
  rw [this]
  exact ⟨fun r h => by simp at h, fun _ => hq⟩
theorem run_mul_some {P : Program} (t : TypeId) (x y r : Nat) (h : Ieee.single.mul x y = some r) (w : World) :
    (binOp .mul t (.float .f32 x) (.float .f32 y)).run P w = .ok (.float .f32 r) w := run_float_arith w .mul t .f32 x y r h
theorem run_add_some {P : Program} (t : TypeId) (x y r : Nat) (h : Ieee.single.add x y = some r) (w : World) :
    (binOp .add t (.float .f32 x) (.float .f32 y)).run P w = .ok (.float .f32 r) w := run_float_arith w .add t .f32 x y r h
theorem run_add_none {P : Program} (t : TypeId) (x y : Nat) (h : Ieee.single.add x y = none) (w : World) :
    (binOp .add t (.float .f32 x) (.float .f32 y)).run P w = .ok (.float .f32 (tape32 (.nanBits .f32 x y) w)) w.drew := by
  have h' : FloatKind.f32.format.add x y = none := h
  simp [binOp, Op.floatArith, h', tape32, Question.forced, Result.andThen]
set_option maxHeartbeats 2000000 in
theorem dot_any (v u : Value) (x y : List Nat) (w : World) (h : RdF w v x) (hu : RdF w u y) (hxy : x.length ≤ y.length) (fx : allFin x = true) (fy : allFin y = true) :
    Calls Tryz.prog 290 #[v, u] w fun e w' => ∃ s, e = .returned (.float .f32 s) ∧ Mt (dotO x y x.length) s ∧ ∃ m, w' = w.drewN m := by
  obtain ⟨a, c, rfl⟩ := h.shape
  obtain ⟨a', c', rfl⟩ := hu.shape
  have hm := h.len
  simp only [maxLen] at hm
  have H1 := Lib.hid h
  have H2 := Lib.hid hu
  have FX := Lib.hid fx
  have FY := Lib.hid fy
  clear h hu fx fy
  go_enter Tryz.func290, Tryz.ntmps290
  go_wp2_with fail
  go_loopw [5, 9] (fun sv i wr => ∃ k s : Nat, i = .int .i64 k ∧ k ≤ x.length ∧ sv = .float .f32 s ∧ Hid (Mt (dotO x y k) s) ∧ Hid (∃ n, wr = w.drewN n)) (fun _ i _ => x.length - (intOf i).toNat)
  case atStart => exact ⟨0, 0, rfl, Nat.zero_le _, rfl, Mt.some' 0, 0, rfl⟩
  case round =>
    obtain ⟨k, s, rfl, hk, rfl, hmt, hw⟩ := hrel
    by_cases hlt : k < x.length
    · have hlt2 : k < y.length := by omega
      obtain ⟨b, off, rfl, hb, hc⟩ := (rdF_drew H1.out hw.out).at hlt
      obtain ⟨b', off', rfl, hb', hc'⟩ := (rdF_drew H2.out hw.out).at hlt2
      have hlt2' : (k : Int) < y.length := by omega
      obtain ⟨p, hp⟩ := mul_fin (allFin_get FX.out hlt) (allFin_get FY.out hlt2)
      have hmul := fun (W : World) => run_mul_some (P := Tryz.prog) 100 _ _ p hp W
      have HP := Lib.hid hp
      clear hp
      generalize hx0 : x.getD k 0 = x0 at *
      generalize hy0 : y.getD k 0 = y0 at *
      have HX := Lib.hid hx0
      have HY := Lib.hid hy0
      clear hx0 hy0
      cases hq : Ieee.single.add s p with
      | some r =>
        have hadd := fun (W : World) => run_add_some (P := Tryz.prog) 100 _ _ r hq W
        have HQ := Lib.hid hq
        clear hq
        go_wp2_with fail
        go_quiet (fail)
        go_wp2_with fail
        go_roundw
        case rel => exact ⟨k + 1, r, by go_num, by omega, rfl, Mt_some hmt.out (by rw [HX.out, HY.out]; exact HP.out) HQ.out, drewN_on hw.out _⟩
        case measure => simp [intOf]; omega
      | none =>
        have hadd := fun (W : World) => run_add_none (P := Tryz.prog) 100 _ _ hq W
        have HQ := Lib.hid hq
        clear hq
        go_wp2_with fail
        go_region_with (fail)
        all_goals
          go_wp2_with fail
          go_roundw
          case rel => exact ⟨k + 1, _, by go_num, by omega, rfl, Mt_none hmt.out (by rw [HX.out, HY.out]; exact HP.out) HQ.out _ (tape32_nan _ _ _), drewN_on (drewN_on hw.out 1) 1⟩
          case measure => simp [intOf]; omega
    · obtain rfl : k = x.length := by omega
      go_wp2_with fail
      go_ret
      exact ⟨s, rfl, hmt.out, hw.out⟩
end Go.Proofs.YtgkbbpajkbkgnaaGreatDoor

namespace Go.Proofs.YtgkbbpajkbkgnaaGreatDoor
open Go.RowKit
set_option maxHeartbeats 1000000 in
theorem isX_any (v : Value) (r : RowsD) (u : Value) (x : List Nat) (w : World) (h : RdR w v r) (hu : RdF w u x) :
    Calls Tryz.prog 289 #[v, u] w fun e w' => e = .returned (.bool (((x.length : Int) == r.vars) && allFin x)) ∧ Below w.heap.size w w' := by
  obtain ⟨a1, c1, a2, c2, a3, c3, rfl⟩ := h.shape
  obtain ⟨a, c, rfl⟩ := hu.shape
  obtain ⟨n0, x1, x2, x3⟩ := r
  have l1 := hu.len
  unfold maxLen at l1
  simp only
  have HU := Lib.hid hu
  clear h hu
  obtain ⟨q, hq⟩ : ∃ q, q = ((x.length : Int) == n0) := ⟨_, rfl⟩
  rw [← hq]
  cases q
  all_goals
    go_enter Tryz.func289, Tryz.ntmps289
    go_wp2_with fail
    refine wp_at fun W hW => ?_
    have HB := Lib.hid (show Below w.heap.size w W by subst hW; (repeat' first | exact Below.refl _ _ | assumption | refine Below.alloc ?_ ?_ _ | refine Below.setCell ?_ ?_ _ | refine Below.drew ?_ | (simp; done) | (simp; omega)))
    have HK := Lib.hid (show Blk W w.heap.size 26 #[.int .i64 n0, .slice a1 x1.length c1, .slice a2 x2.length c2, .slice a3 x3.length c3] by subst hW; exact Blk.new _ _ _)
    have HUW := Lib.hid (HU.out.up HB.out (Nat.le_refl _))
    have d0 : W.cell? ⟨w.heap.size, 0, none⟩ = some (.int .i64 n0) := HK.out.cell 0 rfl
    have hqb := hq.symm
    clear hW hq
    go_quiet (first
      | (go_at_call 66; exact quiet_same (size_any _ _ (by unfold maxLen; omega)))
      | (go_at_call 116; exact areFinite_qs _ x _ _ HUW.out))
    go_wp2_with fail
    go_ret
    exact ⟨rfl, below_drewN HB.out _⟩
end Go.Proofs.YtgkbbpajkbkgnaaGreatDoor

namespace Go.Proofs.YtgkbbpajkbkgnaaGreatDoor
open Go.RowKit
def rowO (r : RowsD) (i : Nat) : List Nat := (r.nums.drop (i * r.gains.length)).take r.gains.length
noncomputable def fitX (r : RowsD) (x : List Nat) : Bool := validR r && (((x.length : Int) == r.vars) && allFin x)
def gainO (r : RowsD) (x : List Nat) : Option Nat := dotO r.gains x r.gains.length
noncomputable def gainOk (r : RowsD) (x : List Nat) : Bool := fitX r x && finO (gainO r x)
noncomputable def gainV (r : RowsD) (x : List Nat) : Nat := if gainOk r x = true then (gainO r x).getD 0 else 0
theorem sub_nanR {x y : Nat} (h : nan32 y = true) : Ieee.single.sub x y = none := by
  unfold nan32 at h
  unfold Ieee.Format.sub
  cases hr : Ieee.single.read y with
  | nan a b => cases Ieee.single.read x <;> simp [Ieee.Datum.sum, Ieee.Datum.opposite]
  | infinity s => rw [hr] at h; simp [Ieee.Datum.isNaN] at h
  | number s m e => rw [hr] at h; simp [Ieee.Datum.isNaN] at h
theorem rowO_len {r : RowsD} (hv : ValR r) {i : Nat} (hi : i < r.bnds.length) : (rowO r i).length = r.gains.length := by
  have h1 := hv.gl
  have h2 := hv.nl
  rw [← h1] at h2
  have h3 : r.nums.length = r.gains.length * r.bnds.length := by exact_mod_cast h2
  have h4 : (i + 1) * r.gains.length ≤ r.nums.length := by rw [h3, Nat.mul_comm]; exact Nat.mul_le_mul_left _ hi
  rw [Nat.add_mul] at h4
  unfold rowO
  rw [List.length_take, List.length_drop]
  omega
theorem rowO_fin {r : RowsD} (hv : ValR r) (i : Nat) : allFin (rowO r i) = true := by
  have h := hv.fn
  unfold allFin at h ⊢
  rw [List.all_eq_true] at h ⊢
  intro y hy
  unfold rowO at hy
  exact h y (List.mem_of_mem_drop (List.mem_of_mem_take hy))
theorem rdF_piece {w : World} {b off n cap : Nat} {xs : List Nat} (h : RdF w (.slice (some ⟨b, off, none⟩) n cap) xs) (m k : Nat) (hk : m + k ≤ xs.length) (c2 : Nat) (hc : k ≤ c2) (hc2 : c2 ≤ maxLen) : RdF w (.slice (some ⟨b, off + m, none⟩) k c2) ((xs.drop m).take k) := by
  have hl : ((xs.drop m).take k).length = k := by rw [List.length_take, List.length_drop]; omega
  refine .inr ⟨⟨b, off + m, none⟩, c2, by rw [List.length_map, hl], by rw [List.length_map, hl]; exact hc, hc2, fun i u hi => ?_⟩
  simp only [List.getElem?_map, Option.map_eq_some_iff] at hi
  obtain ⟨q, hq, rfl⟩ := hi
  have hlt : i < k := by have := (List.getElem?_eq_some_iff.1 hq).1; omega
  rw [List.getElem?_take_of_lt hlt, List.getElem?_drop] at hq
  obtain ⟨b', off', e, _, hcell⟩ := h.at (i := m + i) (by omega)
  simp only [Option.some.injEq, Addr.mk.injEq, and_true] at e
  obtain ⟨rfl, rfl⟩ := e
  have e2 : xs.getD (m + i) 0 = q := by rw [List.getD_eq_getElem?_getD, hq]; rfl
  rw [e2] at hcell
  have : (⟨b, off + m, none⟩ : Addr).add i = ⟨b, off + (m + i), none⟩ := by
    unfold Addr.add
    by_cases hz : i = 0
    · simp [hz]
    · simp [hz, Nat.add_assoc]
  rw [this]
  exact hcell
set_option maxHeartbeats 2000000 in
theorem row_any (v : Value) (r : RowsD) (i : Nat) (w : World) (h : RdR w v r) (hv : ValR r) (hi : i < r.bnds.length) :
    Calls Tryz.prog 75 #[v, .int .i64 i] w fun e w' => ∃ u, e = .returned u ∧ RdF w' u (rowO r i) ∧ Below w.heap.size w w' := by
  obtain ⟨a1, c1, a2, c2, a3, c3, rfl⟩ := h.shape
  obtain ⟨p1, p2, p3⟩ := h.parts
  have hlen := rowO_len hv hi
  have hb8 := hv.b8
  have hv8 := hv.v8
  have hv1 := hv.v1
  have hgl := hv.gl
  have hnl := hv.nl
  have l1 := p1.len
  obtain ⟨n0, x1, x2, x3⟩ := r
  simp only at p1 p2 p3 hlen hb8 hv8 hv1 hgl hnl hi l1 ⊢
  unfold maxLen at l1
  obtain rfl := hgl
  obtain ⟨V, hV⟩ : ∃ V, V = x3.length := ⟨_, rfl⟩
  have hnl2 : x1.length = V * x2.length := by rw [hV]; exact_mod_cast hnl
  obtain ⟨m, hm⟩ : ∃ m, m = i * V := ⟨_, rfl⟩
  have hmm : m + V ≤ x1.length := by
    rw [hm, hnl2, Nat.mul_comm V, ← Nat.succ_mul]
    exact Nat.mul_le_mul_right _ hi
  have hx64 : x1.length ≤ 64 := by rw [hnl2]; exact Nat.le_trans (Nat.mul_le_mul (by omega) hb8) (by decide : 8 * 8 ≤ 64)
  have e1 : (i : Int) * (V : Int) = (m : Int) := by rw [hm]; push_cast; rfl
  have e2 : ((i : Int) + 1) * (V : Int) = (m : Int) + (V : Int) := by rw [Int.add_mul, e1, Int.one_mul]
  have P1 := Lib.hid p1
  have hnz : 0 < x1.length := by omega
  obtain ⟨b, off, rfl, hb0, _⟩ := p1.at hnz
  have hc1 : x1.length ≤ c1 ∧ c1 ≤ maxLen := by
    rcases p1 with ⟨e, _⟩ | ⟨ad, cap', e, q1, q2, _⟩
    · cases e
    · simp only [Value.slice.injEq] at e
      obtain ⟨_, _, rfl⟩ := e
      simpa using And.intro q1 q2
  obtain ⟨hc1a, hc1b⟩ := hc1
  have HC := Lib.hid hc1b
  unfold maxLen at hc1b
  have HV := Lib.hid hV
  have HM := Lib.hid hm
  rw [← hV] at hv8 hv1 ⊢
  have hi8 : i < 8 := by omega
  clear h p1 p2 p3 hlen hnl hnl2 hm hV
  go_enter Tryz.func75, Tryz.ntmps75
  go_wp2_with fail
  go_ret
  refine ⟨_, rfl, ?_, by (repeat' first | exact Below.refl _ _ | assumption | refine Below.alloc ?_ ?_ _ | refine Below.setCell ?_ ?_ _ | refine Below.drew ?_ | (simp; done) | (simp; omega))⟩
  simp
  have hb : Below w.heap.size w (w.alloc (.cells #[.int .i64 V, .slice (some ⟨b, off, none⟩) x1.length c1, .slice a2 x2.length c2, .slice a3 V c3] 26)) := (Below.refl _ _).alloc (Nat.le_refl _) _
  have hp := rdF_piece (P1.out.up hb (Nat.le_refl _)) m V hmm (c1 - m) (by omega) (by have := HC.out; omega)
  unfold rowO
  simp only
  rw [← HV.out, ← HM.out]
  exact hp
def NumPost (q : Bool) (s : Nat) (B : Nat) (w : World) (e : Ending) (w' : World) : Prop := e = .returned (.tuple #[.float .f32 s, .bool q]) ∧ Below B w w'
set_option maxHeartbeats 2000000 in
theorem implGain_any (v : Value) (r : RowsD) (u : Value) (x : List Nat) (w : World) (h : RdR w v r) (hu : RdF w u x) :
    Calls Tryz.prog 231 #[v, u] w (NumPost (gainOk r x) (gainV r x) w.heap.size w) := by
  obtain ⟨a1, c1, a2, c2, a3, c3, rfl⟩ := h.shape
  obtain ⟨a, c, rfl⟩ := hu.shape
  obtain ⟨p1, p2, p3⟩ := h.parts
  have HP := Lib.hid h
  have HU := Lib.hid hu
  have H3 := Lib.hid p3
  obtain ⟨n0, x1, x2, x3⟩ := r
  simp only at HP H3 ⊢
  clear h hu p1 p2 p3
  go_enter Tryz.func231, Tryz.ntmps231
  go_wp2_with fail
  refine Calls.at fun W hW => ?_
  have hb := Lib.hid (show Below w.heap.size w W by subst hW; (repeat' first | exact Below.refl _ _ | assumption | refine Below.alloc ?_ ?_ _ | refine Below.setCell ?_ ?_ _ | refine Below.drew ?_ | (simp; done) | (simp; omega)))
  have hk := Lib.hid (show Blk W w.heap.size 26 #[.int .i64 n0, .slice a1 x1.length c1, .slice a2 x2.length c2, .slice a3 x3.length c3] by subst hW; exact Blk.new _ _ _)
  clear hW
  refine (ValidRows_any _ ⟨n0, x1, x2, x3⟩ W (HP.out.up hb.out (Nat.le_refl _))).mono ?_
  rintro e w1 ⟨rfl, hb1⟩
  have HB1 := Lib.hid (hb.out.trans (hb1.mono hb.out.size))
  have HK1 := Lib.hid (hk.out.below hb1 hk.out.lt)
  clear hb1 hb hk
  by_cases hv : validR ⟨n0, x1, x2, x3⟩ = true
  case neg =>
    rw [Bool.not_eq_true] at hv
    have HNO := Lib.hid (show gainOk ⟨n0, x1, x2, x3⟩ x = false by unfold gainOk fitX; rw [hv]; rfl)
    have HNV := Lib.hid (show gainV ⟨n0, x1, x2, x3⟩ x = 0 by unfold gainV; rw [HNO.out]; rfl)
    rw [hv]
    clear hv
    go_wp2_with fail
    go_ret2
    exact ⟨by rw [HNO.out, HNV.out]; rfl, HB1.out⟩
  have HV := Lib.hid (validR_iff.1 hv)
  have HVB := Lib.hid hv
  rw [hv]
  clear hv
  have d0 : w1.cell? ⟨w.heap.size, 0, none⟩ = some (.int .i64 n0) := HK1.out.cell 0 rfl
  have d1 : w1.cell? ⟨w.heap.size, 1, none⟩ = some (.slice a1 x1.length c1) := HK1.out.cell 1 rfl
  have d2 : w1.cell? ⟨w.heap.size, 2, none⟩ = some (.slice a2 x2.length c2) := HK1.out.cell 2 rfl
  have d3 : w1.cell? ⟨w.heap.size, 3, none⟩ = some (.slice a3 x3.length c3) := HK1.out.cell 3 rfl
  go_wp2_with fail
  refine (isX_any _ ⟨n0, x1, x2, x3⟩ _ x w1 (HP.out.up HB1.out (Nat.le_refl _)) (HU.out.up HB1.out (Nat.le_refl _))).mono ?_
  rintro e w2 ⟨rfl, hb2⟩
  simp only
  have HB2 := Lib.hid (HB1.out.trans (hb2.mono HB1.out.size))
  have HK2 := Lib.hid (HK1.out.below hb2 HK1.out.lt)
  clear hb2 d0 d1 d2 d3
  by_cases hx : (((x.length : Int) == n0) && allFin x) = true
  case neg =>
    rw [Bool.not_eq_true] at hx
    have HNO := Lib.hid (show gainOk ⟨n0, x1, x2, x3⟩ x = false by unfold gainOk fitX; simp only [hx, Bool.and_false, Bool.false_and])
    have HNV := Lib.hid (show gainV ⟨n0, x1, x2, x3⟩ x = 0 by unfold gainV; rw [HNO.out]; rfl)
    rw [hx]
    clear hx
    go_wp2_with fail
    go_ret2
    exact ⟨by rw [HNO.out, HNV.out]; rfl, HB2.out⟩
  have HFX := Lib.hid (show fitX ⟨n0, x1, x2, x3⟩ x = true by unfold fitX; rw [HVB.out]; exact hx)
  rw [hx]
  simp only [Bool.and_eq_true, beq_iff_eq] at hx
  have HX := Lib.hid hx
  have HXL := Lib.hid (show x3.length = x.length by have h1 := HV.out.gl; have h2 := hx.1; simp only at h1; omega)
  clear hx
  have d3 : w2.cell? ⟨w.heap.size, 3, none⟩ = some (.slice a3 x3.length c3) := HK2.out.cell 3 rfl
  go_wp2_with fail
  refine (dot_any _ _ x3 x w2 (H3.out.up HB2.out (Nat.le_refl _)) (HU.out.up HB2.out (Nat.le_refl _)) (by have := HXL.out; omega) HV.out.fg HX.out.2).mono ?_
  rintro e w3 ⟨s, rfl, hs, m3, rfl⟩
  have HS := Lib.hid (show Mt (gainO ⟨n0, x1, x2, x3⟩ x) s from hs)
  clear hs d3
  go_wp2_with fail
  refine (IsFinite_any s _).mono ?_
  rintro e w4 ⟨rfl, m4, rfl⟩
  have HG := Lib.hid (show gainOk ⟨n0, x1, x2, x3⟩ x = fin32 s by unfold gainOk; rw [HFX.out, Bool.true_and, HS.out.fin])
  obtain ⟨q, hq⟩ : ∃ q, q = fin32 s := ⟨_, rfl⟩
  rw [← hq]
  have HQ := Lib.hid hq
  clear hq
  cases q
  · have HNV := Lib.hid (show gainV ⟨n0, x1, x2, x3⟩ x = 0 by unfold gainV; rw [HG.out, ← HQ.out]; rfl)
    go_wp2_with fail
    go_ret2
    exact ⟨by rw [HG.out, HNV.out, ← HQ.out]; rfl, below_drewN HB2.out _⟩
  · have HNV := Lib.hid (show gainV ⟨n0, x1, x2, x3⟩ x = s by
      unfold gainV; rw [HG.out, ← HQ.out, if_pos rfl]
      have h1 := HS.out.fin
      cases hg : gainO ⟨n0, x1, x2, x3⟩ x with
      | none => rw [hg, ← HQ.out] at h1; cases h1
      | some g => have := HS.out; rw [hg] at this; rw [this.of_some]; rfl)
    go_wp2_with fail
    go_ret2
    exact ⟨by rw [HG.out, HNV.out, ← HQ.out]; rfl, below_drewN HB2.out _⟩
end Go.Proofs.YtgkbbpajkbkgnaaGreatDoor

namespace Go.Proofs.YtgkbbpajkbkgnaaGreatDoor
open Go.RowKit
def hasB (l : List Int) (x : Int) : Bool := l.contains x
theorem hasB_yes {l : List Int} {x : Int} {j : Nat} (hj : j < l.length) (h : l.getD j 0 = x) : hasB l x = true := by
  unfold hasB; rw [List.contains_iff_mem]
  have : l.getD j 0 = l[j] := by simp [hj]
  rw [this] at h; rw [← h]; exact List.getElem_mem hj
theorem hasB_no {l : List Int} {x : Int} (h : ∀ j, j < l.length → l.getD j 0 ≠ x) : hasB l x = false := by
  unfold hasB; rw [Bool.eq_false_iff]; intro hc
  rw [List.contains_iff_mem] at hc
  obtain ⟨j, hj, e⟩ := List.getElem_of_mem hc
  exact h j hj (by simp [hj, e])
set_option maxHeartbeats 400000 in
theorem has_any (v : Value) (l : List Int) (x : Int) (w : World) (h : RdI w v l) :
    Calls Tryz.prog 129 #[v, .int .i64 x] w fun e w' => e = .returned (.bool (hasB l x)) ∧ w = w' := by
  obtain ⟨a, c, rfl⟩ := h.shape
  have hl := h.len
  unfold maxLen at hl
  have HS := Lib.hid h
  clear h
  go_enter Tryz.func129, Tryz.ntmps129
  go_wp2_with fail
  go_loop [9] (fun i => ∃ k : Nat, i = .int .i64 k ∧ k ≤ l.length ∧ Hid (∀ j, j < k → l.getD j 0 ≠ x)) (fun i => l.length - (intOf i).toNat)
  case atStart => exact ⟨0, rfl, Nat.zero_le _, fun j hj => by omega⟩
  case round =>
    obtain ⟨k, rfl, hk, hno⟩ := hrel
    by_cases hlt : k < l.length
    · obtain ⟨b, off, rfl, _, hc⟩ := HS.out.at hlt
      obtain ⟨y, hy⟩ : ∃ y, y = l.getD k 0 := ⟨_, rfl⟩
      rw [← hy] at hc
      by_cases he : y = x
      · have he' : (y == x) = true := by simp [he]
        have HY := Lib.hid (show hasB l x = true from hasB_yes hlt (hy.symm.trans he))
        clear he hy
        go_wp2_with fail
        go_ret
        exact ⟨by rw [HY.out]; rfl, rfl⟩
      · have he' : (y == x) = false := by simp [he]
        have HE := Lib.hid (show l.getD k 0 ≠ x by rw [← hy]; exact he)
        clear he hy
        go_wp2_with fail
        go_round
        case rel => exact ⟨k + 1, by go_num, by omega, fun j hj => by
          rcases Nat.lt_succ_iff_lt_or_eq.1 hj with h | rfl
          · exact hno.out j h
          · exact HE.out⟩
        case measure => simp [intOf]; omega
    · obtain rfl : k = l.length := by omega
      go_wp2_with fail
      go_ret
      exact ⟨by rw [hasB_no hno.out]; rfl, rfl⟩
end Go.Proofs.YtgkbbpajkbkgnaaGreatDoor

namespace Go.Proofs.YtgkbbpajkbkgnaaGreatDoor
open Go.RowKit
structure TabD where
  vars : Nat
  nums : List Nat
  basis : List Int
def RdTb (w : World) (v : Value) (t : TabD) : Prop := ∃ va vb, v = .agg #[.int .i64 t.vars, va, vb] ∧ RdF w va t.nums ∧ RdI w vb t.basis
theorem RdTb.shape {w : World} {v : Value} {t : TabD} (h : RdTb w v t) : ∃ a c b d, v = .agg #[.int .i64 t.vars, .slice a t.nums.length c, .slice b t.basis.length d] := by
  obtain ⟨va, vb, rfl, h1, h2⟩ := h
  obtain ⟨a, c, rfl⟩ := h1.shape
  obtain ⟨b, d, rfl⟩ := h2.shape
  exact ⟨a, c, b, d, rfl⟩
theorem RdTb.parts {w : World} {x0 x y : Value} {t : TabD} (h : RdTb w (.agg #[x0, x, y]) t) : RdF w x t.nums ∧ RdI w y t.basis := by
  obtain ⟨va, vb, e, h1, h2⟩ := h
  simp only [Value.agg.injEq, Array.mk.injEq, List.cons.injEq, and_true] at e
  obtain ⟨_, rfl, rfl⟩ := e
  exact ⟨h1, h2⟩
theorem RdTb.up {w w' : World} {v : Value} {t : TabD} {B : Nat} (h : RdTb w v t) (hb : Below B w w') (hB : w.heap.size ≤ B) : RdTb w' v t := by
  obtain ⟨va, vb, e, h1, h2⟩ := h
  exact ⟨va, vb, e, h1.up hb hB, h2.up hb hB⟩
def wdT (t : TabD) : Nat := t.vars + t.basis.length + 1
structure DimT (t : TabD) : Prop where
  v1 : 1 ≤ t.vars
  v8 : t.vars ≤ 8
  b1 : 1 ≤ t.basis.length
  b8 : t.basis.length ≤ 8
  nl : t.nums.length = wdT t * (t.basis.length + 1)
theorem DimT.w17 {t : TabD} (h : DimT t) : 3 ≤ wdT t ∧ wdT t ≤ 17 := by have := h.v1; have := h.v8; have := h.b1; have := h.b8; unfold wdT; omega
theorem DimT.ix {t : TabD} (h : DimT t) {i k : Nat} (hi : i ≤ t.basis.length) (hk : k < wdT t) : i * wdT t + k < t.nums.length := by
  rw [h.nl, Nat.mul_comm (wdT t)]
  have : (i + 1) * wdT t ≤ (t.basis.length + 1) * wdT t := Nat.mul_le_mul_right _ (by omega)
  rw [Nat.add_mul] at this
  omega
theorem DimT.n153 {t : TabD} (h : DimT t) : t.nums.length ≤ 153 := by
  have h1 := h.w17
  have h2 := h.b8
  rw [h.nl]
  exact Nat.le_trans (Nat.mul_le_mul h1.2 (show t.basis.length + 1 ≤ 9 by omega)) (by decide)
def atT (t : TabD) (i k : Nat) : Nat := t.nums.getD (i * wdT t + k) 0
set_option maxHeartbeats 1000000 in
theorem tabWide_any (v : Value) (t : TabD) (w : World) (h : RdTb w v t) (hd : DimT t) :
    Calls Tryz.prog 321 #[v] w fun e w' => e = .returned (.int .i64 (wdT t : Nat)) ∧ Below w.heap.size w w' := by
  obtain ⟨a, c, b, d, rfl⟩ := h.shape
  have h8 := hd.v8
  have hb8 := hd.b8
  have HW := Lib.hid (show ((wdT t : Nat) : Int) = (t.vars : Int) + t.basis.length + 1 by unfold wdT; push_cast; rfl)
  obtain ⟨V, hV⟩ : ∃ V, V = t.vars := ⟨_, rfl⟩
  obtain ⟨N, hN⟩ : ∃ N, N = t.basis.length := ⟨_, rfl⟩
  rw [← hV] at h8 HW ⊢
  rw [← hN] at hb8 HW ⊢
  clear hd hV hN h
  go_enter Tryz.func321, Tryz.ntmps321
  go_wp2_with fail
  go_ret
  exact ⟨by rw [HW.out]; rfl, by (repeat' first | exact Below.refl _ _ | assumption | refine Below.alloc ?_ ?_ _ | refine Below.setCell ?_ ?_ _ | refine Below.drew ?_ | (simp; done) | (simp; omega))⟩
set_option maxHeartbeats 1000000 in
theorem tabAt_any (v : Value) (t : TabD) (i k : Nat) (w : World) (h : RdTb w v t) (hd : DimT t) (hi : i ≤ t.basis.length) (hk : k < wdT t) :
    Calls Tryz.prog 322 #[v, .int .i64 i, .int .i64 k] w fun e w' => e = .returned (.float .f32 (atT t i k)) ∧ Below w.heap.size w w' := by
  have HRT := Lib.hid h
  obtain ⟨a, c, b, d, rfl⟩ := h.shape
  have hx := hd.ix hi hk
  have hn := hd.n153
  have h17 := hd.w17
  have hb8 := hd.b8
  obtain ⟨gb, go, rfl, _, hc⟩ := h.parts.1.at hx
  obtain ⟨x, hxe⟩ : ∃ x, x = atT t i k := ⟨_, rfl⟩
  rw [show t.nums.getD (i * wdT t + k) 0 = x from hxe.symm] at hc
  rw [← hxe]
  obtain ⟨W, hW⟩ : ∃ W, W = wdT t := ⟨_, rfl⟩
  obtain ⟨m, hm⟩ : ∃ m, m = i * W + k := ⟨_, rfl⟩
  obtain ⟨p, hp⟩ : ∃ p, p = i * W := ⟨_, rfl⟩
  have e1 : (i : Int) * (W : Int) = (p : Int) := by rw [hp]; push_cast; rfl
  have e2 : (p : Int) + (k : Int) = (m : Int) := by rw [hm, ← hp]; push_cast; rfl
  have hpm : p ≤ m := by omega
  have hm153 : m < 153 := by rw [← hW, ← hm] at hx; omega
  have hw1 : IntKind.i64.wrap (p : Int) = (p : Int) := IntWalk.i64_in _ (by omega)
  have hw2 : IntKind.i64.wrap ((p : Int) + (k : Int)) = (m : Int) := by rw [e2]; exact IntWalk.i64_in _ (by omega)
  rw [← hW] at hx hc hk h17
  rw [← hm] at hx hc
  have HW := Lib.hid (fun X (hb : Below w.heap.size w X) => tabWide_any _ t X (HRT.out.up hb (Nat.le_refl _)) hd)
  rw [← hW] at HW
  obtain ⟨N, hN⟩ : ∃ N, N = t.nums.length := ⟨_, rfl⟩
  rw [← hN] at hx hn HW ⊢
  have hxI : (m : Int) < (N : Int) := by omega
  clear h hd hxe hW hm hN HRT hp e2
  go_enter Tryz.func322, Tryz.ntmps322
  go_upto_region 1 with fail
  refine wp_at fun W0 hW0 => ?_
  have HB0 := Lib.hid (show Below w.heap.size w W0 by subst hW0; (repeat' first | exact Below.refl _ _ | assumption | refine Below.alloc ?_ ?_ _ | refine Below.setCell ?_ ?_ _ | refine Below.drew ?_ | (simp; done) | (simp; omega)))
  have HK0 := Lib.hid (show Blk W0 w.heap.size 258 #[.int .i64 t.vars, .slice (some ⟨gb, go, none⟩) N c, .slice b t.basis.length d] by subst hW0; exact Blk.new _ _ _)
  clear hW0
  have d0 : W0.cell? ⟨w.heap.size, 0, none⟩ = some (.int .i64 t.vars) := HK0.out.cell 0 rfl
  have d1 : W0.cell? ⟨w.heap.size, 1, none⟩ = some (.slice (some ⟨gb, go, none⟩) N c) := HK0.out.cell 1 rfl
  have d2 : W0.cell? ⟨w.heap.size, 2, none⟩ = some (.slice b t.basis.length d) := HK0.out.cell 2 rfl
  have hc0 := held_of HB0.out hc (Nat.le_refl _)
  have hz0 := HB0.out.size
  clear hc
  refine wp_region_cls (fun X => X.cell? ⟨w.heap.size, 0, none⟩ = some (.int .i64 t.vars) ∧ X.cell? ⟨w.heap.size, 1, none⟩ = some (.slice (some ⟨gb, go, none⟩) N c) ∧ X.cell? ⟨w.heap.size, 2, none⟩ = some (.slice b t.basis.length d) ∧ X.cell? ⟨gb, go + m, none⟩ = some (.float .f32 x) ∧ Hid (Below W0.heap.size W0 X)) (by kernel_rfl) (by kernel_rfl) (⟨d0, d1, d2, hc0, (Below.refl _ _).drew⟩) ?_
  repeat (first
    | go_big_quiet_skip
    | (go_big_quiet_want
       apply Exists.intro
       refine ⟨fun X hX => ?_, ?_⟩
       · (try dsimp only at hX)
         go_simp
         (first | with_reducible rfl | done | (have hcur := hX.2.2.2.2; go_at_call 321; refine (HW.out X (HB0.out.trans (hcur.out.mono hz0))).mono ?_; rintro e w2 ⟨rfl, hb2⟩; have hbn := hcur.out.trans (hb2.mono hcur.out.size); exact ⟨rfl, held_of hbn d0 (Nat.le_refl _), held_of hbn d1 (Nat.le_refl _), held_of hbn d2 (Nat.le_refl _), held_of hbn hc0 (Nat.le_refl _), hbn⟩))
       go_big_quiet_on
       (try simp only [Act.put, List.setIfInBounds_toArray, List.set_cons_zero, List.set_cons_succ])))
  refine wpQuiet_nil ?_
  intro w1 hC
  (try dsimp only at hC)
  go_wp2_with fail
  go_ret
  exact ⟨rfl, HB0.out.trans (hC.2.2.2.2.out.mono hz0)⟩
end Go.Proofs.YtgkbbpajkbkgnaaGreatDoor

namespace Go.Proofs.YtgkbbpajkbkgnaaGreatDoor
open Go.RowKit
def abs32 (x : Nat) : Nat := x % 2147483648
theorem read32_parts {x : Nat} (h : fin32 x = true) : ∃ s m e, Ieee.single.read x = .number s m e ∧ s = (x / 2147483648 % 2 == 1) ∧ m < 16777216 ∧ -149 ≤ e ∧ e ≤ 104 ∧ abs32 x < 2139095040 ∧ (e + 149).toNat * 8388608 + m = abs32 x ∧ (m < 8388608 → e = -149) := by
  unfold fin32 at h
  unfold Ieee.Format.read at h ⊢
  unfold abs32
  have c1 : Ieee.single.signWeight = 2147483648 := rfl
  have c2 : Ieee.single.binade = 8388608 := rfl
  have c3 : Ieee.single.infRung = 2139095040 := rfl
  have c4 : Ieee.single.leastPlace = -149 := by decide +kernel
  simp only [c1, c2, c3, c4] at h ⊢
  by_cases h1 : x % 2147483648 < 8388608
  · rw [if_pos h1]
    exact ⟨_, _, _, rfl, rfl, by omega, by omega, by omega, by omega, by omega, by omega⟩
  · rw [if_neg h1] at h ⊢
    by_cases h2 : x % 2147483648 < 2139095040
    · rw [if_pos h2]
      exact ⟨_, _, _, rfl, rfl, by omega, by omega, by omega, h2, by omega, by omega⟩
    · rw [if_neg h2] at h
      by_cases h3 : x % 2147483648 = 2139095040
      · rw [if_pos h3] at h; simp at h
      · rw [if_neg h3] at h; simp at h
theorem log2_shift (m a : Nat) (h : m ≠ 0) : (m <<< a).log2 = m.log2 + a := by
  rw [Nat.shiftLeft_eq]
  have h1 := Nat.lt_log2_self (n := m)
  have h2 := Nat.log2_self_le h
  have hp := Nat.two_pow_pos a
  refine (Nat.log2_eq_iff (by have := Nat.mul_pos (by omega : 0 < m) hp; omega)).2 ⟨?_, ?_⟩
  · rw [Nat.pow_add]; exact Nat.mul_le_mul_right _ h2
  · rw [show m.log2 + a + 1 = (m.log2 + 1) + a by omega, Nat.pow_add]; exact Nat.mul_lt_mul_of_pos_right h1 hp
theorem cut_back (t : Bool) (m a : Nat) (h : m ≠ 0) : Ieee.Toward.even.cut t (m <<< a) a = m := by
  unfold Ieee.Toward.cut
  rw [log2_shift m a h, show min a (m.log2 + a + 2) = a by omega]
  have hp := Nat.two_pow_pos a
  simp only [Nat.shiftLeft_eq, Nat.one_mul, Nat.mul_mod_left, Nat.mul_div_left _ hp]
  have e1 : decide (2 ^ a < 2 * 0) = false := by simp
  have e2 : (2 ^ a == 2 * 0) = false := by simp
  simp [e1, e2]
theorem nearest_back {x : Nat} (hx : fin32 x = true) {s : Bool} {m : Nat} {e : Int} (hr : Ieee.single.read x = .number s m e) (t : Bool) (a : Nat) (e' : Int) (he : e' = e - a) :
    Ieee.single.nearest t (m <<< a) e' = Ieee.single.word t (abs32 x) := by
  obtain ⟨s', m', e2, h0, h1, h2, h3, h4, h5, h6, h7⟩ := read32_parts hx
  rw [hr] at h0
  cases h0
  unfold Ieee.Format.nearest
  by_cases hm : m = 0
  · subst hm
    rw [if_pos (by simp)]
    have : abs32 x = 0 := by have := h7 (by omega); omega
    rw [this]
  have hm' : m <<< a ≠ 0 := by rw [Nat.shiftLeft_eq]; have := Nat.mul_pos (show 0 < m by omega) (Nat.two_pow_pos a); omega
  rw [if_neg hm', log2_shift m a hm]
  have c2 : Ieee.single.binade = 8388608 := rfl
  have c3 : Ieee.single.infRung = 2139095040 := rfl
  have c4 : Ieee.single.leastPlace = -149 := by decide +kernel
  have c5 : Ieee.single.fractionBits = 23 := rfl
  have hl : max (e' + ((m.log2 + a : Nat) : Int) - (23 : Nat)) (-149) = e := by
    by_cases hs : m < 8388608
    · have h8 := h7 hs
      have : m.log2 < 23 := (Nat.log2_lt hm).2 (by omega)
      omega
    · have g1 : m.log2 < 24 := (Nat.log2_lt hm).2 (by omega)
      have g2 : ¬ m.log2 < 23 := fun h => by have := (Nat.log2_lt hm).1 h; omega
      omega
  simp only [c2, c3, c4, c5, hl]
  rw [show (e' - e).toNat = 0 by omega, show (e - e').toNat = a by omega, Nat.shiftLeft_zero, cut_back t m a hm]
  rw [show (e - -149).toNat = (e + 149).toNat by omega, h6, Nat.min_eq_left (by omega)]
theorem cut64 (s : Bool) (K : Nat) : Ieee.Toward.even.cut s K 0 = K := by
  unfold Ieee.Toward.cut
  simp [Nat.mod_one]
theorem double_of {s : Bool} {m : Nat} {e : Int} (hm : m < 16777216) (h1 : -149 ≤ e) (h2 : e ≤ 104) :
    ∃ r a e', r < 9218868437227405312 ∧ Ieee.double.nearest s m e = Ieee.double.word s r ∧ Ieee.double.read r = .number false (m <<< a) e' ∧ (m ≠ 0 → e' = e - a) := by
  unfold Ieee.Format.nearest
  have c1 : Ieee.double.signWeight = 9223372036854775808 := rfl
  have c2 : Ieee.double.binade = 4503599627370496 := rfl
  have c3 : Ieee.double.infRung = 9218868437227405312 := rfl
  have c4 : Ieee.double.leastPlace = -1074 := by decide +kernel
  have c5 : Ieee.double.fractionBits = 52 := rfl
  by_cases h0 : m = 0
  · rw [if_pos h0]
    refine ⟨0, 0, -1074, by decide, rfl, ?_, fun h => absurd h0 h⟩
    subst h0
    decide +kernel
  · rw [if_neg h0]
    have hl : m.log2 ≤ 23 := by
      have : m.log2 < 24 := (Nat.log2_lt h0).2 (by omega)
      omega
    have hlt : m < 2 ^ (m.log2 + 1) := Nat.lt_log2_self
    have hge : 2 ^ m.log2 ≤ m := Nat.log2_self_le h0
    have hlast : max (e + (m.log2 : Int) - (52 : Nat)) (-1074) = e + m.log2 - 52 := by omega
    simp only [c2, c3, c4, c5, hlast]
    have ha : (e - (e + (m.log2 : Int) - 52)).toNat = 52 - m.log2 := by omega
    have hb : (e + (m.log2 : Int) - 52 - e).toNat = 0 := by omega
    rw [ha, hb]
    have hk : m <<< (52 - m.log2) < 9007199254740992 := by
      rw [Nat.shiftLeft_eq]
      have : m * 2 ^ (52 - m.log2) < 2 ^ (m.log2 + 1) * 2 ^ (52 - m.log2) := Nat.mul_lt_mul_of_pos_right hlt (Nat.two_pow_pos _)
      rw [← Nat.pow_add, show m.log2 + 1 + (52 - m.log2) = 53 by omega] at this
      exact this
    have hk2 : 4503599627370496 ≤ m <<< (52 - m.log2) := by
      rw [Nat.shiftLeft_eq]
      have : 2 ^ m.log2 * 2 ^ (52 - m.log2) ≤ m * 2 ^ (52 - m.log2) := Nat.mul_le_mul_right _ hge
      rw [← Nat.pow_add, show m.log2 + (52 - m.log2) = 52 by omega] at this
      exact this
    rw [cut64]
    obtain ⟨K, hK⟩ : ∃ K, K = m <<< (52 - m.log2) := ⟨_, rfl⟩
    rw [← hK] at hk hk2 ⊢
    obtain ⟨Q, hQ⟩ : ∃ Q, Q = (e + (m.log2 : Int) - 52 - -1074).toNat := ⟨_, rfl⟩
    rw [← hQ]
    have hQ1 : Q ≤ 1149 := by omega
    have hQ2 : (Q : Int) = e + m.log2 + 1022 := by omega
    have hlt2 : Q * 4503599627370496 + K < 9218868437227405312 := by
      have := near_aux Q K hQ1 hk
      omega
    rw [Nat.min_eq_left (by omega)]
    refine ⟨_, 52 - m.log2, e + m.log2 - 52, hlt2, rfl, ?_, fun _ => by omega⟩
    unfold Ieee.Format.read
    simp only [c1, c2, c3, c4]
    have q1 : (Q * 4503599627370496 + K) / 9223372036854775808 % 2 = 0 := by omega
    have q2 : (Q * 4503599627370496 + K) % 9223372036854775808 = Q * 4503599627370496 + K := by omega
    rw [q1, q2, if_neg (by omega), if_pos hlt2, ← hK]
    have q3 : (Q * 4503599627370496 + K) % 4503599627370496 = K - 4503599627370496 := by omega
    have q4 : (Q * 4503599627370496 + K) / 4503599627370496 = Q + 1 := by omega
    rw [q3, q4, show 4503599627370496 + (K - 4503599627370496) = K by omega, show (-1074 : Int) + ((Q + 1 - 1 : Nat) : Int) = e + m.log2 - 52 by omega]
    rfl
theorem andNot_top (s : Bool) (r : Nat) (h : r < 9218868437227405312) : bits .andNot .u64 ((Ieee.double.word s r : Nat) : Int) 9223372036854775808 = (r : Int) := by
  have c1 : Ieee.double.signWeight = 9223372036854775808 := rfl
  have hw : Ieee.double.word s r < 18446744073709551616 := by unfold Ieee.Format.word; rw [c1]; split <;> omega
  have h2 := u64_andNot_nat (Ieee.double.word s r) 9223372036854775808 hw (by omega)
  rw [show ((9223372036854775808 : Nat) : Int) = 9223372036854775808 from rfl] at h2
  rw [h2, show 18446744073709551615 - 9223372036854775808 = 2 ^ 63 - 1 from rfl, Nat.and_two_pow_sub_one_eq_mod]
  unfold Ieee.Format.word
  rw [c1]
  congr 1
  split <;> omega
theorem conv_up {x : Nat} (hx : fin32 x = true) : ∃ s r a m e e', r < 9218868437227405312 ∧ floatToFloatBits .f32 x .f64 = some (Ieee.double.word s r) ∧ Ieee.single.read x = .number s m e ∧ Ieee.double.read r = .number false (m <<< a) e' ∧ (m ≠ 0 → e' = e - a) := by
  obtain ⟨s, m, e, h0, h1, h2, h3, h4, h5, h6, h7⟩ := read32_parts hx
  obtain ⟨r, a, e', b1, b2, b3, b4⟩ := double_of (s := s) h2 h3 h4
  refine ⟨s, r, a, m, e, e', b1, ?_, h0, b3, b4⟩
  unfold floatToFloatBits
  rw [if_neg (by decide), show FloatKind.f32.decode x = Ieee.single.read x from rfl, h0]
  have b5 : FloatKind.f64.encode (.number s m e) = Ieee.double.word s r := b2
  have b6 := read_word64 s r b1
  simp only [b5]
  rw [if_neg (by rw [show FloatKind.f64.decode (Ieee.double.word s r) = Ieee.double.read (Ieee.double.word s r) from rfl, b6.2]; simp)]
theorem abs_fin {x : Nat} (hx : fin32 x = true) : fin32 (abs32 x) = true := by
  obtain ⟨s, m, e, h0, h1, h2, h3, h4, h5, h6, h7⟩ := read32_parts hx
  unfold fin32 Ieee.Format.read
  have c1 : Ieee.single.signWeight = 2147483648 := rfl
  have c2 : Ieee.single.binade = 8388608 := rfl
  have c3 : Ieee.single.infRung = 2139095040 := rfl
  simp only [c1, c2, c3]
  have q : abs32 x % 2147483648 = abs32 x := by omega
  rw [q]
  by_cases h1 : abs32 x < 8388608
  · rw [if_pos h1]
  · rw [if_neg h1, if_pos h5]
theorem conv_down {x : Nat} (hx : fin32 x = true) {s : Bool} {m r a : Nat} {e e' : Int} (h0 : Ieee.single.read x = .number s m e) (h1 : Ieee.double.read r = .number false (m <<< a) e') (h2 : m ≠ 0 → e' = e - a) :
    floatToFloatBits .f64 r .f32 = some (abs32 x) := by
  unfold floatToFloatBits
  rw [if_neg (by decide), show FloatKind.f64.decode r = Ieee.double.read r from rfl, h1]
  have hn : Ieee.single.nearest false (m <<< a) e' = abs32 x := by
    by_cases hm : m = 0
    · obtain ⟨s', m', e2, g0, g1, g2, g3, g4, g5, g6, g7⟩ := read32_parts hx
      rw [h0] at g0
      cases g0
      subst hm
      have := g7 (by omega)
      unfold Ieee.Format.nearest
      rw [if_pos (by simp)]
      show 0 = abs32 x
      omega
    · have := nearest_back hx h0 false a e' (h2 hm)
      rw [this]; rfl
  have b5 : FloatKind.f32.encode (.number false (m <<< a) e') = abs32 x := hn
  simp only [b5]
  have hf := abs_fin hx
  have : (FloatKind.f32.decode (abs32 x)).isInfinity = false := by
    show (Ieee.single.read (abs32 x)).isInfinity = false
    unfold fin32 at hf
    cases h : Ieee.single.read (abs32 x) with
    | number => rfl
    | infinity => rw [h] at hf; simp at hf
    | nan => rw [h] at hf; simp at hf
  rw [if_neg (by rw [this]; simp)]
theorem run_bits64 (b : Nat) (w : World) : (callFunc 177 #[.float .f64 b]).run Tryz.prog w = .ok (.value (.int .u64 b)) w := by
  rw [run_callFunc_extern Tryz.func177 (by kernel_rfl) (by kernel_rfl) (by kernel_rfl) (e := Extern.MathFloatBits.float64bits) (by kernel_rfl)]
  rfl
theorem run_from64 (b : Nat) (w : World) : (callFunc 176 #[.int .u64 b]).run Tryz.prog w = .ok (.value (.float .f64 b)) w := by
  rw [run_callFunc_extern Tryz.func176 (by kernel_rfl) (by kernel_rfl) (by kernel_rfl) (e := Extern.MathFloatBits.float64frombits) (by kernel_rfl)]
  rfl
theorem Abs_any (s : Bool) (r : Nat) (hr : r < 9218868437227405312) (w : World) : Calls Tryz.prog 132 #[.float .f64 (Ieee.double.word s r)] w fun e w' => e = .returned (.float .f64 r) ∧ w' = w := by
  have h1 := fun W => run_bits64 (Ieee.double.word s r) W
  have h2 := fun W => run_from64 r W
  have h3 := andNot_top s r hr
  go_enter Tryz.func132, Tryz.ntmps132
  go_wp2_with fail
  go_ret
  exact ⟨rfl, rfl⟩
theorem absolute_any (x : Nat) (hx : fin32 x = true) (w : World) : Calls Tryz.prog 76 #[.float .f32 x] w fun e w' => e = .returned (.float .f32 (abs32 x)) ∧ w' = w := by
  obtain ⟨s, r, a, m, e, e', b1, b2, b3, b4, b5⟩ := conv_up hx
  have b6 := conv_down hx b3 b4 b5
  have h1 := fun (W : World) => run_convert_float_float (P := Tryz.prog) (w := W) 100 170 .f32 .f64 x _ (by rw [Tryz.und32]; rfl) Tryz.und64 b2
  have h2 := fun (W : World) => run_convert_float_float (P := Tryz.prog) (w := W) 170 100 .f64 .f32 r _ (by rw [Tryz.und64]; rfl) Tryz.und32 b6
  clear b2 b3 b4 b5 b6
  go_enter Tryz.func76, Tryz.ntmps76
  go_wp2_with (go_at_call 132; refine (Abs_any s r b1 _).mono ?_; rintro e w' ⟨rfl, rfl⟩)
  go_ret
  exact ⟨rfl, rfl⟩
end Go.Proofs.YtgkbbpajkbkgnaaGreatDoor

namespace Go.Proofs.YtgkbbpajkbkgnaaGreatDoor
open Go.RowKit
end Go.Proofs.YtgkbbpajkbkgnaaGreatDoor

namespace Go.Proofs.YtgkbbpajkbkgnaaGreatDoor
open Go.RowKit
def subV (x y : Nat) (w : World) : Nat := match Ieee.single.sub x y with
  | some r => r
  | none => tape32 (.nanBits .f32 x y) w
def subD (x y : Nat) : Nat := match Ieee.single.sub x y with
  | some _ => 0
  | none => 1
theorem run_sub_all {P : Program} (t : TypeId) (x y : Nat) (w : World) : (binOp .sub t (.float .f32 x) (.float .f32 y)).run P w = .ok (.float .f32 (subV x y w)) (w.drewN (subD x y)) := by
  unfold subV subD
  cases h : Ieee.single.sub x y with
  | some r => exact run_sub_some t x y r h w
  | none => exact run_sub_none t x y h w
theorem slcF_oneB (w : World) (z b : Nat) (hb : b = w.heap.size) : Slc (w.alloc (.cells #[.float .f32 z] 100)) (.slice (some ⟨b, 0, none⟩) 1 1) ([z].map F32) := by subst hb; exact slcF_one w z
end Go.Proofs.YtgkbbpajkbkgnaaGreatDoor
