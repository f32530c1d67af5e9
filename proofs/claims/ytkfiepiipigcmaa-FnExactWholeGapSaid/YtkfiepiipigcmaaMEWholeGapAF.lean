/-
  FnExactWholeGap: texts joined: LeftI, LeftS, Quo.
-/
import Derived.Deep.RegionLaw
import Derived.Test.YtkfiepiipigcmaaMEWholeGapAE
namespace Go.Proofs.Ytkfiepiipigcmaa
open Go.RowKit

/-- The post of what returns a list and whether there is one. -/
def ListPost (q : Bool) (L : List Nat) (B : Nat) (w : World) (e : Ending) (w' : World) : Prop := ∃ v, e = .returned (.tuple #[v, .bool q]) ∧ RdF w' v L ∧ Below B w w'

theorem left_all {r : RowsD} {x ys : List Nat} (hl : ys.length = r.bnds.length) (h : ∀ j, j < r.bnds.length → Mt (leftO r x j) (ys.getD j 0)) : allFin ys = (List.range r.bnds.length).all fun i => finO (leftO r x i) := by
  rw [Bool.eq_iff_iff]
  constructor
  · intro ha
    rw [List.all_eq_true]
    intro i hi
    have hi' := List.mem_range.1 hi
    rw [← (h i hi').fin]
    exact allFin_get ha (by omega)
  · intro ha
    rw [List.all_eq_true] at ha
    refine allFin_yes fun i hi => ?_
    rw [(h i (by omega)).fin]
    exact ha i (List.mem_range.2 (by omega))
theorem left_eq {r : RowsD} {x ys : List Nat} (hl : ys.length = r.bnds.length) (h : ∀ j, j < r.bnds.length → Mt (leftO r x j) (ys.getD j 0)) (ha : allFin ys = true) : ys = leftL r x := by
  apply List.ext_getElem?
  intro i
  unfold leftL
  by_cases hi : i < r.bnds.length
  · have h1 := h i hi
    have h2 := allFin_get ha (i := i) (by omega)
    rw [h1.fin] at h2
    have h3 : ys[i]? = some (ys.getD i 0) := by simp [show i < ys.length by omega]
    rw [h3]
    simp only [List.getElem?_map, List.getElem?_range hi, Option.map_some]
    cases ho : leftO r x i with
    | none => rw [ho] at h2; cases h2
    | some g => rw [ho] at h1; rw [h1.of_some]; rfl
  · rw [List.getElem?_eq_none (by omega), List.getElem?_eq_none (by simp; omega)]

theorem getD_snoc_lt (ys : List Nat) (q j : Nat) (h : j < ys.length) : (ys ++ [q]).getD j 0 = ys.getD j 0 := by
  rw [List.getD_eq_getElem?_getD, List.getD_eq_getElem?_getD, List.getElem?_append_left h]
theorem getD_snoc_eq (ys : List Nat) (q j : Nat) (h : j = ys.length) : (ys ++ [q]).getD j 0 = q := by
  subst h; rw [List.getD_eq_getElem?_getD]; simp

theorem run_sub_none' {P : Program} (t : TypeId) (x y : Nat) (h : Ieee.single.sub x y = none) (w : World) :
    (binOp .sub t (.float .f32 x) (.float .f32 y)).run P w = .ok (.float .f32 (tape32 (.nanBits .f32 x y) w)) w.drew := run_sub_none t x y h w

set_option maxHeartbeats 4000000 in
set_option maxRecDepth 4000 in
theorem implLeft_any (v : Value) (r : RowsD) (u : Value) (x : List Nat) (w : World) (h : RdR w v r) (hu : RdF w u x) :
    Calls Try.prog 172 #[v, u] w (ListPost (leftOk r x) (leftR r x) w.heap.size w) := by
  obtain ⟨a1, c1, a2, c2, a3, c3, rfl⟩ := h.shape
  obtain ⟨a, c, rfl⟩ := hu.shape
  obtain ⟨p1, p2, p3⟩ := h.parts
  have HP := Lib.hid h
  have HU := Lib.hid hu
  have H2 := Lib.hid p2
  obtain ⟨n0, x1, x2, x3⟩ := r
  simp only at HP H2 ⊢
  clear h hu p1 p2 p3
  go_enter Try.func172, Try.ntmps172
  go_wp2_with fail
  refine Calls.at fun W hW => ?_
  have hb := Lib.hid (show Below w.heap.size w W by subst hW; (repeat' first | exact Below.refl _ _ | assumption | refine Below.alloc ?_ ?_ _ | refine Below.setCell ?_ ?_ _ | refine Below.drew ?_ | (simp; done) | (simp; omega)))
  have hk := Lib.hid (show Blk W w.heap.size 67 #[.int .i64 n0, .slice a1 x1.length c1, .slice a2 x2.length c2, .slice a3 x3.length c3] by subst hW; exact Blk.new _ _ _)
  clear hW
  refine (ValidRows_any _ ⟨n0, x1, x2, x3⟩ W (HP.out.up hb.out (Nat.le_refl _))).mono ?_
  rintro e w1 ⟨rfl, hb1⟩
  have HB1 := Lib.hid (hb.out.trans (hb1.mono hb.out.size))
  have HK1 := Lib.hid (hk.out.below hb1 hk.out.lt)
  clear hb1 hb hk
  by_cases hv : validR ⟨n0, x1, x2, x3⟩ = true
  case neg =>
    rw [Bool.not_eq_true] at hv
    have HNO := Lib.hid (show leftOk ⟨n0, x1, x2, x3⟩ x = false by unfold leftOk fitX; rw [hv]; rfl)
    have HNV := Lib.hid (show leftR ⟨n0, x1, x2, x3⟩ x = [] by unfold leftR; rw [HNO.out]; rfl)
    rw [hv]
    clear hv
    go_wp2_with fail
    go_ret2
    exact ⟨.slice none 0 0, by rw [HNO.out]; rfl, by rw [HNV.out]; exact Slc.nil _, HB1.out⟩
  have HV := Lib.hid (validR_iff.1 hv)
  have HVB := Lib.hid hv
  rw [hv]
  clear hv
  have d0 : w1.cell? ⟨w.heap.size, 0, none⟩ = some (.int .i64 n0) := HK1.out.cell 0 rfl
  have d1 : w1.cell? ⟨w.heap.size, 1, none⟩ = some (.slice a1 x1.length c1) := HK1.out.cell 1 rfl
  have d2 : w1.cell? ⟨w.heap.size, 2, none⟩ = some (.slice a2 x2.length c2) := HK1.out.cell 2 rfl
  have d3 : w1.cell? ⟨w.heap.size, 3, none⟩ = some (.slice a3 x3.length c3) := HK1.out.cell 3 rfl
  go_wp2_with fail
  refine (isX_any _ ⟨n0, x1, x2, x3⟩ _ x w1 (HP.out.up HB1.out (Nat.le_refl _)) (HU.out.up HB1.out (Nat.le_refl _))).mono ?_
  rintro e w2 ⟨rfl, hb2⟩
  simp only
  have HB2 := Lib.hid (HB1.out.trans (hb2.mono HB1.out.size))
  have HK2 := Lib.hid (HK1.out.below hb2 HK1.out.lt)
  clear hb2 d0 d1 d2 d3
  by_cases hx : (((x.length : Int) == n0) && allFin x) = true
  case neg =>
    rw [Bool.not_eq_true] at hx
    have HNO := Lib.hid (show leftOk ⟨n0, x1, x2, x3⟩ x = false by unfold leftOk fitX; simp only [hx, Bool.and_false, Bool.false_and])
    have HNV := Lib.hid (show leftR ⟨n0, x1, x2, x3⟩ x = [] by unfold leftR; rw [HNO.out]; rfl)
    rw [hx]
    clear hx
    go_wp2_with fail
    go_ret2
    exact ⟨.slice none 0 0, by rw [HNO.out]; rfl, by rw [HNV.out]; exact Slc.nil _, HB2.out⟩
  have HFX := Lib.hid (show fitX ⟨n0, x1, x2, x3⟩ x = true by unfold fitX; rw [HVB.out]; exact hx)
  rw [hx]
  simp only [Bool.and_eq_true, beq_iff_eq] at hx
  have HX := Lib.hid hx
  have HXL := Lib.hid (show x3.length = x.length by have h1 := HV.out.gl; have h2 := hx.1; simp only at h1; omega)
  have hb8 : x2.length ≤ 8 := HV.out.b8
  clear hx
  have d2 : w2.cell? ⟨w.heap.size, 2, none⟩ = some (.slice a2 x2.length c2) := HK2.out.cell 2 rfl
  go_wp2_with fail
  go_loopw [6, 21] (fun out kk wr => ∃ (k : Nat) (b : Option Addr) (cap : Nat) (ys : List Nat), kk = .int .i64 k ∧ k ≤ x2.length ∧ out = .slice b k cap ∧ Hid (ys.length = k) ∧ Hid (∀ j, j < k → Mt (leftO ⟨n0, x1, x2, x3⟩ x j) (ys.getD j 0)) ∧ Hid (wr.ownsRow (w.heap.size + 1) 63 1 (.slice b k cap) k (ys.map F32)) ∧ Hid (Below (w.heap.size + 1) w2 wr)) (fun _ kk _ => x2.length - (intOf kk).toNat)
  case atStart => exact ⟨0, none, 0, [], rfl, Nat.zero_le _, rfl, rfl, fun j hj => by omega, World.ownsRow_nil _ _ _ _, Below.refl _ _⟩
  case round =>
    obtain ⟨k, b, cap, ys, rfl, hk, rfl, hyl, hall, HO, HBR⟩ := hrel
    have hK1 := HK2.out.lt
    have HKr := Lib.hid (HK2.out.below HBR.out (by omega))
    have HB := Lib.hid (HB2.out.trans (HBR.out.mono (by omega)))
    by_cases hlt : k < x2.length
    · obtain ⟨ub, uo, rfl, _, hc⟩ := (H2.out.up HB.out (Nat.le_refl _)).at hlt
      obtain ⟨y, hy⟩ : ∃ y, y = x2.getD k 0 := ⟨_, rfl⟩
      rw [← hy] at hc
      have HY := Lib.hid hy
      clear hy
      have d0 : wr.cell? ⟨w.heap.size, 0, none⟩ = some (.int .i64 n0) := HKr.out.cell 0 rfl
      have d1 : wr.cell? ⟨w.heap.size, 1, none⟩ = some (.slice a1 x1.length c1) := HKr.out.cell 1 rfl
      have d2 : wr.cell? ⟨w.heap.size, 2, none⟩ = some (.slice (some ⟨ub, uo, none⟩) x2.length c2) := HKr.out.cell 2 rfl
      have d3 : wr.cell? ⟨w.heap.size, 3, none⟩ = some (.slice a3 x3.length c3) := HKr.out.cell 3 rfl
      go_wp2_with fail
      refine (row_any _ ⟨n0, x1, x2, x3⟩ k wr (HP.out.up HB.out (Nat.le_refl _)) HV.out hlt).mono ?_
      rintro e w3 ⟨ru, rfl, hru, hb3⟩
      obtain ⟨ra, rc, rfl⟩ := hru.shape
      have HRU := Lib.hid hru
      have HO3 := Lib.hid (owns_below HO.out hb3 (Nat.le_refl _))
      have HBR3 := Lib.hid (HBR.out.trans (hb3.mono (Nat.le_trans (by omega : w.heap.size + 1 ≤ w2.heap.size) HBR.out.size)))
      have HB3 := Lib.hid (HB2.out.trans (HBR3.out.mono (by omega)))
      clear hru hb3 d0 d1 d2 d3 hc
      obtain ⟨L, hL⟩ : ∃ L, L = (rowO ⟨n0, x1, x2, x3⟩ k).length := ⟨_, rfl⟩
      rw [← hL] at HRU ⊢
      have HL := Lib.hid hL
      have HLV := Lib.hid (show L = x3.length by rw [hL]; exact rowO_len HV.out hlt)
      clear hL
      go_wp2_with fail
      refine (dot_any _ _ (rowO ⟨n0, x1, x2, x3⟩ k) x w3 HRU.out (HU.out.up HB3.out (Nat.le_refl _)) (by rw [← HL.out, HLV.out, HXL.out]; exact Nat.le_refl _) (rowO_fin HV.out k) HX.out.2).mono ?_
      rintro e w4 ⟨s, rfl, hs, m4, rfl⟩
      have HS := Lib.hid (show Mt (dotO (rowO ⟨n0, x1, x2, x3⟩ k) x x3.length) s by rw [← HLV.out, HL.out]; exact hs)
      clear hs
      have hsz3 : w.heap.size + 1 ≤ w3.heap.size := Nat.le_trans (by omega : w.heap.size + 1 ≤ w2.heap.size) HBR3.out.size
      have HOn := Lib.hid (show ∀ n, (w3.drewN n).ownsRow (w.heap.size + 1) 63 1 (.slice b k cap) k (ys.map F32) from fun n => HO3.out)
      cases hq : Ieee.single.sub y s with
      | some q =>
        have hsub := fun (W : World) => run_sub_some (P := Try.prog) 63 _ _ q hq W
        have HM := Lib.hid (left_some (r := ⟨n0, x1, x2, x3⟩) (x := x) (i := k) HS.out (by simp only; rw [← HY.out]; exact hq))
        clear hq
        go_wp2_with (at_builtin; refine app_flts rfl _ _ rfl (w.heap.size + 1) (.slice b k cap) k ys rfl (owns_below (HOn.out _) ((Below.refl _ _).alloc (Nat.le_refl _) _) (Nat.le_refl _)) _ [_] rfl (slcF_one _ _) (k + 1) (ys ++ [_]) (by simp) rfl (by omega) (by simp; omega) ?_; intro a2 cap2 w5 hown hbl hg _)
        go_roundw
        case rel =>
          refine ⟨k + 1, a2, cap2, ys ++ [_], by go_num, by omega, rfl, Lib.hid (by simp [hyl.out]), fun j hj => ?_, hown, ((below_drewN HBR3.out _).alloc (by simp; omega) _).trans hbl⟩
          by_cases hjk : j < k
          · rw [getD_snoc_lt _ _ _ (by rw [hyl.out]; exact hjk)]; exact hall.out j hjk
          · obtain rfl : j = k := by omega
            rw [getD_snoc_eq _ _ _ hyl.out.symm]; exact HM.out
        case measure => simp [intOf]; omega
      | none =>
        have hsub := fun (W : World) => run_sub_none (P := Try.prog) 63 _ _ hq W
        have HM := Lib.hid (left_none (r := ⟨n0, x1, x2, x3⟩) (x := x) (i := k) HS.out (by simp only; rw [← HY.out]; exact hq))
        clear hq
        go_wp2_with (at_builtin; refine app_flts rfl _ _ rfl (w.heap.size + 1) (.slice b k cap) k ys rfl (owns_below (HOn.out _) ((Below.refl _ _).alloc (Nat.le_refl _) _) (Nat.le_refl _)) _ [_] rfl (slcF_one _ _) (k + 1) (ys ++ [_]) (by simp) rfl (by omega) (by simp; omega) ?_; intro a2 cap2 w5 hown hbl hg _)
        go_roundw
        case rel =>
          refine ⟨k + 1, a2, cap2, ys ++ [_], by go_num, by omega, rfl, Lib.hid (by simp [hyl.out]), fun j hj => ?_, hown, ((below_drewN HBR3.out _).alloc (by simp; omega) _).trans hbl⟩
          by_cases hjk : j < k
          · rw [getD_snoc_lt _ _ _ (by rw [hyl.out]; exact hjk)]; exact hall.out j hjk
          · obtain rfl : j = k := by omega
            rw [getD_snoc_eq _ _ _ hyl.out.symm]; exact HM.out _ (tape32_nan _ _ _)
        case measure => simp [intOf]; omega
    · obtain rfl : k = x2.length := by omega
      have HA := Lib.hid (left_all (r := ⟨n0, x1, x2, x3⟩) (x := x) hyl.out hall.out)
      have HE := Lib.hid (left_eq (r := ⟨n0, x1, x2, x3⟩) (x := x) hyl.out hall.out)
      have HR := Lib.hid (show RdF wr (.slice b x2.length cap) ys from slc_of_owns HO.out)
      have HLO := Lib.hid (show leftOk ⟨n0, x1, x2, x3⟩ x = allFin ys by unfold leftOk; rw [HFX.out, Bool.true_and, HA.out])
      go_wp2_with fail
      refine (areFinite_any _ ys _ (by rw [← hyl.out] at HR; rw [← hyl.out]; exact HR.out)).mono ?_
      rintro e w4 ⟨rfl, m4, rfl⟩
      obtain ⟨q, hq⟩ : ∃ q, q = allFin ys := ⟨_, rfl⟩
      rw [← hq]
      have HQ := Lib.hid hq
      clear hq
      cases q
      · have HNV := Lib.hid (show leftR ⟨n0, x1, x2, x3⟩ x = [] by unfold leftR; rw [HLO.out, ← HQ.out]; rfl)
        go_wp2_with fail
        go_ret2
        exact ⟨.slice none 0 0, by rw [HLO.out, ← HQ.out]; rfl, by rw [HNV.out]; exact Slc.nil _, below_drewN HB.out _⟩
      · have HNV := Lib.hid (show leftR ⟨n0, x1, x2, x3⟩ x = ys by unfold leftR; rw [HLO.out, ← HQ.out, if_pos rfl]; exact (HE.out HQ.out.symm).symm)
        go_wp2_with fail
        go_ret2
        exact ⟨_, by rw [HLO.out, ← HQ.out]; rfl, by rw [HNV.out]; exact HR.out, below_drewN HB.out _⟩

end Go.Proofs.Ytkfiepiipigcmaa

namespace Go.Proofs.Ytkfiepiipigcmaa
open Go.RowKit

set_option maxHeartbeats 2000000 in
theorem specRow_any (bb : Nat) (v0 v1 v2 v3 : Value) (r : RowsD) (i : Nat) (w : World) (hk : Blk w bb 67 #[v0, v1, v2, v3]) (h : RdR w (.agg #[v0, v1, v2, v3]) r) (hv : ValR r) (hi : i < r.bnds.length) :
    Calls Try.prog 166 #[.pointer (some ⟨bb, 0, none⟩), .int .i64 i] w fun e w' => ∃ a c, e = .returned (.slice a r.gains.length c) ∧ RdF w (.slice a r.gains.length c) (rowO r i) ∧ ∃ m, w' = w.drewN m := by
  obtain ⟨a1, c1, a2, c2, a3, c3, e⟩ := h.shape
  simp only [Value.agg.injEq, Array.mk.injEq, List.cons.injEq, and_true] at e
  obtain ⟨rfl, rfl, rfl, rfl⟩ := e
  obtain ⟨p1, p2, p3⟩ := h.parts
  have hlen := rowO_len hv hi
  have hb8 := hv.b8
  have hv8 := hv.v8
  have hv1 := hv.v1
  have hgl := hv.gl
  have hnl := hv.nl
  have l1 := p1.len
  obtain ⟨n0, x1, x2, x3⟩ := r
  simp only at p1 p2 p3 hlen hb8 hv8 hv1 hgl hnl hi l1 hk ⊢
  unfold maxLen at l1
  obtain rfl := hgl
  obtain ⟨V, hV⟩ : ∃ V, V = x3.length := ⟨_, rfl⟩
  have hnl2 : x1.length = V * x2.length := by rw [hV]; exact_mod_cast hnl
  obtain ⟨m, hm⟩ : ∃ m, m = i * V := ⟨_, rfl⟩
  have hmm : m + V ≤ x1.length := by
    rw [hm, hnl2, Nat.mul_comm V, ← Nat.succ_mul]
    exact Nat.mul_le_mul_right _ hi
  have hx64 : x1.length ≤ 64 := by rw [hnl2]; exact Nat.le_trans (Nat.mul_le_mul (by omega) hb8) (by decide : 8 * 8 ≤ 64)
  have e1 : (i : Int) * (V : Int) = (m : Int) := by rw [hm]; push_cast; rfl
  have e2 : ((i : Int) + 1) * (V : Int) = (m : Int) + (V : Int) := by rw [Int.add_mul, e1, Int.one_mul]
  have P1 := Lib.hid p1
  have hnz : 0 < x1.length := by omega
  obtain ⟨b, off, rfl, hb0, _⟩ := p1.at hnz
  have hc1 : x1.length ≤ c1 ∧ c1 ≤ maxLen := by
    rcases p1 with ⟨e, _⟩ | ⟨ad, cap', e, q1, q2, _⟩
    · cases e
    · simp only [Value.slice.injEq] at e
      obtain ⟨_, _, rfl⟩ := e
      simpa using And.intro q1 q2
  obtain ⟨hc1a, hc1b⟩ := hc1
  have HC := Lib.hid hc1b
  unfold maxLen at hc1b
  have HV := Lib.hid hV
  have HM := Lib.hid hm
  have hp := Lib.hid (rdF_piece P1.out m V hmm (c1 - m) (by omega) (by have := HC.out; omega))
  rw [← hV] at hv8 hv1 hk ⊢
  have hi8 : i < 8 := by omega
  have d0 : w.cell? ⟨bb, 0, none⟩ = some (.int .i64 V) := hk.cell 0 rfl
  have d1 : w.cell? ⟨bb, 1, none⟩ = some (.slice (some ⟨b, off, none⟩) x1.length c1) := hk.cell 1 rfl
  have w1 : IntKind.i64.wrap ((i : Int) * (V : Int)) = (m : Int) := by rw [e1]; exact IntWalk.i64_in _ (by omega)
  have w2 : IntKind.i64.wrap (((i : Int) + 1) * (V : Int)) = (m : Int) + (V : Int) := by rw [e2]; exact IntWalk.i64_in _ (by omega)
  have w3 : IntKind.i64.wrap ((i : Int) + 1) = (i : Int) + 1 := IntWalk.i64_in _ (by omega)
  have g1 : (0 : Int) ≤ (m : Int) := by omega
  have g2 : (m : Int) ≤ (m : Int) + (V : Int) := by omega
  have g3 : (m : Int) + (V : Int) ≤ (c1 : Int) := by omega
  have g4 : ((m : Int) + (V : Int)).toNat = m + V := by omega
  clear h p1 p2 p3 hlen hnl hnl2 hm hV hk e1 e2
  go_enter Try.func166, Try.ntmps166
  go_wp2_with fail
  go_quiet (fail)
  clear w1 w2 w3 g4
  go_wp2_with fail
  go_ret
  simp
  refine ⟨_, _, ⟨rfl, rfl⟩, ?_, nq, rfl⟩
  unfold rowO
  simp only
  rw [← HV.out, ← HM.out]
  exact hp.out

set_option maxHeartbeats 2000000 in
theorem l02Fit_any (bb : Nat) (v0 v1 v2 v3 : Value) (r : RowsD) (u : Value) (x : List Nat) (w : World) (hk : Blk w bb 67 #[v0, v1, v2, v3]) (h : RdR w (.agg #[v0, v1, v2, v3]) r) (hu : RdF w u x) :
    Calls Try.prog 110 #[.pointer (some ⟨bb, 0, none⟩), u] w fun e w' => e = .returned (.bool (fitX r x)) ∧ ∃ m, w' = w.drewN m := by
  obtain ⟨a1, c1, a2, c2, a3, c3, e⟩ := h.shape
  simp only [Value.agg.injEq, Array.mk.injEq, List.cons.injEq, and_true] at e
  obtain ⟨rfl, rfl, rfl, rfl⟩ := e
  obtain ⟨a, c, rfl⟩ := hu.shape
  have l1 := hu.len
  unfold maxLen at l1
  have HU := Lib.hid hu
  have HV := Lib.hid (l02Is_any bb _ _ _ _ r w hk h)
  have d0 : w.cell? ⟨bb, 0, none⟩ = some (.int .i64 r.vars) := hk.cell 0 rfl
  obtain ⟨n0, x1, x2, x3⟩ := r
  simp only at HV d0 ⊢
  clear h hu hk
  by_cases hv : validR ⟨n0, x1, x2, x3⟩ = true
  · rw [hv] at HV
    by_cases hq : (x.length : Int) = n0
    · have hqb : ((x.length : Int) == n0) = true := by simpa using hq
      have HF := Lib.hid (show fitX ⟨n0, x1, x2, x3⟩ x = allFin x by unfold fitX; rw [hv, Bool.true_and, hqb, Bool.true_and])
      clear hv hq
      go_enter Try.func110, Try.ntmps110
      go_wp2_with fail
      refine HV.out.mono ?_
      rintro e w1 ⟨rfl, m1, rfl⟩
      go_wp2_with fail
      refine (l02Finite_any _ x _ (HU.out.drewN m1)).mono ?_
      rintro e w2 ⟨rfl, m2, rfl⟩
      go_wp2_with fail
      go_ret
      exact ⟨by rw [HF.out]; rfl, _, rfl⟩
    · have hqb : ((x.length : Int) == n0) = false := by simpa using hq
      have HF := Lib.hid (show fitX ⟨n0, x1, x2, x3⟩ x = false by unfold fitX; simp only [hqb, Bool.false_and, Bool.and_false])
      clear hv hq
      go_enter Try.func110, Try.ntmps110
      go_wp2_with fail
      refine HV.out.mono ?_
      rintro e w1 ⟨rfl, m1, rfl⟩
      go_wp2_with fail
      go_ret
      exact ⟨by rw [HF.out]; rfl, _, rfl⟩
  · rw [Bool.not_eq_true] at hv
    rw [hv] at HV
    have HF := Lib.hid (show fitX ⟨n0, x1, x2, x3⟩ x = false by unfold fitX; rw [hv, Bool.false_and])
    clear hv
    go_enter Try.func110, Try.ntmps110
    go_wp2_with fail
    refine HV.out.mono ?_
    rintro e w1 ⟨rfl, m1, rfl⟩
    go_wp2_with fail
    go_ret
    exact ⟨by rw [HF.out]; rfl, _, rfl⟩

theorem l02Number_any (s : Nat) (w : World) :
    Calls Try.prog 88 #[.float .f32 s] w fun e w' => e = .returned (.tuple #[.float .f32 (if fin32 s = true then s else 0), .bool (fin32 s)]) ∧ ∃ m, w' = w.drewN m := by
  obtain ⟨q, hq⟩ : ∃ q, q = fin32 s := ⟨_, rfl⟩
  have HC := Lib.hid (l01Finite_any s w)
  rw [← hq] at HC ⊢
  clear hq
  cases q
  all_goals
    go_enter Try.func88, Try.ntmps88
    go_wp2_with fail
    refine HC.out.mono ?_
    rintro e w1 ⟨rfl, m1, rfl⟩
    go_wp2_with fail
    go_ret2
    exact ⟨rfl, _, rfl⟩

set_option maxHeartbeats 2000000 in
theorem specGain_any (v : Value) (r : RowsD) (u : Value) (x : List Nat) (w : World) (h : RdR w v r) (hu : RdF w u x) :
    Calls Try.prog 86 #[v, u] w (NumPost (gainOk r x) (gainV r x) w.heap.size w) := by
  obtain ⟨a1, c1, a2, c2, a3, c3, rfl⟩ := h.shape
  obtain ⟨a, c, rfl⟩ := hu.shape
  obtain ⟨p1, p2, p3⟩ := h.parts
  have HP := Lib.hid h
  have HU := Lib.hid hu
  have H3 := Lib.hid p3
  obtain ⟨n0, x1, x2, x3⟩ := r
  simp only at HP H3 ⊢
  clear h hu p1 p2 p3
  go_enter Try.func86, Try.ntmps86
  go_wp2_with fail
  refine Calls.at fun W hW => ?_
  have hb := Lib.hid (show Below w.heap.size w W by subst hW; (repeat' first | exact Below.refl _ _ | assumption | refine Below.alloc ?_ ?_ _ | refine Below.setCell ?_ ?_ _ | refine Below.drew ?_ | (simp; done) | (simp; omega)))
  have hk := Lib.hid (show Blk W w.heap.size 67 #[.int .i64 n0, .slice a1 x1.length c1, .slice a2 x2.length c2, .slice a3 x3.length c3] by subst hW; exact Blk.new _ _ _)
  clear hW
  refine (l02Fit_any w.heap.size _ _ _ _ ⟨n0, x1, x2, x3⟩ _ x W hk.out (HP.out.up hb.out (Nat.le_refl _)) (HU.out.up hb.out (Nat.le_refl _))).mono ?_
  rintro e w1 ⟨rfl, m1, rfl⟩
  by_cases hf : fitX ⟨n0, x1, x2, x3⟩ x = true
  case neg =>
    rw [Bool.not_eq_true] at hf
    have HNO := Lib.hid (show gainOk ⟨n0, x1, x2, x3⟩ x = false by unfold gainOk; rw [hf]; rfl)
    have HNV := Lib.hid (show gainV ⟨n0, x1, x2, x3⟩ x = 0 by unfold gainV; rw [HNO.out]; rfl)
    rw [hf]
    clear hf
    go_wp2_with fail
    go_ret2
    exact ⟨by rw [HNO.out, HNV.out]; rfl, below_drewN hb.out _⟩
  have HFX := Lib.hid hf
  rw [hf]
  unfold fitX at hf
  simp only [Bool.and_eq_true, beq_iff_eq] at hf
  have HV := Lib.hid (validR_iff.1 hf.1)
  have HX := Lib.hid hf.2
  have HXL := Lib.hid (show x3.length = x.length by have h1 := HV.out.gl; have h2 := hf.2.1; simp only at h1; omega)
  clear hf
  have d3 : W.cell? ⟨w.heap.size, 3, none⟩ = some (.slice a3 x3.length c3) := hk.out.cell 3 rfl
  go_wp2_with fail
  refine (l02Dot_any _ _ x3 x _ (H3.out.up (below_drewN hb.out m1) (Nat.le_refl _)) (HU.out.up (below_drewN hb.out m1) (Nat.le_refl _)) (by have := HXL.out; omega) HV.out.fg HX.out.2).mono ?_
  rintro e w3 ⟨s, rfl, hs, m3, rfl⟩
  have HS := Lib.hid (show Mt (gainO ⟨n0, x1, x2, x3⟩ x) s from hs)
  clear hs d3
  go_wp2_with fail
  refine (l02Number_any s _).mono ?_
  rintro e w4 ⟨rfl, m4, rfl⟩
  have HG := Lib.hid (show gainOk ⟨n0, x1, x2, x3⟩ x = fin32 s by unfold gainOk; rw [HFX.out, Bool.true_and, HS.out.fin])
  have HNV := Lib.hid (show gainV ⟨n0, x1, x2, x3⟩ x = if fin32 s = true then s else 0 by
    unfold gainV; rw [HG.out]
    by_cases hq : fin32 s = true
    · rw [if_pos hq, if_pos hq]
      have h1 := HS.out.fin
      cases hg : gainO ⟨n0, x1, x2, x3⟩ x with
      | none => rw [hg, hq] at h1; cases h1
      | some g => have := HS.out; rw [hg] at this; rw [this.of_some]; rfl
    · rw [if_neg hq, if_neg hq])
  obtain ⟨q, hq⟩ : ∃ q, q = fin32 s := ⟨_, rfl⟩
  obtain ⟨y, hy⟩ : ∃ y, y = if fin32 s = true then s else 0 := ⟨_, rfl⟩
  rw [← hy, ← hq]
  have HQ := Lib.hid hq
  have HY := Lib.hid hy
  clear hq hy
  go_wp2_with fail
  go_ret2
  exact ⟨by rw [HG.out, HNV.out, ← HY.out, ← HQ.out]; rfl, below_drewN hb.out _⟩

theorem l02List_any (v : Value) (xs : List Nat) (w : World) (h : RdF w v xs) :
    Calls Try.prog 167 #[v] w fun e w' => e = .returned (.tuple #[if allFin xs = true then v else .slice none 0 0, .bool (allFin xs)]) ∧ ∃ m, w' = w.drewN m := by
  obtain ⟨a, c, rfl⟩ := h.shape
  obtain ⟨q, hq⟩ : ∃ q, q = allFin xs := ⟨_, rfl⟩
  have HC := Lib.hid (l02Finite_any _ xs w h)
  rw [← hq] at HC ⊢
  clear hq h
  cases q
  all_goals
    go_enter Try.func167, Try.ntmps167
    go_wp2_with fail
    refine HC.out.mono ?_
    rintro e w1 ⟨rfl, m1, rfl⟩
    go_wp2_with fail
    go_ret2
    exact ⟨rfl, _, rfl⟩

/-- A difference, a number or a NaN that the tape names. -/
def subV (x y : Nat) (w : World) : Nat := match Ieee.single.sub x y with
  | some r => r
  | none => tape32 (.nanBits .f32 x y) w
def subD (x y : Nat) : Nat := match Ieee.single.sub x y with
  | some _ => 0
  | none => 1
theorem run_sub_all {P : Program} (t : TypeId) (x y : Nat) (w : World) : (binOp .sub t (.float .f32 x) (.float .f32 y)).run P w = .ok (.float .f32 (subV x y w)) (w.drewN (subD x y)) := by
  unfold subV subD
  cases h : Ieee.single.sub x y with
  | some r => exact run_sub_some t x y r h w
  | none => exact run_sub_none t x y h w
theorem left_all' {r : RowsD} {x : List Nat} {i s : Nat} {y : Nat} (hy : y = r.bnds.getD i 0) (h : Mt (dotO (rowO r i) x r.gains.length) s) (w : World) : Mt (leftO r x i) (subV y s w) := by
  subst hy
  unfold subV
  cases hq : Ieee.single.sub (r.bnds.getD i 0) s with
  | some q => exact left_some h hq
  | none => exact left_none h hq _ (tape32_nan _ _ _)

theorem slcF_oneB (w : World) (z b : Nat) (hb : b = w.heap.size) : Slc (w.alloc (.cells #[.float .f32 z] 63)) (.slice (some ⟨b, 0, none⟩) 1 1) ([z].map F32) := by subst hb; exact slcF_one w z

set_option maxHeartbeats 4000000 in
set_option maxRecDepth 4000 in
theorem specLeft_any (v : Value) (r : RowsD) (u : Value) (x : List Nat) (w : World) (h : RdR w v r) (hu : RdF w u x) :
    Calls Try.prog 145 #[v, u] w (ListPost (leftOk r x) (leftR r x) w.heap.size w) := by
  obtain ⟨a1, c1, a2, c2, a3, c3, rfl⟩ := h.shape
  obtain ⟨a, c, rfl⟩ := hu.shape
  obtain ⟨p1, p2, p3⟩ := h.parts
  have HP := Lib.hid h
  have HU := Lib.hid hu
  have H2 := Lib.hid p2
  obtain ⟨n0, x1, x2, x3⟩ := r
  simp only at HP H2 ⊢
  clear h hu p1 p2 p3
  go_enter Try.func145, Try.ntmps145
  go_wp2_with fail
  refine Calls.at fun W hW => ?_
  have hb := Lib.hid (show Below w.heap.size w W by subst hW; (repeat' first | exact Below.refl _ _ | assumption | refine Below.alloc ?_ ?_ _ | refine Below.setCell ?_ ?_ _ | refine Below.drew ?_ | (simp; done) | (simp; omega)))
  have hk := Lib.hid (show Blk W w.heap.size 67 #[.int .i64 n0, .slice a1 x1.length c1, .slice a2 x2.length c2, .slice a3 x3.length c3] by subst hW; exact Blk.new _ _ _)
  clear hW
  refine (l02Fit_any w.heap.size _ _ _ _ ⟨n0, x1, x2, x3⟩ _ x W hk.out (HP.out.up hb.out (Nat.le_refl _)) (HU.out.up hb.out (Nat.le_refl _))).mono ?_
  rintro e w1 ⟨rfl, m1, rfl⟩
  by_cases hf : fitX ⟨n0, x1, x2, x3⟩ x = true
  case neg =>
    rw [Bool.not_eq_true] at hf
    have HNO := Lib.hid (show leftOk ⟨n0, x1, x2, x3⟩ x = false by unfold leftOk; rw [hf]; rfl)
    have HNV := Lib.hid (show leftR ⟨n0, x1, x2, x3⟩ x = [] by unfold leftR; rw [HNO.out]; rfl)
    rw [hf]
    clear hf
    go_wp2_with fail
    go_ret2
    exact ⟨.slice none 0 0, by rw [HNO.out]; rfl, by rw [HNV.out]; exact Slc.nil _, below_drewN hb.out _⟩
  have HFX := Lib.hid hf
  rw [hf]
  unfold fitX at hf
  simp only [Bool.and_eq_true, beq_iff_eq] at hf
  have HV := Lib.hid (validR_iff.1 hf.1)
  have HX := Lib.hid hf.2
  have HXL := Lib.hid (show x3.length = x.length by have h1 := HV.out.gl; have h2 := hf.2.1; simp only at h1; omega)
  have hb8 : x2.length ≤ 8 := HV.out.b8
  have hK1 := hk.out.lt
  clear hf
  go_wp2_with fail
  refine wp_at fun W0 hW0 => ?_
  have HB0 := Lib.hid (show Below w.heap.size w W0 by subst hW0; exact (below_drewN hb.out m1).alloc (by simp; omega) _)
  have HK0 := Lib.hid (show Blk W0 w.heap.size 67 #[.int .i64 n0, .slice a1 x1.length c1, .slice a2 x2.length c2, .slice a3 x3.length c3] by subst hW0; exact Blk.alloc (w := W.drewN m1) hk.out _)
  have HO0 := Lib.hid (show W0.ownsRow (w.heap.size + 1) 63 1 (.slice (some ⟨W.heap.size, 0, none⟩) 0 0) 0 (([] : List Nat).map F32) by subst hW0; exact owns_base (ownsF_empty (W.drewN m1)) (by simp; omega))
  have hz0 : w.heap.size + 1 ≤ W0.heap.size := by subst hW0; simp; omega
  clear hW0
  go_loopw [6, 7] (fun out kk wr => ∃ (k : Nat) (b : Option Addr) (cap : Nat) (ys : List Nat), kk = .int .i64 k ∧ k ≤ x2.length ∧ out = .slice b k cap ∧ Hid (ys.length = k) ∧ Hid (∀ j, j < k → Mt (leftO ⟨n0, x1, x2, x3⟩ x j) (ys.getD j 0)) ∧ Hid (wr.ownsRow (w.heap.size + 1) 63 1 (.slice b k cap) k (ys.map F32)) ∧ Hid (Below (w.heap.size + 1) W0 wr)) (fun _ kk _ => x2.length - (intOf kk).toNat)
  case atStart => exact ⟨0, _, 0, [], rfl, Nat.zero_le _, rfl, rfl, fun j hj => by omega, HO0.out, Below.refl _ _⟩
  case round =>
    obtain ⟨k, b, cap, ys, rfl, hk', rfl, hyl, hall, HO, HBR⟩ := hrel
    have HKr := Lib.hid (HK0.out.below HBR.out (by omega))
    have HB := Lib.hid (HB0.out.trans (HBR.out.mono (by omega)))
    by_cases hlt : k < x2.length
    · obtain ⟨ub, uo, rfl, _, hc⟩ := (H2.out.up HB.out (Nat.le_refl _)).at hlt
      obtain ⟨y, hy⟩ : ∃ y, y = x2.getD k 0 := ⟨_, rfl⟩
      rw [← hy] at hc
      have HY := Lib.hid hy
      clear hy
      have d2 : wr.cell? ⟨w.heap.size, 2, none⟩ = some (.slice (some ⟨ub, uo, none⟩) x2.length c2) := HKr.out.cell 2 rfl
      have hkl : (k : Int) < (x2.length : Int) := by omega
      have hszr : w.heap.size + 1 ≤ wr.heap.size := Nat.le_trans hz0 HBR.out.size
      have HROW := Lib.hid (show ∀ n, Calls Try.prog 166 #[.pointer (some ⟨w.heap.size, 0, none⟩), .int .i64 k] (wr.drewN n) fun e w' => ∃ a c, e = .returned (.slice a x3.length c) ∧ (∀ q, RdF (wr.drewN q) (.slice a x3.length c) (rowO ⟨n0, x1, x2, x3⟩ k)) ∧ ∃ m, w' = wr.drewN m from fun n => (specRow_any w.heap.size _ _ _ _ ⟨n0, x1, x2, x3⟩ k (wr.drewN n) HKr.out (HP.out.up (below_drewN HB.out n) (Nat.le_refl _)) HV.out hlt).mono fun e w' ⟨a, c, h1, h2, m, h3⟩ => ⟨a, c, h1, fun q => h2, n + m, by rw [h3, World.drewN_drewN]⟩)
      have HDOT := Lib.hid (show ∀ n a c, (∀ q, RdF (wr.drewN q) (.slice a x3.length c) (rowO ⟨n0, x1, x2, x3⟩ k)) → Calls Try.prog 111 _ (wr.drewN n) fun e w' => ∃ s, e = .returned (.float .f32 s) ∧ Mt (dotO (rowO ⟨n0, x1, x2, x3⟩ k) x x3.length) s ∧ ∃ m, w' = wr.drewN m from fun n a c hr => (l02Dot_any (.slice a x3.length c) _ (rowO ⟨n0, x1, x2, x3⟩ k) x (wr.drewN n) (hr n) (HU.out.up (below_drewN HB.out n) (Nat.le_refl _)) (by rw [rowO_len HV.out hlt]; exact Nat.le_of_eq HXL.out) (rowO_fin HV.out k) HX.out.2).mono fun e w' ⟨s, h1, h2, m, h3⟩ => ⟨s, h1, by rw [rowO_len HV.out hlt] at h2; exact h2, n + m, by rw [h3, World.drewN_drewN]⟩)
      have HOn := Lib.hid (show ∀ n, (wr.drewN n).ownsRow (w.heap.size + 1) 63 1 (.slice b k cap) k (ys.map F32) from fun n => HO.out)
      go_wp2_with fail
      go_region_law (first
        | (go_simp; go_at_call 166; refine (HROW.out 1).mono ?_; rintro e w8 ⟨ra, rc, rfl, hr, m8, rfl⟩)
        | (go_simp; go_at_call 111; refine (HDOT.out _ _ _ hr).mono ?_; rintro e w9 ⟨s, rfl, hs, m9, rfl⟩; have hsub := fun (W : World) => run_sub_all (P := Try.prog) 63 y s W)
        | (refine step_app_flts rfl (.tmp 19) (.tmp 30) (by rfl) (w.heap.size + 1) (.slice b k cap) k ys (by rfl) (owns_below (HOn.out _) ((Below.refl _ _).alloc (Nat.le_refl _) _) (Nat.le_refl _)) _ [_] (by rfl) (slcF_oneB _ _ _ (by simp)) (k + 1) (ys ++ [_]) (by simp) rfl (by omega) (by simp; omega) ?_; intro a2 cap2 w5 hown hbl hg)
        | fail)
      all_goals
        clear hsub
        go_wp2_with fail
        go_roundw
        case rel =>
          refine ⟨k + 1, a2, cap2, ys ++ [_], by go_num, by omega, rfl, Lib.hid (by simp [hyl.out]), fun j hj => ?_, hown, ((below_drewN HBR.out _).alloc (by simp; omega) _).trans hbl⟩
          by_cases hjk : j < k
          · rw [getD_snoc_lt _ _ _ (by rw [hyl.out]; exact hjk)]; exact hall.out j hjk
          · obtain rfl : j = k := by omega
            rw [getD_snoc_eq _ _ _ hyl.out.symm]; exact left_all' HY.out hs _
        case measure => simp [intOf]; omega
    · obtain rfl : k = x2.length := by omega
      have d2 : wr.cell? ⟨w.heap.size, 2, none⟩ = some (.slice a2 x2.length c2) := HKr.out.cell 2 rfl
      have HA := Lib.hid (left_all (r := ⟨n0, x1, x2, x3⟩) (x := x) hyl.out hall.out)
      have HE := Lib.hid (left_eq (r := ⟨n0, x1, x2, x3⟩) (x := x) hyl.out hall.out)
      have HR := Lib.hid (show RdF wr (.slice b x2.length cap) ys from slc_of_owns HO.out)
      have HLO := Lib.hid (show leftOk ⟨n0, x1, x2, x3⟩ x = allFin ys by unfold leftOk; rw [HFX.out, Bool.true_and, HA.out])
      go_wp2_with fail
      refine (l02List_any (.slice b x2.length cap) ys _ HR.out).mono ?_
      rintro e w4 ⟨rfl, m4, rfl⟩
      obtain ⟨q, hq⟩ : ∃ q, q = allFin ys := ⟨_, rfl⟩
      rw [← hq]
      have HQ := Lib.hid hq
      clear hq
      cases q
      · have HNV := Lib.hid (show leftR ⟨n0, x1, x2, x3⟩ x = [] by unfold leftR; rw [HLO.out, ← HQ.out]; rfl)
        go_wp2_with fail
        go_ret2
        exact ⟨.slice none 0 0, by rw [HLO.out, ← HQ.out]; rfl, by rw [HNV.out]; exact Slc.nil _, below_drewN HB.out _⟩
      · have HNV := Lib.hid (show leftR ⟨n0, x1, x2, x3⟩ x = ys by unfold leftR; rw [HLO.out, ← HQ.out, if_pos rfl]; exact (HE.out HQ.out.symm).symm)
        go_wp2_with fail
        go_ret2
        exact ⟨_, by rw [HLO.out, ← HQ.out]; rfl, by rw [HNV.out]; exact HR.out, below_drewN HB.out _⟩

end Go.Proofs.Ytkfiepiipigcmaa

namespace Go.Proofs.Ytkfiepiipigcmaa
open Go.RowKit

def gtF (a b : Nat) : Bool := Ieee.single.order a b == some .gt
def divV (x m : Nat) : Nat := (Ieee.single.div x m).getD 0

theorem datum_swap (a b : Ieee.Datum) : a.order b = (b.order a).map Ordering.swap := by
  cases a <;> cases b <;> simp only [Ieee.Datum.order, Option.map_none, Option.map_some]
  · rename_i s m i t n j
    rw [Int.min_comm, ← Std.OrientedCmp.eq_swap]
  · rename_i s _ _ t; cases t <;> rfl
  · rename_i s t _ _; cases s <;> rfl
  · rw [← Std.OrientedCmp.eq_swap]
theorem order_swap (a b : Nat) : Ieee.single.order a b = (Ieee.single.order b a).map Ordering.swap := datum_swap _ _
theorem order_fin {a b : Nat} (ha : fin32 a = true) (hb : fin32 b = true) : ∃ o, Ieee.single.order a b = some o := by
  obtain ⟨s, m, e, h, _⟩ := read32_parts ha
  obtain ⟨s', m', e', h', _⟩ := read32_parts hb
  unfold Ieee.Format.order
  rw [h, h']
  exact ⟨_, rfl⟩
theorem gt_lt {a b : Nat} (h : gtF a b = true) : FloatKind.f32.format.order b a = some .lt := by
  show Ieee.single.order b a = _
  unfold gtF at h
  simp only [beq_iff_eq] at h
  rw [order_swap, h]; rfl
theorem gt_gt {a b : Nat} (h : gtF a b = true) : FloatKind.f32.format.order a b = some .gt := by
  show Ieee.single.order a b = _
  unfold gtF at h
  simpa using h
theorem not_gt {a b : Nat} (ha : fin32 a = true) (hb : fin32 b = true) (h : gtF a b = false) : FloatKind.f32.format.order b a = some .gt ∨ FloatKind.f32.format.order b a = some .eq := by
  show Ieee.single.order b a = _ ∨ Ieee.single.order b a = _
  obtain ⟨o, ho⟩ := order_fin hb ha
  rw [ho]
  cases o
  · rw [order_swap] at ho
    unfold gtF at h
    cases hx : Ieee.single.order a b with
    | none => rw [hx] at ho; simp at ho
    | some q => rw [hx] at ho h; cases q <;> simp_all
  · exact .inr rfl
  · exact .inl rfl
theorem not_gt_b {a b : Nat} (h : gtF a b = false) : (FloatKind.f32.format.order a b == some .gt) = false := h
theorem yes_gt_b {a b : Nat} (h : gtF a b = true) : (FloatKind.f32.format.order a b == some .gt) = true := h
theorem fin0 : fin32 0 = true := by decide +kernel
theorem div_some {x m : Nat} (hx : fin32 x = true) (hm : fin32 m = true) (hp : gtF m 0 = true) : Ieee.single.div x m = some (divV x m) := by
  obtain ⟨s, a, e, h, _⟩ := read32_parts hx
  obtain ⟨s', a', e', h', _⟩ := read32_parts hm
  have hn : a' ≠ 0 := by
    intro e0
    subst e0
    unfold gtF Ieee.Format.order at hp
    rw [h', show Ieee.single.read 0 = .number false 0 (-149) by decide +kernel] at hp
    simp [Ieee.Datum.order, Ieee.signed] at hp
  unfold divV Ieee.Format.div
  rw [h, h']
  simp only [Ieee.Datum.quotient, if_neg hn, Option.map_some, Option.getD_some]
theorem run_div_some {P : Program} (t : TypeId) {x y : Nat} (h : Ieee.single.div x y = some (divV x y)) (w : World) :
    (binOp .quo t (.float .f32 x) (.float .f32 y)).run P w = .ok (.float .f32 (divV x y)) w := run_float_arith w .quo t .f32 x y _ h

/-- What a number is worth, in the least unit. -/
def valI (x : Nat) : Int := match Ieee.single.read x with
  | .number s m e => Ieee.signed s m (e + 149).toNat
  | _ => 0
theorem valI_of {x m : Nat} {s : Bool} {e : Int} (h : Ieee.single.read x = .number s m e) : valI x = Ieee.signed s m (e + 149).toNat := by unfold valI; rw [h]
theorem signed_eq (s : Bool) (m k : Nat) : Ieee.signed s m k = (if s = true then -1 else 1) * ((m * 2 ^ k : Nat) : Int) := by
  unfold Ieee.signed
  rw [Nat.shiftLeft_eq]
  cases s <;> simp
theorem signed_shift (s : Bool) (m k d : Nat) : Ieee.signed s m (k + d) = Ieee.signed s m k * ((2 ^ d : Nat) : Int) := by
  rw [signed_eq, signed_eq, Nat.pow_add, ← Nat.mul_assoc, Int.natCast_mul, Int.mul_assoc]
theorem cmp_mul (a b : Int) (d : Nat) (h : 0 < d) : compare (a * (d : Int)) (b * (d : Int)) = compare a b := by
  have hd : (0 : Int) < (d : Int) := by omega
  rcases Int.lt_trichotomy a b with h1 | h1 | h1
  · rw [Int.compare_eq_lt.2 h1, Int.compare_eq_lt.2 (Int.mul_lt_mul_of_pos_right h1 hd)]
  · rw [h1]; simp
  · rw [Int.compare_eq_gt.2 h1, Int.compare_eq_gt.2 (Int.mul_lt_mul_of_pos_right h1 hd)]
theorem order_val {x y : Nat} (hx : fin32 x = true) (hy : fin32 y = true) : Ieee.single.order x y = some (compare (valI x) (valI y)) := by
  obtain ⟨s, m, e, h, _, _, h1, _⟩ := read32_parts hx
  obtain ⟨t, n, j, h', _, _, h2, _⟩ := read32_parts hy
  rw [valI_of h, valI_of h']
  unfold Ieee.Format.order
  rw [h, h']
  simp only [Ieee.Datum.order]
  have e1 : (e + 149).toNat = (e - min e j).toNat + (min e j + 149).toNat := by omega
  have e2 : (j + 149).toNat = (j - min e j).toNat + (min e j + 149).toNat := by omega
  rw [e1, e2, signed_shift, signed_shift, cmp_mul _ _ _ (Nat.two_pow_pos _)]
theorem gtF_val {x y : Nat} (hx : fin32 x = true) (hy : fin32 y = true) : gtF x y = decide (valI y < valI x) := by
  unfold gtF
  rw [order_val hx hy]
  rcases Int.lt_trichotomy (valI x) (valI y) with h1 | h1 | h1
  · rw [Int.compare_eq_lt.2 h1, decide_eq_false (by omega)]; rfl
  · rw [h1, decide_eq_false (by omega)]; simp
  · rw [Int.compare_eq_gt.2 h1, decide_eq_true h1]; rfl


end Go.Proofs.Ytkfiepiipigcmaa
