/-
  FnExactWholeGap: texts joined: LeftS, Str, Reg, Whole, WholeS.
-/
import Derived.Deep.RegionLaw
import Derived.Deep.RegionHeld3
import Derived.Test.YtkfiepiipigcmaaMEWholeGapAA
import Derived.Test.YtkfiepiipigcmaaMEWholeGapAE
namespace Go.Proofs.Ytkfiepiipigcmaa
open Go.RowKit

set_option maxHeartbeats 2000000 in
theorem specRow_any (bb : Nat) (v0 v1 v2 v3 : Value) (r : RowsD) (i : Nat) (w : World) (hk : Blk w bb 67 #[v0, v1, v2, v3]) (h : RdR w (.agg #[v0, v1, v2, v3]) r) (hv : ValR r) (hi : i < r.bnds.length) :
    Calls Try.prog 166 #[.pointer (some ⟨bb, 0, none⟩), .int .i64 i] w fun e w' => ∃ a c, e = .returned (.slice a r.gains.length c) ∧ RdF w (.slice a r.gains.length c) (rowO r i) ∧ ∃ m, w' = w.drewN m := by
  obtain ⟨a1, c1, a2, c2, a3, c3, e⟩ := h.shape
  simp only [Value.agg.injEq, Array.mk.injEq, List.cons.injEq, and_true] at e
  obtain ⟨rfl, rfl, rfl, rfl⟩ := e
  obtain ⟨p1, p2, p3⟩ := h.parts
  have hlen := rowO_len hv hi
  have hb8 := hv.b8
  have hv8 := hv.v8
  have hv1 := hv.v1
  have hgl := hv.gl
  have hnl := hv.nl
  have l1 := p1.len
  obtain ⟨n0, x1, x2, x3⟩ := r
  simp only at p1 p2 p3 hlen hb8 hv8 hv1 hgl hnl hi l1 hk ⊢
  unfold maxLen at l1
  obtain rfl := hgl
  obtain ⟨V, hV⟩ : ∃ V, V = x3.length := ⟨_, rfl⟩
  have hnl2 : x1.length = V * x2.length := by rw [hV]; exact_mod_cast hnl
  obtain ⟨m, hm⟩ : ∃ m, m = i * V := ⟨_, rfl⟩
  have hmm : m + V ≤ x1.length := by
    rw [hm, hnl2, Nat.mul_comm V, ← Nat.succ_mul]
    exact Nat.mul_le_mul_right _ hi
  have hx64 : x1.length ≤ 64 := by rw [hnl2]; exact Nat.le_trans (Nat.mul_le_mul (by omega) hb8) (by decide : 8 * 8 ≤ 64)
  have e1 : (i : Int) * (V : Int) = (m : Int) := by rw [hm]; push_cast; rfl
  have e2 : ((i : Int) + 1) * (V : Int) = (m : Int) + (V : Int) := by rw [Int.add_mul, e1, Int.one_mul]
  have P1 := Lib.hid p1
  have hnz : 0 < x1.length := by omega
  obtain ⟨b, off, rfl, hb0, _⟩ := p1.at hnz
  have hc1 : x1.length ≤ c1 ∧ c1 ≤ maxLen := by
    rcases p1 with ⟨e, _⟩ | ⟨ad, cap', e, q1, q2, _⟩
    · cases e
    · simp only [Value.slice.injEq] at e
      obtain ⟨_, _, rfl⟩ := e
      simpa using And.intro q1 q2
  obtain ⟨hc1a, hc1b⟩ := hc1
  have HC := Lib.hid hc1b
  unfold maxLen at hc1b
  have HV := Lib.hid hV
  have HM := Lib.hid hm
  have hp := Lib.hid (rdF_piece P1.out m V hmm (c1 - m) (by omega) (by have := HC.out; omega))
  rw [← hV] at hv8 hv1 hk ⊢
  have hi8 : i < 8 := by omega
  have d0 : w.cell? ⟨bb, 0, none⟩ = some (.int .i64 V) := hk.cell 0 rfl
  have d1 : w.cell? ⟨bb, 1, none⟩ = some (.slice (some ⟨b, off, none⟩) x1.length c1) := hk.cell 1 rfl
  have w1 : IntKind.i64.wrap ((i : Int) * (V : Int)) = (m : Int) := by rw [e1]; exact IntWalk.i64_in _ (by omega)
  have w2 : IntKind.i64.wrap (((i : Int) + 1) * (V : Int)) = (m : Int) + (V : Int) := by rw [e2]; exact IntWalk.i64_in _ (by omega)
  have w3 : IntKind.i64.wrap ((i : Int) + 1) = (i : Int) + 1 := IntWalk.i64_in _ (by omega)
  have g1 : (0 : Int) ≤ (m : Int) := by omega
  have g2 : (m : Int) ≤ (m : Int) + (V : Int) := by omega
  have g3 : (m : Int) + (V : Int) ≤ (c1 : Int) := by omega
  have g4 : ((m : Int) + (V : Int)).toNat = m + V := by omega
  clear h p1 p2 p3 hlen hnl hnl2 hm hV hk e1 e2
  go_enter Try.func166, Try.ntmps166
  go_wp2_with fail
  go_quiet (fail)
  clear w1 w2 w3 g4
  go_wp2_with fail
  go_ret
  simp
  refine ⟨_, _, ⟨rfl, rfl⟩, ?_, nq, rfl⟩
  unfold rowO
  simp only
  rw [← HV.out, ← HM.out]
  exact hp.out

set_option maxHeartbeats 2000000 in
theorem l02Fit_any (bb : Nat) (v0 v1 v2 v3 : Value) (r : RowsD) (u : Value) (x : List Nat) (w : World) (hk : Blk w bb 67 #[v0, v1, v2, v3]) (h : RdR w (.agg #[v0, v1, v2, v3]) r) (hu : RdF w u x) :
    Calls Try.prog 110 #[.pointer (some ⟨bb, 0, none⟩), u] w fun e w' => e = .returned (.bool (fitX r x)) ∧ ∃ m, w' = w.drewN m := by
  obtain ⟨a1, c1, a2, c2, a3, c3, e⟩ := h.shape
  simp only [Value.agg.injEq, Array.mk.injEq, List.cons.injEq, and_true] at e
  obtain ⟨rfl, rfl, rfl, rfl⟩ := e
  obtain ⟨a, c, rfl⟩ := hu.shape
  have l1 := hu.len
  unfold maxLen at l1
  have HU := Lib.hid hu
  have HV := Lib.hid (l02Is_any bb _ _ _ _ r w hk h)
  have d0 : w.cell? ⟨bb, 0, none⟩ = some (.int .i64 r.vars) := hk.cell 0 rfl
  obtain ⟨n0, x1, x2, x3⟩ := r
  simp only at HV d0 ⊢
  clear h hu hk
  by_cases hv : validR ⟨n0, x1, x2, x3⟩ = true
  · rw [hv] at HV
    by_cases hq : (x.length : Int) = n0
    · have hqb : ((x.length : Int) == n0) = true := by simpa using hq
      have HF := Lib.hid (show fitX ⟨n0, x1, x2, x3⟩ x = allFin x by unfold fitX; rw [hv, Bool.true_and, hqb, Bool.true_and])
      clear hv hq
      go_enter Try.func110, Try.ntmps110
      go_wp2_with fail
      refine HV.out.mono ?_
      rintro e w1 ⟨rfl, m1, rfl⟩
      go_wp2_with fail
      refine (l02Finite_any _ x _ (HU.out.drewN m1)).mono ?_
      rintro e w2 ⟨rfl, m2, rfl⟩
      go_wp2_with fail
      go_ret
      exact ⟨by rw [HF.out]; rfl, _, rfl⟩
    · have hqb : ((x.length : Int) == n0) = false := by simpa using hq
      have HF := Lib.hid (show fitX ⟨n0, x1, x2, x3⟩ x = false by unfold fitX; simp only [hqb, Bool.false_and, Bool.and_false])
      clear hv hq
      go_enter Try.func110, Try.ntmps110
      go_wp2_with fail
      refine HV.out.mono ?_
      rintro e w1 ⟨rfl, m1, rfl⟩
      go_wp2_with fail
      go_ret
      exact ⟨by rw [HF.out]; rfl, _, rfl⟩
  · rw [Bool.not_eq_true] at hv
    rw [hv] at HV
    have HF := Lib.hid (show fitX ⟨n0, x1, x2, x3⟩ x = false by unfold fitX; rw [hv, Bool.false_and])
    clear hv
    go_enter Try.func110, Try.ntmps110
    go_wp2_with fail
    refine HV.out.mono ?_
    rintro e w1 ⟨rfl, m1, rfl⟩
    go_wp2_with fail
    go_ret
    exact ⟨by rw [HF.out]; rfl, _, rfl⟩

theorem l02Number_any (s : Nat) (w : World) :
    Calls Try.prog 88 #[.float .f32 s] w fun e w' => e = .returned (.tuple #[.float .f32 (if fin32 s = true then s else 0), .bool (fin32 s)]) ∧ ∃ m, w' = w.drewN m := by
  obtain ⟨q, hq⟩ : ∃ q, q = fin32 s := ⟨_, rfl⟩
  have HC := Lib.hid (l01Finite_any s w)
  rw [← hq] at HC ⊢
  clear hq
  cases q
  all_goals
    go_enter Try.func88, Try.ntmps88
    go_wp2_with fail
    refine HC.out.mono ?_
    rintro e w1 ⟨rfl, m1, rfl⟩
    go_wp2_with fail
    go_ret2
    exact ⟨rfl, _, rfl⟩

set_option maxHeartbeats 2000000 in
theorem specGain_any (v : Value) (r : RowsD) (u : Value) (x : List Nat) (w : World) (h : RdR w v r) (hu : RdF w u x) :
    Calls Try.prog 86 #[v, u] w (NumPost (gainOk r x) (gainV r x) w.heap.size w) := by
  obtain ⟨a1, c1, a2, c2, a3, c3, rfl⟩ := h.shape
  obtain ⟨a, c, rfl⟩ := hu.shape
  obtain ⟨p1, p2, p3⟩ := h.parts
  have HP := Lib.hid h
  have HU := Lib.hid hu
  have H3 := Lib.hid p3
  obtain ⟨n0, x1, x2, x3⟩ := r
  simp only at HP H3 ⊢
  clear h hu p1 p2 p3
  go_enter Try.func86, Try.ntmps86
  go_wp2_with fail
  refine Calls.at fun W hW => ?_
  have hb := Lib.hid (show Below w.heap.size w W by subst hW; (repeat' first | exact Below.refl _ _ | assumption | refine Below.alloc ?_ ?_ _ | refine Below.setCell ?_ ?_ _ | refine Below.drew ?_ | (simp; done) | (simp; omega)))
  have hk := Lib.hid (show Blk W w.heap.size 67 #[.int .i64 n0, .slice a1 x1.length c1, .slice a2 x2.length c2, .slice a3 x3.length c3] by subst hW; exact Blk.new _ _ _)
  clear hW
  refine (l02Fit_any w.heap.size _ _ _ _ ⟨n0, x1, x2, x3⟩ _ x W hk.out (HP.out.up hb.out (Nat.le_refl _)) (HU.out.up hb.out (Nat.le_refl _))).mono ?_
  rintro e w1 ⟨rfl, m1, rfl⟩
  by_cases hf : fitX ⟨n0, x1, x2, x3⟩ x = true
  case neg =>
    rw [Bool.not_eq_true] at hf
    have HNO := Lib.hid (show gainOk ⟨n0, x1, x2, x3⟩ x = false by unfold gainOk; rw [hf]; rfl)
    have HNV := Lib.hid (show gainV ⟨n0, x1, x2, x3⟩ x = 0 by unfold gainV; rw [HNO.out]; rfl)
    rw [hf]
    clear hf
    go_wp2_with fail
    go_ret2
    exact ⟨by rw [HNO.out, HNV.out]; rfl, below_drewN hb.out _⟩
  have HFX := Lib.hid hf
  rw [hf]
  unfold fitX at hf
  simp only [Bool.and_eq_true, beq_iff_eq] at hf
  have HV := Lib.hid (validR_iff.1 hf.1)
  have HX := Lib.hid hf.2
  have HXL := Lib.hid (show x3.length = x.length by have h1 := HV.out.gl; have h2 := hf.2.1; simp only at h1; omega)
  clear hf
  have d3 : W.cell? ⟨w.heap.size, 3, none⟩ = some (.slice a3 x3.length c3) := hk.out.cell 3 rfl
  go_wp2_with fail
  refine (l02Dot_any _ _ x3 x _ (H3.out.up (below_drewN hb.out m1) (Nat.le_refl _)) (HU.out.up (below_drewN hb.out m1) (Nat.le_refl _)) (by have := HXL.out; omega) HV.out.fg HX.out.2).mono ?_
  rintro e w3 ⟨s, rfl, hs, m3, rfl⟩
  have HS := Lib.hid (show Mt (gainO ⟨n0, x1, x2, x3⟩ x) s from hs)
  clear hs d3
  go_wp2_with fail
  refine (l02Number_any s _).mono ?_
  rintro e w4 ⟨rfl, m4, rfl⟩
  have HG := Lib.hid (show gainOk ⟨n0, x1, x2, x3⟩ x = fin32 s by unfold gainOk; rw [HFX.out, Bool.true_and, HS.out.fin])
  have HNV := Lib.hid (show gainV ⟨n0, x1, x2, x3⟩ x = if fin32 s = true then s else 0 by
    unfold gainV; rw [HG.out]
    by_cases hq : fin32 s = true
    · rw [if_pos hq, if_pos hq]
      have h1 := HS.out.fin
      cases hg : gainO ⟨n0, x1, x2, x3⟩ x with
      | none => rw [hg, hq] at h1; cases h1
      | some g => have := HS.out; rw [hg] at this; rw [this.of_some]; rfl
    · rw [if_neg hq, if_neg hq])
  obtain ⟨q, hq⟩ : ∃ q, q = fin32 s := ⟨_, rfl⟩
  obtain ⟨y, hy⟩ : ∃ y, y = if fin32 s = true then s else 0 := ⟨_, rfl⟩
  rw [← hy, ← hq]
  have HQ := Lib.hid hq
  have HY := Lib.hid hy
  clear hq hy
  go_wp2_with fail
  go_ret2
  exact ⟨by rw [HG.out, HNV.out, ← HY.out, ← HQ.out]; rfl, below_drewN hb.out _⟩

theorem l02List_any (v : Value) (xs : List Nat) (w : World) (h : RdF w v xs) :
    Calls Try.prog 167 #[v] w fun e w' => e = .returned (.tuple #[if allFin xs = true then v else .slice none 0 0, .bool (allFin xs)]) ∧ ∃ m, w' = w.drewN m := by
  obtain ⟨a, c, rfl⟩ := h.shape
  obtain ⟨q, hq⟩ : ∃ q, q = allFin xs := ⟨_, rfl⟩
  have HC := Lib.hid (l02Finite_any _ xs w h)
  rw [← hq] at HC ⊢
  clear hq h
  cases q
  all_goals
    go_enter Try.func167, Try.ntmps167
    go_wp2_with fail
    refine HC.out.mono ?_
    rintro e w1 ⟨rfl, m1, rfl⟩
    go_wp2_with fail
    go_ret2
    exact ⟨rfl, _, rfl⟩

/-- A difference, a number or a NaN that the tape names. -/
def subV (x y : Nat) (w : World) : Nat := match Ieee.single.sub x y with
  | some r => r
  | none => tape32 (.nanBits .f32 x y) w
def subD (x y : Nat) : Nat := match Ieee.single.sub x y with
  | some _ => 0
  | none => 1
theorem run_sub_all {P : Program} (t : TypeId) (x y : Nat) (w : World) : (binOp .sub t (.float .f32 x) (.float .f32 y)).run P w = .ok (.float .f32 (subV x y w)) (w.drewN (subD x y)) := by
  unfold subV subD
  cases h : Ieee.single.sub x y with
  | some r => exact run_sub_some t x y r h w
  | none => exact run_sub_none t x y h w
theorem left_all' {r : RowsD} {x : List Nat} {i s : Nat} {y : Nat} (hy : y = r.bnds.getD i 0) (h : Mt (dotO (rowO r i) x r.gains.length) s) (w : World) : Mt (leftO r x i) (subV y s w) := by
  subst hy
  unfold subV
  cases hq : Ieee.single.sub (r.bnds.getD i 0) s with
  | some q => exact left_some h hq
  | none => exact left_none h hq _ (tape32_nan _ _ _)

theorem slcF_oneB (w : World) (z b : Nat) (hb : b = w.heap.size) : Slc (w.alloc (.cells #[.float .f32 z] 63)) (.slice (some ⟨b, 0, none⟩) 1 1) ([z].map F32) := by subst hb; exact slcF_one w z

set_option maxHeartbeats 4000000 in
set_option maxRecDepth 4000 in
theorem specLeft_any (v : Value) (r : RowsD) (u : Value) (x : List Nat) (w : World) (h : RdR w v r) (hu : RdF w u x) :
    Calls Try.prog 145 #[v, u] w (ListPost (leftOk r x) (leftR r x) w.heap.size w) := by
  obtain ⟨a1, c1, a2, c2, a3, c3, rfl⟩ := h.shape
  obtain ⟨a, c, rfl⟩ := hu.shape
  obtain ⟨p1, p2, p3⟩ := h.parts
  have HP := Lib.hid h
  have HU := Lib.hid hu
  have H2 := Lib.hid p2
  obtain ⟨n0, x1, x2, x3⟩ := r
  simp only at HP H2 ⊢
  clear h hu p1 p2 p3
  go_enter Try.func145, Try.ntmps145
  go_wp2_with fail
  refine Calls.at fun W hW => ?_
  have hb := Lib.hid (show Below w.heap.size w W by subst hW; (repeat' first | exact Below.refl _ _ | assumption | refine Below.alloc ?_ ?_ _ | refine Below.setCell ?_ ?_ _ | refine Below.drew ?_ | (simp; done) | (simp; omega)))
  have hk := Lib.hid (show Blk W w.heap.size 67 #[.int .i64 n0, .slice a1 x1.length c1, .slice a2 x2.length c2, .slice a3 x3.length c3] by subst hW; exact Blk.new _ _ _)
  clear hW
  refine (l02Fit_any w.heap.size _ _ _ _ ⟨n0, x1, x2, x3⟩ _ x W hk.out (HP.out.up hb.out (Nat.le_refl _)) (HU.out.up hb.out (Nat.le_refl _))).mono ?_
  rintro e w1 ⟨rfl, m1, rfl⟩
  by_cases hf : fitX ⟨n0, x1, x2, x3⟩ x = true
  case neg =>
    rw [Bool.not_eq_true] at hf
    have HNO := Lib.hid (show leftOk ⟨n0, x1, x2, x3⟩ x = false by unfold leftOk; rw [hf]; rfl)
    have HNV := Lib.hid (show leftR ⟨n0, x1, x2, x3⟩ x = [] by unfold leftR; rw [HNO.out]; rfl)
    rw [hf]
    clear hf
    go_wp2_with fail
    go_ret2
    exact ⟨.slice none 0 0, by rw [HNO.out]; rfl, by rw [HNV.out]; exact Slc.nil _, below_drewN hb.out _⟩
  have HFX := Lib.hid hf
  rw [hf]
  unfold fitX at hf
  simp only [Bool.and_eq_true, beq_iff_eq] at hf
  have HV := Lib.hid (validR_iff.1 hf.1)
  have HX := Lib.hid hf.2
  have HXL := Lib.hid (show x3.length = x.length by have h1 := HV.out.gl; have h2 := hf.2.1; simp only at h1; omega)
  have hb8 : x2.length ≤ 8 := HV.out.b8
  have hK1 := hk.out.lt
  clear hf
  go_wp2_with fail
  refine wp_at fun W0 hW0 => ?_
  have HB0 := Lib.hid (show Below w.heap.size w W0 by subst hW0; exact (below_drewN hb.out m1).alloc (by simp; omega) _)
  have HK0 := Lib.hid (show Blk W0 w.heap.size 67 #[.int .i64 n0, .slice a1 x1.length c1, .slice a2 x2.length c2, .slice a3 x3.length c3] by subst hW0; exact Blk.alloc (w := W.drewN m1) hk.out _)
  have HO0 := Lib.hid (show W0.ownsRow (w.heap.size + 1) 63 1 (.slice (some ⟨W.heap.size, 0, none⟩) 0 0) 0 (([] : List Nat).map F32) by subst hW0; exact owns_base (ownsF_empty (W.drewN m1)) (by simp; omega))
  have hz0 : w.heap.size + 1 ≤ W0.heap.size := by subst hW0; simp; omega
  clear hW0
  go_loopw [6, 7] (fun out kk wr => ∃ (k : Nat) (b : Option Addr) (cap : Nat) (ys : List Nat), kk = .int .i64 k ∧ k ≤ x2.length ∧ out = .slice b k cap ∧ Hid (ys.length = k) ∧ Hid (∀ j, j < k → Mt (leftO ⟨n0, x1, x2, x3⟩ x j) (ys.getD j 0)) ∧ Hid (wr.ownsRow (w.heap.size + 1) 63 1 (.slice b k cap) k (ys.map F32)) ∧ Hid (Below (w.heap.size + 1) W0 wr)) (fun _ kk _ => x2.length - (intOf kk).toNat)
  case atStart => exact ⟨0, _, 0, [], rfl, Nat.zero_le _, rfl, rfl, fun j hj => by omega, HO0.out, Below.refl _ _⟩
  case round =>
    obtain ⟨k, b, cap, ys, rfl, hk', rfl, hyl, hall, HO, HBR⟩ := hrel
    have HKr := Lib.hid (HK0.out.below HBR.out (by omega))
    have HB := Lib.hid (HB0.out.trans (HBR.out.mono (by omega)))
    by_cases hlt : k < x2.length
    · obtain ⟨ub, uo, rfl, _, hc⟩ := (H2.out.up HB.out (Nat.le_refl _)).at hlt
      obtain ⟨y, hy⟩ : ∃ y, y = x2.getD k 0 := ⟨_, rfl⟩
      rw [← hy] at hc
      have HY := Lib.hid hy
      clear hy
      have d2 : wr.cell? ⟨w.heap.size, 2, none⟩ = some (.slice (some ⟨ub, uo, none⟩) x2.length c2) := HKr.out.cell 2 rfl
      have hkl : (k : Int) < (x2.length : Int) := by omega
      have hszr : w.heap.size + 1 ≤ wr.heap.size := Nat.le_trans hz0 HBR.out.size
      have HROW := Lib.hid (show ∀ n, Calls Try.prog 166 #[.pointer (some ⟨w.heap.size, 0, none⟩), .int .i64 k] (wr.drewN n) fun e w' => ∃ a c, e = .returned (.slice a x3.length c) ∧ (∀ q, RdF (wr.drewN q) (.slice a x3.length c) (rowO ⟨n0, x1, x2, x3⟩ k)) ∧ ∃ m, w' = wr.drewN m from fun n => (specRow_any w.heap.size _ _ _ _ ⟨n0, x1, x2, x3⟩ k (wr.drewN n) HKr.out (HP.out.up (below_drewN HB.out n) (Nat.le_refl _)) HV.out hlt).mono fun e w' ⟨a, c, h1, h2, m, h3⟩ => ⟨a, c, h1, fun q => h2, n + m, by rw [h3, World.drewN_drewN]⟩)
      have HDOT := Lib.hid (show ∀ n a c, (∀ q, RdF (wr.drewN q) (.slice a x3.length c) (rowO ⟨n0, x1, x2, x3⟩ k)) → Calls Try.prog 111 _ (wr.drewN n) fun e w' => ∃ s, e = .returned (.float .f32 s) ∧ Mt (dotO (rowO ⟨n0, x1, x2, x3⟩ k) x x3.length) s ∧ ∃ m, w' = wr.drewN m from fun n a c hr => (l02Dot_any (.slice a x3.length c) _ (rowO ⟨n0, x1, x2, x3⟩ k) x (wr.drewN n) (hr n) (HU.out.up (below_drewN HB.out n) (Nat.le_refl _)) (by rw [rowO_len HV.out hlt]; exact Nat.le_of_eq HXL.out) (rowO_fin HV.out k) HX.out.2).mono fun e w' ⟨s, h1, h2, m, h3⟩ => ⟨s, h1, by rw [rowO_len HV.out hlt] at h2; exact h2, n + m, by rw [h3, World.drewN_drewN]⟩)
      have HOn := Lib.hid (show ∀ n, (wr.drewN n).ownsRow (w.heap.size + 1) 63 1 (.slice b k cap) k (ys.map F32) from fun n => HO.out)
      go_wp2_with fail
      go_region_law (first
        | (go_simp; go_at_call 166; refine (HROW.out 1).mono ?_; rintro e w8 ⟨ra, rc, rfl, hr, m8, rfl⟩)
        | (go_simp; go_at_call 111; refine (HDOT.out _ _ _ hr).mono ?_; rintro e w9 ⟨s, rfl, hs, m9, rfl⟩; have hsub := fun (W : World) => run_sub_all (P := Try.prog) 63 y s W)
        | (refine step_app_flts rfl (.tmp 19) (.tmp 30) (by rfl) (w.heap.size + 1) (.slice b k cap) k ys (by rfl) (owns_below (HOn.out _) ((Below.refl _ _).alloc (Nat.le_refl _) _) (Nat.le_refl _)) _ [_] (by rfl) (slcF_oneB _ _ _ (by simp)) (k + 1) (ys ++ [_]) (by simp) rfl (by omega) (by simp; omega) ?_; intro a2 cap2 w5 hown hbl hg)
        | fail)
      all_goals
        clear hsub
        go_wp2_with fail
        go_roundw
        case rel =>
          refine ⟨k + 1, a2, cap2, ys ++ [_], by go_num, by omega, rfl, Lib.hid (by simp [hyl.out]), fun j hj => ?_, hown, ((below_drewN HBR.out _).alloc (by simp; omega) _).trans hbl⟩
          by_cases hjk : j < k
          · rw [getD_snoc_lt _ _ _ (by rw [hyl.out]; exact hjk)]; exact hall.out j hjk
          · obtain rfl : j = k := by omega
            rw [getD_snoc_eq _ _ _ hyl.out.symm]; exact left_all' HY.out hs _
        case measure => simp [intOf]; omega
    · obtain rfl : k = x2.length := by omega
      have d2 : wr.cell? ⟨w.heap.size, 2, none⟩ = some (.slice a2 x2.length c2) := HKr.out.cell 2 rfl
      have HA := Lib.hid (left_all (r := ⟨n0, x1, x2, x3⟩) (x := x) hyl.out hall.out)
      have HE := Lib.hid (left_eq (r := ⟨n0, x1, x2, x3⟩) (x := x) hyl.out hall.out)
      have HR := Lib.hid (show RdF wr (.slice b x2.length cap) ys from slc_of_owns HO.out)
      have HLO := Lib.hid (show leftOk ⟨n0, x1, x2, x3⟩ x = allFin ys by unfold leftOk; rw [HFX.out, Bool.true_and, HA.out])
      go_wp2_with fail
      refine (l02List_any (.slice b x2.length cap) ys _ HR.out).mono ?_
      rintro e w4 ⟨rfl, m4, rfl⟩
      obtain ⟨q, hq⟩ : ∃ q, q = allFin ys := ⟨_, rfl⟩
      rw [← hq]
      have HQ := Lib.hid hq
      clear hq
      cases q
      · have HNV := Lib.hid (show leftR ⟨n0, x1, x2, x3⟩ x = [] by unfold leftR; rw [HLO.out, ← HQ.out]; rfl)
        go_wp2_with fail
        go_ret2
        exact ⟨.slice none 0 0, by rw [HLO.out, ← HQ.out]; rfl, by rw [HNV.out]; exact Slc.nil _, below_drewN HB.out _⟩
      · have HNV := Lib.hid (show leftR ⟨n0, x1, x2, x3⟩ x = ys by unfold leftR; rw [HLO.out, ← HQ.out, if_pos rfl]; exact (HE.out HQ.out.symm).symm)
        go_wp2_with fail
        go_ret2
        exact ⟨_, by rw [HLO.out, ← HQ.out]; rfl, by rw [HNV.out]; exact HR.out, below_drewN HB.out _⟩

end Go.Proofs.Ytkfiepiipigcmaa

namespace Go.Proofs.Ytkfiepiipigcmaa
open Go.RowKit

theorem str_ext {s t : ByteArray} (h : s.toList = t.toList) : s = t := by
  rw [ByteArray.toList_eq, ByteArray.toList_eq] at h
  exact ByteArray.ext (Array.ext' h)
theorem str_ne {s t : ByteArray} (h : s ≠ t) : (s.toList == t.toList) = false := by
  cases hb : s.toList == t.toList
  · rfl
  · exact absurd (str_ext (eq_of_beq hb)) h

@[go_sem] theorem binOp_string_neq_true (t : TypeId) (a b : ByteArray) (h : (a.toList == b.toList) = false) : binOp .neq t (.string a) (.string b) = pure (.bool true) := by
  rw [binOp_string_neq, h]; rfl
@[go_sem] theorem binOp_string_neq_same (t : TypeId) (a : ByteArray) : binOp .neq t (.string a) (.string a) = pure (.bool false) := by
  rw [binOp_string_neq]; simp
@[go_sem] theorem binOp_string_eql_false (t : TypeId) (a b : ByteArray) (h : (a.toList == b.toList) = false) : binOp .eql t (.string a) (.string b) = pure (.bool false) := by
  rw [binOp_string_eql, h]
@[go_sem] theorem binOp_string_eql_same (t : TypeId) (a : ByteArray) : binOp .eql t (.string a) (.string a) = pure (.bool true) := by
  rw [binOp_string_eql]; simp

def allB (m : Nat) (p : Nat → Bool) : Bool := (List.range m).all p
theorem allB_true {m : Nat} {p : Nat → Bool} (h : ∀ i, i < m → p i = true) : allB m p = true := by
  unfold allB; rw [List.all_eq_true]; intro i hi; exact h i (List.mem_range.1 hi)
theorem allB_false {m : Nat} {p : Nat → Bool} {i : Nat} (hi : i < m) (h : p i = false) : allB m p = false := by
  unfold allB
  cases hb : (List.range m).all p
  · rfl
  · rw [List.all_eq_true] at hb
    have := hb i (List.mem_range.2 hi)
    rw [h] at this; cases this
theorem allB_iff {m : Nat} {p : Nat → Bool} : allB m p = true ↔ ∀ i, i < m → p i = true := by
  unfold allB; rw [List.all_eq_true]
  exact ⟨fun h i hi => h i (List.mem_range.2 hi), fun h i hi => h i (List.mem_range.1 hi)⟩

theorem inB_iff {lo hi n : Int} : inB lo hi n = true ↔ lo ≤ n ∧ n ≤ hi := by unfold inB; simp
theorem bool_false {b : Bool} (h : ¬ b = true) : b = false := by cases b <;> simp_all

end Go.Proofs.Ytkfiepiipigcmaa

namespace Go.Proofs.Ytkfiepiipigcmaa
open Go.RowKit

theorem wp_region_cls {P : Program} {id : Nat} {Q : Exit → Act → World → Prop} {a : Act} {w : World} {l : List Oper} (C : World → Prop) (hm : P.follows .mixedOrders = true) (hB : Region.lexB .any l.toArray = true) (hC : C w.drew)
    (h : wpQuiet P l.toArray C (fun a' => ∀ w', C w' → Q .normal a' w') l a) : (Code.region id l.toArray true).wp P Q a w :=
  wp_region_quiet (C := C) hm hB hC (by simpa using h)

theorem q_step {P : Program} {ops : Array Oper} {C : World → Prop} {Q : Act → Prop} {o : Oper} {rest : List Oper} {a : Act} (hw : Region.wanted o (yielded ops a.tmps) = true)
    (h : ∃ v, (∀ X, C X → o.quietAt P a C X v) ∧ wpQuiet P ops C Q rest (a.put o.dst v)) : wpQuiet P ops C Q (o :: rest) a :=
  wpQuiet_step fun _ hK => by obtain ⟨v, h1, h2⟩ := h; rw [if_pos hw]; exact ⟨v, h1, hK _ h2⟩

end Go.Proofs.Ytkfiepiipigcmaa

namespace Go.Proofs.Ytkfiepiipigcmaa
open Go.RowKit

theorem map_snoc (xs : List Int) (k : Nat) (h : k < xs.length) : (xs.take (k + 1)).map fI = (xs.take k).map fI ++ [fI (xs.getD k 0)] := by
  rw [List.take_succ_eq_append_getElem h, List.map_append]
  simp [h]

theorem run_conv_if {P : Program} (n : Int) (hd : P.underlying 63 = some (.float .f32)) (hs : P.underlying 2 = some (.int .i64)) (w : World) : (convert 2 63 (.int .i64 n)).run P w = .ok (.float .f32 (fI n)) w := by
  simp [convert, run_underlying hs, run_underlying hd, Conv.intToFloat, floatOfInt, fI]

set_option maxHeartbeats 2000000 in
theorem asNumbers_any (v : Value) (xs : List Int) (w : World) (h : RdI w v xs) (hb : xs.length ≤ 1048576) :
    Calls Try.prog 125 #[v] w fun e w' => ∃ u, e = .returned u ∧ RdF w' u (xs.map fI) ∧ Below w.heap.size w w' := by
  obtain ⟨a, c, rfl⟩ := h.shape
  have HS := Lib.hid h
  clear h
  go_enter Try.func125, Try.ntmps125
  go_wp2_with fail
  go_loopw [3, 8] (fun out i wr => ∃ (k : Nat) (b : Option Addr) (cap : Nat), i = .int .i64 k ∧ k ≤ xs.length ∧ out = .slice b k cap ∧ Hid (wr.ownsRow w.heap.size 63 1 (.slice b k cap) k (((xs.take k).map fI).map F32)) ∧ Hid (Below w.heap.size w wr)) (fun _ i _ => xs.length - (intOf i).toNat)
  case atStart => exact ⟨0, none, 0, rfl, Nat.zero_le _, rfl, World.ownsRow_nil _ _ _ _, Below.refl _ _⟩
  case round =>
    obtain ⟨k, b, cap, rfl, hk, rfl, HO, HB⟩ := hrel
    by_cases hlt : k < xs.length
    · obtain ⟨ub, uo, rfl, _, hc⟩ := (HS.out.up HB.out (Nat.le_refl _)).at hlt
      have HM := Lib.hid (map_snoc xs k hlt)
      obtain ⟨y, hy⟩ : ∃ y, y = xs.getD k 0 := ⟨_, rfl⟩
      rw [← hy] at hc HM
      have hconv := fun (W : World) => run_conv_if (P := Try.prog) y Try.underlying63 Try.underlying2 W
      have hz := HB.out.size
      clear hy
      go_wp2_with (at_builtin; refine app_flts rfl _ _ rfl w.heap.size (.slice b k cap) k _ rfl (owns_below HO.out ((Below.refl _ _).alloc (Nat.le_refl _) _) (Nat.le_refl _)) _ [_] rfl (slcF_one _ _) (k + 1) _ (by simp) rfl (by omega) (by simp; omega) ?_; intro a2 cap2 w5 hown hbl hg _)
      go_roundw
      case rel => exact ⟨k + 1, a2, cap2, by go_num, by omega, rfl, by rw [HM.out]; exact hown, (HB.out.alloc HB.out.size _).trans hbl⟩
      case measure => simp [intOf]; omega
    · obtain rfl : k = xs.length := by omega
      go_wp2_with fail
      go_ret
      refine ⟨_, rfl, ?_, HB.out⟩
      have := slc_of_owns HO.out
      rwa [List.take_length] at this

set_option maxHeartbeats 2000000 in
theorem l07Floats_any (v : Value) (xs : List Int) (w : World) (h : RdI w v xs) (hb : xs.length ≤ 1048576) :
    Calls Try.prog 114 #[v] w fun e w' => ∃ u, e = .returned u ∧ RdF w' u (xs.map fI) ∧ Below w.heap.size w w' := by
  obtain ⟨a, c, rfl⟩ := h.shape
  have HS := Lib.hid h
  clear h
  go_enter Try.func114, Try.ntmps114
  go_wp2_with fail
  refine wp_at fun W0 hW0 => ?_
  have HB0 := Lib.hid (show Below w.heap.size w W0 by subst hW0; exact (Below.refl _ _).alloc (Nat.le_refl _) _)
  have HO0 := Lib.hid (show W0.ownsRow w.heap.size 63 1 (.slice (some ⟨w.heap.size, 0, none⟩) 0 0) 0 (([] : List Nat).map F32) by subst hW0; exact ownsF_empty w)
  clear hW0
  go_loopw [3, 8] (fun out i wr => ∃ (k : Nat) (b : Option Addr) (cap : Nat), i = .int .i64 k ∧ k ≤ xs.length ∧ out = .slice b k cap ∧ Hid (wr.ownsRow w.heap.size 63 1 (.slice b k cap) k (((xs.take k).map fI).map F32)) ∧ Hid (Below w.heap.size w wr)) (fun _ i _ => xs.length - (intOf i).toNat)
  case atStart => exact ⟨0, _, 0, rfl, Nat.zero_le _, rfl, HO0.out, HB0.out⟩
  case round =>
    obtain ⟨k, b, cap, rfl, hk, rfl, HO, HB⟩ := hrel
    by_cases hlt : k < xs.length
    · obtain ⟨ub, uo, rfl, _, hc⟩ := (HS.out.up HB.out (Nat.le_refl _)).at hlt
      have HM := Lib.hid (map_snoc xs k hlt)
      obtain ⟨y, hy⟩ : ∃ y, y = xs.getD k 0 := ⟨_, rfl⟩
      rw [← hy] at hc HM
      have hconv := fun (W : World) => run_conv_if (P := Try.prog) y Try.underlying63 Try.underlying2 W
      have hz := HB.out.size
      clear hy
      go_wp2_with (at_builtin; refine app_flts rfl _ _ rfl w.heap.size (.slice b k cap) k _ rfl (owns_below HO.out ((Below.refl _ _).alloc (Nat.le_refl _) _) (Nat.le_refl _)) _ [_] rfl (slcF_one _ _) (k + 1) _ (by simp) rfl (by omega) (by simp; omega) ?_; intro a2 cap2 w5 hown hbl hg _)
      go_roundw
      case rel => exact ⟨k + 1, a2, cap2, by go_num, by omega, rfl, by rw [HM.out]; exact hown, (HB.out.alloc HB.out.size _).trans hbl⟩
      case measure => simp [intOf]; omega
    · obtain rfl : k = xs.length := by omega
      go_wp2_with fail
      go_ret
      refine ⟨_, rfl, ?_, HB.out⟩
      have := slc_of_owns HO.out
      rwa [List.take_length] at this

theorem all_get {xs : List Nat} {p : Nat → Bool} : xs.all p = true ↔ ∀ i, i < xs.length → p (xs.getD i 0) = true := by
  rw [List.all_eq_true]
  constructor
  · intro h i hi
    have : xs.getD i 0 = xs[i] := by simp [hi]
    rw [this]; exact h _ (List.getElem_mem hi)
  · intro h y hy
    obtain ⟨i, hi, rfl⟩ := List.mem_iff_getElem.1 hy
    have : xs.getD i 0 = xs[i] := by simp [hi]
    rw [← this]; exact h i hi
theorem all_no {xs : List Nat} {p : Nat → Bool} {i : Nat} (hi : i < xs.length) (h : p (xs.getD i 0) = false) : xs.all p = false := by
  cases hb : xs.all p
  · rfl
  · have := all_get.1 hb i hi
    rw [h] at this; cases this

theorem run_neg0 {P : Program} (w : World) : (Op.unary UnOp.neg (.float .f32 0)).run P w = .ok (.float .f32 2147483648) w := by
  first | rfl | (simp [Op.unary]; done) | (simp [Op.unary]; rfl)

set_option maxHeartbeats 2000000 in
theorem areAtLeast_any (v : Value) (xs : List Nat) (w : World) (h : RdF w v xs) :
    Calls Try.prog 173 #[v, .float .f32 0] w fun e w' => e = .returned (.bool (xs.all geB)) ∧ w = w' := by
  obtain ⟨a, c, rfl⟩ := h.shape
  have hm := h.len
  simp only [maxLen] at hm
  have HS := Lib.hid h
  clear h
  go_enter Try.func173, Try.ntmps173
  go_wp2_with fail
  go_loop [9] (fun i => ∃ k : Nat, i = .int .i64 k ∧ k ≤ xs.length ∧ Hid (∀ j, j < k → geB (xs.getD j 0) = true)) (fun i => xs.length - (intOf i).toNat)
  case atStart => exact ⟨0, rfl, Nat.zero_le _, fun j hj => by omega⟩
  case round =>
    obtain ⟨k, rfl, hk, hall⟩ := hrel
    by_cases hlt : k < xs.length
    · obtain ⟨b, off, rfl, hb, hc⟩ := HS.out.at hlt
      obtain ⟨y, hy⟩ : ∃ y, y = xs.getD k 0 := ⟨_, rfl⟩
      rw [← hy] at hc
      have HY := Lib.hid hy
      clear hy
      have hneg := fun (W : World) => run_neg0 (P := Try.prog) W
      cases hq : (FloatKind.f32.format.order y 0 == some .lt)
      · have hq' : (FloatKind.f32.format.order y 2147483648 == some .lt) = false := by rw [order_negz]; exact hq
        have HQ := Lib.hid hq
        clear hq
        go_wp2_with fail
        go_round
        case rel =>
          refine ⟨k + 1, by go_num, by omega, fun j hj => ?_⟩
          by_cases hjk : j < k
          · exact hall.out j hjk
          · obtain rfl : j = k := by omega
            rw [← HY.out]; unfold geB; rw [HQ.out]; rfl
        case measure => simp [intOf]; omega
      · have hq' : (FloatKind.f32.format.order y 2147483648 == some .lt) = true := by rw [order_negz]; exact hq
        have HQ := Lib.hid hq
        clear hq
        go_wp2_with fail
        go_ret
        exact ⟨by rw [all_no hlt (by rw [← HY.out]; unfold geB; rw [HQ.out]; rfl)]; rfl, rfl⟩
    · obtain rfl : k = xs.length := by omega
      go_wp2_with fail
      go_ret
      exact ⟨by rw [all_get.2 hall.out]; rfl, rfl⟩

theorem implLeft_b (q : Bool) (L : List Nat) (v : Value) (r : RowsD) (u : Value) (x : List Nat) (w : World) (h : RdR w v r) (hu : RdF w u x) (hq : leftOk r x = q) (hL : leftR r x = L) :
    Calls Try.prog 172 #[v, u] w (ListPost q L w.heap.size w) := by
  have := implLeft_any v r u x w h hu
  rwa [hq, hL] at this
theorem specLeft_b (q : Bool) (L : List Nat) (v : Value) (r : RowsD) (u : Value) (x : List Nat) (w : World) (h : RdR w v r) (hu : RdF w u x) (hq : leftOk r x = q) (hL : leftR r x = L) :
    Calls Try.prog 145 #[v, u] w (ListPost q L w.heap.size w) := by
  have := specLeft_any v r u x w h hu
  rwa [hq, hL] at this

set_option maxHeartbeats 4000000 in
set_option maxRecDepth 4000 in
theorem isWhole_any (v : Value) (r : RowsD) (u : Value) (xs : List Int) (w : World) (h : RdR w v r) (hu : RdI w u xs) (hb : xs.length ≤ 1048576) :
    Calls Try.prog 154 #[v, u] w fun e w' => e = .returned (.bool (wholeB r xs)) ∧ Below w.heap.size w w' := by
  obtain ⟨a1, c1, a2, c2, a3, c3, rfl⟩ := h.shape
  obtain ⟨a, c, rfl⟩ := hu.shape
  have HP := Lib.hid h
  have HU := Lib.hid hu
  obtain ⟨q, hq⟩ : ∃ q, leftOk r (xs.map fI) = q := ⟨_, rfl⟩
  obtain ⟨L, hL⟩ : ∃ L, leftR r (xs.map fI) = L := ⟨_, rfl⟩
  have HQ := Lib.hid hq
  have HL := Lib.hid hL
  have HW := Lib.hid (show wholeB r xs = (q && L.all geB) by unfold wholeB; rw [hq, hL])
  clear h hu hq hL
  go_enter Try.func154, Try.ntmps154
  go_wp2_with fail
  refine wp_at fun W hW => ?_
  have HB := Lib.hid (show Below w.heap.size w W by subst hW; (repeat' first | exact Below.refl _ _ | assumption | refine Below.alloc ?_ ?_ _ | refine Below.setCell ?_ ?_ _ | refine Below.drew ?_ | (simp; done) | (simp; omega)))
  have HK := Lib.hid (show Blk W w.heap.size 67 #[.int .i64 r.vars, .slice a1 r.nums.length c1, .slice a2 r.bnds.length c2, .slice a3 r.gains.length c3] by subst hW; exact Blk.new _ _ _)
  have d0 : W.cell? ⟨w.heap.size, 0, none⟩ = some (.int .i64 r.vars) := HK.out.cell 0 rfl
  have d1 : W.cell? ⟨w.heap.size, 1, none⟩ = some (.slice a1 r.nums.length c1) := HK.out.cell 1 rfl
  have d2 : W.cell? ⟨w.heap.size, 2, none⟩ = some (.slice a2 r.bnds.length c2) := HK.out.cell 2 rfl
  have d3 : W.cell? ⟨w.heap.size, 3, none⟩ = some (.slice a3 r.gains.length c3) := HK.out.cell 3 rfl
  clear hW
  go_region_held3 (fun X => X.cell? ⟨w.heap.size, 0, none⟩ = some (.int .i64 r.vars) ∧ X.cell? ⟨w.heap.size, 1, none⟩ = some (.slice a1 r.nums.length c1) ∧ X.cell? ⟨w.heap.size, 2, none⟩ = some (.slice a2 r.bnds.length c2) ∧ X.cell? ⟨w.heap.size, 3, none⟩ = some (.slice a3 r.gains.length c3) ∧ Below W.heap.size W X)
    (first | exact ⟨held_of hbn d0 (Nat.le_refl _), held_of hbn d1 (Nat.le_refl _), held_of hbn d2 (Nat.le_refl _), held_of hbn d3 (Nat.le_refl _), hbn⟩ | exact ⟨d0, d1, d2, d3, (Below.refl _ _).drew⟩)
    (first
      | (go_at_call 125; have hh := (‹_ ∧ _ ∧ _ ∧ _ ∧ Below W.heap.size W _›).2.2.2.2; refine (asNumbers_any _ xs _ (HU.out.up (HB.out.trans (hh.mono HB.out.size)) (Nat.le_refl _)) hb).mono ?_; rintro e w1 ⟨nu, rfl, hnu, hb1⟩; have hbn := hh.trans (hb1.mono hh.size))
      | (go_at_call 172; have hh := (‹_ ∧ _ ∧ _ ∧ _ ∧ Below W.heap.size W _›).2.2.2.2; refine (implLeft_b q L _ r _ (xs.map fI) _ (HP.out.up (HB.out.trans (hh.mono HB.out.size)) (Nat.le_refl _)) hnu HQ.out HL.out).mono ?_; rintro e w2 ⟨lv, rfl, hlv, hb2⟩; have hbn := hh.trans (hb2.mono hh.size))
      | fail)
  have HB2 := Lib.hid (HB.out.trans (hbn.mono HB.out.size))
  obtain ⟨la, lc, rfl⟩ := hlv.shape
  have HLV := Lib.hid hlv
  clear hlv hbn hb2 hb1 hnu hh d0 d1 d2 d3
  cases q
  · go_wp2_with fail
    go_ret
    exact ⟨by rw [HW.out]; rfl, HB2.out⟩
  · go_wp2_with fail
    refine (areAtLeast_any _ L _ HLV.out).mono ?_
    rintro e w3 ⟨rfl, rfl⟩
    obtain ⟨p, hp⟩ : ∃ p, p = L.all geB := ⟨_, rfl⟩
    rw [← hp]
    have HPP := Lib.hid hp
    clear hp
    go_wp2_with fail
    go_ret
    exact ⟨by rw [HW.out, ← HPP.out]; rfl, HB2.out⟩

end Go.Proofs.Ytkfiepiipigcmaa

namespace Go.Proofs.Ytkfiepiipigcmaa
open Go.RowKit

noncomputable def wokB (r : RowsD) (xs : List Int) (top : Int) : Bool := ((xs.length : Int) == r.vars) && (allB xs.length (fun i => inB 0 top (xs.getD i 0)) && wholeB r xs)

set_option maxHeartbeats 4000000 in
set_option maxRecDepth 4000 in
theorem l07Whole_any (bb : Nat) (v0 v1 v2 v3 : Value) (r : RowsD) (u : Value) (xs : List Int) (top : Int) (w : World) (hk : Blk w bb 67 #[v0, v1, v2, v3]) (h : RdR w (.agg #[v0, v1, v2, v3]) r) (hu : RdI w u xs) (hv8 : r.vars ≤ 8) :
    Calls Try.prog 113 #[.pointer (some ⟨bb, 0, none⟩), u, .int .i64 top] w fun e w' => e = .returned (.bool (wokB r xs top)) ∧ Below w.heap.size w w' := by
  obtain ⟨a1, c1, a2, c2, a3, c3, e⟩ := h.shape
  simp only [Value.agg.injEq, Array.mk.injEq, List.cons.injEq, and_true] at e
  obtain ⟨rfl, rfl, rfl, rfl⟩ := e
  obtain ⟨a, c, rfl⟩ := hu.shape
  have l1 := hu.len
  unfold maxLen at l1
  have HP := Lib.hid h
  have HU := Lib.hid hu
  have HK := Lib.hid hk
  have d0 : w.cell? ⟨bb, 0, none⟩ = some (.int .i64 r.vars) := hk.cell 0 rfl
  have d1 : w.cell? ⟨bb, 1, none⟩ = some (.slice a1 r.nums.length c1) := hk.cell 1 rfl
  have d2 : w.cell? ⟨bb, 2, none⟩ = some (.slice a2 r.bnds.length c2) := hk.cell 2 rfl
  have d3 : w.cell? ⟨bb, 3, none⟩ = some (.slice a3 r.gains.length c3) := hk.cell 3 rfl
  obtain ⟨q, hq⟩ : ∃ q, leftOk r (xs.map fI) = q := ⟨_, rfl⟩
  obtain ⟨L, hL⟩ : ∃ L, leftR r (xs.map fI) = L := ⟨_, rfl⟩
  have HQ := Lib.hid hq
  have HL := Lib.hid hL
  have HW := Lib.hid (show wholeB r xs = (q && L.all geB) by unfold wholeB; rw [hq, hL])
  clear h hu hk hq hL
  by_cases hlen : (xs.length : Int) = r.vars
  case neg =>
    have hne : ((xs.length : Int) != r.vars) = true := by simpa using hlen
    have HNO := Lib.hid (show wokB r xs top = false by unfold wokB; rw [show ((xs.length : Int) == r.vars) = false by simpa using hlen]; rfl)
    clear hlen
    go_enter Try.func113, Try.ntmps113
    go_wp2_with fail
    go_ret
    exact ⟨by rw [HNO.out]; rfl, Below.refl _ _⟩
  have hne : ((xs.length : Int) != r.vars) = false := by simpa using hlen
  have HLE := Lib.hid (show ((xs.length : Int) == r.vars) = true by simpa using hlen)
  have hx8 : xs.length ≤ 8 := by omega
  clear hlen
  go_enter Try.func113, Try.ntmps113
  go_wp2_with fail
  go_loop [20] (fun i => ∃ k : Nat, i = .int .i64 k ∧ k ≤ xs.length ∧ Hid (∀ j, j < k → inB 0 top (xs.getD j 0) = true)) (fun i => xs.length - (intOf i).toNat)
  case atStart => exact ⟨0, rfl, Nat.zero_le _, fun j hj => by omega⟩
  case round =>
    obtain ⟨k, rfl, hk, hall⟩ := hrel
    by_cases hlt : k < xs.length
    · obtain ⟨b, off, rfl, hb, hc⟩ := HU.out.at hlt
      obtain ⟨y, hy⟩ : ∃ y, y = xs.getD k 0 := ⟨_, rfl⟩
      rw [← hy] at hc
      have HY := Lib.hid hy
      clear hy
      cases hin : inB 0 top y
      · have HI := Lib.hid hin
        have HNO := Lib.hid (show wokB r xs top = false by unfold wokB; rw [allB_false hlt (by rw [← HY.out]; exact hin), Bool.false_and, Bool.and_false])
        clear hin
        go_wp2_with (go_at_call 95; refine (in_any _ _ _ _).mono ?_; rintro e w' ⟨rfl, rfl⟩; rw [HI.out])
        go_ret
        exact ⟨by rw [HNO.out]; rfl, Below.refl _ _⟩
      · have HI := Lib.hid hin
        clear hin
        go_wp2_with (go_at_call 95; refine (in_any _ _ _ _).mono ?_; rintro e w' ⟨rfl, rfl⟩; rw [HI.out])
        go_round
        case rel =>
          refine ⟨k + 1, by go_num, by omega, fun j hj => ?_⟩
          by_cases hjk : j < k
          · exact hall.out j hjk
          · obtain rfl : j = k := by omega
            rw [← HY.out]; exact HI.out
        case measure => simp [intOf]; omega
    · obtain rfl : k = xs.length := by omega
      have HA := Lib.hid (show wokB r xs top = (q && L.all geB) by unfold wokB; rw [HLE.out, allB_true hall.out, HW.out]; simp)
      go_wp2_with fail
      go_region_held3 (fun X => X.cell? ⟨bb, 0, none⟩ = some (.int .i64 r.vars) ∧ X.cell? ⟨bb, 1, none⟩ = some (.slice a1 r.nums.length c1) ∧ X.cell? ⟨bb, 2, none⟩ = some (.slice a2 r.bnds.length c2) ∧ X.cell? ⟨bb, 3, none⟩ = some (.slice a3 r.gains.length c3) ∧ Below w.heap.size w X)
        (first | exact ⟨held_of hbn d0 (Nat.le_refl _), held_of hbn d1 (Nat.le_refl _), held_of hbn d2 (Nat.le_refl _), held_of hbn d3 (Nat.le_refl _), hbn⟩ | exact ⟨d0, d1, d2, d3, (Below.refl _ _).drew⟩)
        (first
          | (go_at_call 114; have hh := (‹_ ∧ _ ∧ _ ∧ _ ∧ Below w.heap.size w _›).2.2.2.2; refine (l07Floats_any _ xs _ (HU.out.up hh (Nat.le_refl _)) (by omega)).mono ?_; rintro e w1 ⟨nu, rfl, hnu, hb1⟩; have hbn := hh.trans (hb1.mono hh.size))
          | (go_at_call 145; have hh := (‹_ ∧ _ ∧ _ ∧ _ ∧ Below w.heap.size w _›).2.2.2.2; refine (specLeft_b q L _ r _ (xs.map fI) _ (HP.out.up hh (Nat.le_refl _)) hnu HQ.out HL.out).mono ?_; rintro e w2 ⟨lv, rfl, hlv, hb2⟩; have hbn := hh.trans (hb2.mono hh.size))
          | fail)
      have HB2 := Lib.hid hbn
      obtain ⟨la, lc, rfl⟩ := hlv.shape
      have hll := hlv.len
      unfold maxLen at hll
      have HLV := Lib.hid hlv
      clear hlv hbn hb2 hb1 hnu hh d0 d1 d2 d3
      cases q
      · go_wp2_with fail
        go_ret
        exact ⟨by rw [HA.out]; rfl, HB2.out⟩
      · go_wp2_with fail
        go_loop [44] (fun i => ∃ k : Nat, i = .int .i64 k ∧ k ≤ L.length ∧ Hid (∀ j, j < k → geB (L.getD j 0) = true)) (fun i => L.length - (intOf i).toNat)
        case atStart => exact ⟨0, rfl, Nat.zero_le _, fun j hj => by omega⟩
        case round =>
          obtain ⟨k, rfl, hk, hall⟩ := hrel
          by_cases hlt : k < L.length
          · obtain ⟨b, off, rfl, hb, hc⟩ := HLV.out.at hlt
            obtain ⟨y, hy⟩ : ∃ y, y = L.getD k 0 := ⟨_, rfl⟩
            rw [← hy] at hc
            have HY := Lib.hid hy
            clear hy
            cases hq : (FloatKind.f32.format.order y 0 == some .lt)
            · have HQ := Lib.hid hq
              go_wp2_with fail
              go_round
              case rel =>
                refine ⟨k + 1, by go_num, by omega, fun j hj => ?_⟩
                by_cases hjk : j < k
                · exact hall.out j hjk
                · obtain rfl : j = k := by omega
                  rw [← HY.out]; unfold geB; rw [HQ.out]; rfl
              case measure => simp [intOf]; omega
            · have HQ := Lib.hid hq
              go_wp2_with fail
              go_ret
              exact ⟨by rw [HA.out, all_no hlt (by rw [← HY.out]; unfold geB; rw [HQ.out]; rfl)]; rfl, HB2.out⟩
          · obtain rfl : k = L.length := by omega
            go_wp2_with fail
            go_ret
            exact ⟨by rw [HA.out, all_get.2 hall.out]; rfl, HB2.out⟩

end Go.Proofs.Ytkfiepiipigcmaa
