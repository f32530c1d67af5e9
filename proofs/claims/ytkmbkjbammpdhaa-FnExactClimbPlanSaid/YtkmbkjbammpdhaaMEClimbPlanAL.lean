/-
  FnExactClimbPlan: texts joined: OpenR, LFnExactClimbPlan.
-/
import Derived.Lib.SmallJoins
import Derived.Deep.RegionHeld3
import Derived.Deep.Cut
import Derived.Test.YtkmbkjbammpdhaaMEClimbPlanAB
import Derived.Test.YtkmbkjbammpdhaaMEClimbPlanAC
import Derived.Test.YtkmbkjbammpdhaaMEClimbPlanAK
namespace Go.Proofs.Ytkmbkjbammpdhaa
open Go.ChangeShapes Go.WideShapes Go.ChangeAt Go.RowKit
set_option linter.unusedVariables false

def WfF (zs : List Nat) : Prop := True
def WfR (r : RowsD) : Prop := True

section
variable {H : Type} {enc : TypeId × Value → H} {w : World} {base : Nat} {spare : Nat → Bool} {held : Bool}

theorem cells_f32 : Try.prog.cellsOf 37 = 1 := by kernel_rfl
theorem cells_floats : Try.prog.cellsOf 22 = 1 := by kernel_rfl
theorem cells_i64' : Try.prog.cellsOf 2 = 1 := by kernel_rfl
theorem cells_rows : Try.prog.cellsOf 24 = 4 := by kernel_rfl

set_option maxRecDepth 100000 in
theorem trod_f32 {n : Nat} {cs : List Value} {x : DataW H × List MemPlace} (h : DataW.trod enc Try.prog w base spare held n 37 cs = some x) : ∃ b, cs = [.float .f32 b] := by
  cases n with
  | zero => simp [DataW.trod] at h
  | succ n =>
    simp only [DataW.trod, Try.underlying37] at h
    revert h
    repeat' split
    all_goals first | (intro h; cases h; done) | skip
    all_goals first | (intro _; exact ⟨_, rfl⟩) | skip
    all_goals (intro h; simp_all)

set_option maxRecDepth 100000 in
theorem trod_F {fuel : Nat} {cs : List Value} {x : DataW H × List MemPlace} (h : DataW.trod enc Try.prog w base spare held fuel 22 cs = some x) : ∃ v zs, cs = [v] ∧ RdF w v zs ∧ WfF zs := by
  rcases DataW.trod_slice Try.underlying22 h with ⟨rfl, _⟩ | ⟨a, len, cap, elems, rest, n, _, rfl, _, hb, hl, hm, hlen, hel, _, _⟩
  · exact ⟨_, [], rfl, .inl ⟨rfl, rfl⟩, trivial⟩
  · rw [cells_f32] at hel
    have hex : ∀ i, i < len → ∃ q : Nat, w.cell? (a.add i) = some (.float .f32 q) := by
      intro i hi
      have h1 := hel i hi
      rw [List.getElem?_eq_getElem (by omega)] at h1
      cases hc : w.cells? base (a.add (i * 1)) 1 with
      | none => rw [hc] at h1; simp at h1
      | some cs' =>
        rw [hc] at h1
        simp only [Option.bind_some] at h1
        obtain ⟨u, rfl, hu⟩ := cells_one hc
        obtain ⟨b, e⟩ := trod_f32 h1
        simp at e
        subst e
        exact ⟨b, by simpa using hu⟩
    obtain ⟨l, hll, hlp⟩ := exists_list _ len hex
    refine ⟨_, l, rfl, .inr ⟨a, cap, by simp [hll], by simp [hll]; omega, hm, ?_⟩, trivial⟩
    intro i u hi
    simp only [List.getElem?_map, Option.map_eq_some_iff] at hi
    obtain ⟨q, hq, rfl⟩ := hi
    exact hlp i q hq

set_option maxRecDepth 100000 in
theorem arg_F {r : Reach} {b0 : Nat} {v : Value} {d : DataW H} {p : List MemPlace} (hv : Value.okWide Try.prog w r b0 22 v) (h : DataW.Trod enc Try.prog w base spare held 22 v d p) : ∃ zs, RdF w v zs ∧ WfF zs := by
  obtain ⟨a, len, cap, rfl⟩ := okWide_slice Try.underlying22 hv
  obtain ⟨fuel, hf⟩ := h
  obtain ⟨v, zs, e, h1, h2⟩ := trod_F hf
  simp [Value.cells] at e
  subst e
  exact ⟨zs, h1, h2⟩

set_option maxRecDepth 100000 in
theorem trod_i64 {n : Nat} {cs : List Value} {x : DataW H × List MemPlace} (h : DataW.trod enc Try.prog w base spare held n 2 cs = some x) : ∃ z, cs = [.int .i64 z] := by
  cases n with
  | zero => simp [DataW.trod] at h
  | succ n =>
    simp only [DataW.trod, Try.underlying2] at h
    revert h
    repeat' split
    all_goals first | (intro h; cases h; done) | skip
    all_goals first | (intro _; exact ⟨_, rfl⟩) | skip
    all_goals (intro h; simp_all)

set_option maxRecDepth 100000 in
theorem arg_R {r : Reach} {b0 : Nat} {v : Value} {d : DataW H} {p : List MemPlace} (hv : Value.okWide Try.prog w r b0 24 v) (h : DataW.Trod enc Try.prog w base spare held 24 v d p) : ∃ t, RdR w v t ∧ WfR t := by
  obtain ⟨cs, rfl, hsz⟩ := okWide_struct Try.underlying24 hv
  obtain ⟨fuel, hf⟩ := h
  obtain ⟨y0, y1, y2, y3, n, _, hl, h0, h1, h2, h3⟩ := Go.Joins.trod_struct4 Try.underlying24 hf
  rw [cells_rows] at hl
  simp only [Value.cells] at hl h0 h1 h2 h3
  obtain ⟨l⟩ := cs
  match l, hl with
  | [a, b, c, e], _ =>
    rw [cells_floats] at h1 h2 h3
    rw [cells_i64'] at h0
    obtain ⟨z, e0⟩ := trod_i64 h0
    obtain ⟨vb, p, e1, r1, _⟩ := trod_F (w := w) h1
    obtain ⟨vc, q, e2, r2, _⟩ := trod_F (w := w) h2
    obtain ⟨vd, s, e3, r3, _⟩ := trod_F (w := w) h3
    simp at e0 e1 e2 e3
    subst e0 e1 e2 e3
    exact ⟨⟨z, p, q, s⟩, ⟨_, _, _, rfl, r1, r2, r3⟩, trivial⟩
end
end Go.Proofs.Ytkmbkjbammpdhaa

namespace Go.Proofs.Ytkmbkjbammpdhaa
open Go.RowKit

set_option maxHeartbeats 4000000 in
set_option maxRecDepth 100000 in
theorem lawClimbPlan_any (w : World) (v0 : Value) (z0 : RowsD) (r0 : RdR w v0 z0) (v1 : Value) (z1 : List Int) (r1 : RdI w v1 z1) (a2 : Int) :
    Calls Try.prog 6 #[v0, v1, .int .i64 a2] w fun e w' => e = .returned (.bool true) ∧ Below w.heap.size w w' := by
  obtain ⟨x0, c0, y0, d0, u0, f0, rfl⟩ := r0.shape
  obtain ⟨x1, c1, rfl⟩ := r1.shape
  have l1_0 : z1.length ≤ 9223372036854775807 := by have := RdI.len r1; unfold maxLen at this; omega
  have RP0 := Lib.hid r0
  clear r0
  have RP1 := Lib.hid r1
  clear r1
  have B : Hid (Below w.heap.size w w) := Below.refl _ _
  go_enter Try.func6, Try.ntmps6
  by_cases hg1 : (1048576 : Int) < (z1.length : Nat)
  · go_wp2_with fail
    go_ret
    exact ⟨rfl, by first | exact B.out | (repeat' first | exact Below.refl _ _ | assumption | refine Below.alloc ?_ ?_ _ | refine Below.setCell ?_ ?_ _ | refine Below.drew ?_ | (simp; done) | (simp; omega))⟩
  have hs1 : bulkI z1 ≤ 1048576 := by unfold bulkI; omega
  go_upto_region 4 with fail
  refine wp_at fun w1 hW => ?_
  have hb : Below w.heap.size w w1 := by subst hW; (repeat' first | exact Below.refl _ _ | assumption | refine Below.alloc ?_ ?_ _ | refine Below.setCell ?_ ?_ _ | refine Below.drew ?_ | (simp; done) | (simp; omega))
  have K0 := Lib.hid (show Blk w1 (w.heap.size) 24 #[.int .i64 z0.vars, .slice x0 z0.nums.length c0, .slice y0 z0.bnds.length d0, .slice u0 z0.gains.length f0] by subst hW; simpa using (Blk.new w 24 #[.int .i64 z0.vars, .slice x0 z0.nums.length c0, .slice y0 z0.bnds.length d0, .slice u0 z0.gains.length f0]))
  have zw1 := hb.size
  have lK0 := K0.out.lt
  replace B := Lib.hid hb
  clear hb hW
  have tK0_0 : w1.cell? ⟨w.heap.size, 0, none⟩ = some (.int .i64 z0.vars) := K0.out.cell 0 rfl
  have tK0_1 : w1.cell? ⟨w.heap.size, 1, none⟩ = some (.slice x0 z0.nums.length c0) := K0.out.cell 1 rfl
  have tK0_2 : w1.cell? ⟨w.heap.size, 2, none⟩ = some (.slice y0 z0.bnds.length d0) := K0.out.cell 2 rfl
  have tK0_3 : w1.cell? ⟨w.heap.size, 3, none⟩ = some (.slice u0 z0.gains.length f0) := K0.out.cell 3 rfl
  go_wp2_with fail
  refine (szR_any _ z0 _ _ (RP0.out.up B.out (Nat.le_refl _)) (by decide) (by decide)).mono ?_
  rintro e w2 ⟨s0, rfl, sa0, sb0, sc0, hb⟩
  clear tK0_0 tK0_1 tK0_2 tK0_3
  replace B := Lib.hid (B.out.trans (hb.mono B.out.size))
  replace K0 := Lib.hid (K0.out.below hb K0.out.lt)
  have zw2 : w1.heap.size ≤ w2.heap.size := hb.size
  clear hb
  by_cases hn0 : s0 < 0
  · go_wp2_with fail
    go_ret
    exact ⟨rfl, B.out⟩
  have hs0 : bulkR z0 ≤ 1048576 := by have := sc0 (by omega); omega
  clear sa0 sb0 sc0
  have ne1 : ((climbN z0 z1 a2) != (climbN z0 z1 a2)) = false := by simp
  have ne2 : ((climbOk z0 z1 a2) != (climbOk z0 z1 a2)) = false := by simp
  go_upto_region 7 with fail
  have tK0_0 : w2.cell? ⟨w.heap.size, 0, none⟩ = some (.int .i64 z0.vars) := K0.out.cell 0 rfl
  have tK0_1 : w2.cell? ⟨w.heap.size, 1, none⟩ = some (.slice x0 z0.nums.length c0) := K0.out.cell 1 rfl
  have tK0_2 : w2.cell? ⟨w.heap.size, 2, none⟩ = some (.slice y0 z0.bnds.length d0) := K0.out.cell 2 rfl
  have tK0_3 : w2.cell? ⟨w.heap.size, 3, none⟩ = some (.slice u0 z0.gains.length f0) := K0.out.cell 3 rfl
  go_wp2_with fail
  refine (toR_any _ z0 _ (RP0.out.up B.out (Nat.le_refl _)) hs0).mono ?_
  rintro e w3 ⟨vc0, rfl, c0, hb⟩
  replace tK0_0 := held_of hb tK0_0 (Nat.le_refl _)
  replace tK0_1 := held_of hb tK0_1 (Nat.le_refl _)
  replace tK0_2 := held_of hb tK0_2 (Nat.le_refl _)
  replace tK0_3 := held_of hb tK0_3 (Nat.le_refl _)
  replace c0 := Lib.hid c0
  replace B := Lib.hid (B.out.trans (hb.mono B.out.size))
  replace K0 := Lib.hid (K0.out.below hb K0.out.lt)
  have zw3 : w2.heap.size ≤ w3.heap.size := hb.size
  clear hb
  go_wp2_with fail
  refine (toI_any _ z1 _ (RP1.out.up B.out (Nat.le_refl _)) hs1).mono ?_
  rintro e w4 ⟨vc1, rfl, c1, hb⟩
  replace tK0_0 := held_of hb tK0_0 (Nat.le_refl _)
  replace tK0_1 := held_of hb tK0_1 (Nat.le_refl _)
  replace tK0_2 := held_of hb tK0_2 (Nat.le_refl _)
  replace tK0_3 := held_of hb tK0_3 (Nat.le_refl _)
  replace c1 := Lib.hid c1
  replace B := Lib.hid (B.out.trans (hb.mono B.out.size))
  replace K0 := Lib.hid (K0.out.below hb K0.out.lt)
  replace c0 := Lib.hid (c0.out.up hb (Nat.le_refl _))
  have zw4 : w3.heap.size ≤ w4.heap.size := hb.size
  clear hb
  go_wp2_with fail
  refine (specClimb_any _ z0 _ z1 a2 _ c0.out.rd c1.out.rd).mono ?_
  rintro e w5 ⟨Wv0, rfl, Wo0, hb⟩
  clear tK0_0 tK0_1 tK0_2 tK0_3
  replace Wo0 := Lib.hid Wo0
  replace B := Lib.hid (B.out.trans (hb.mono B.out.size))
  replace K0 := Lib.hid (K0.out.below hb K0.out.lt)
  replace c0 := Lib.hid (c0.out.up hb (Nat.le_refl _))
  replace c1 := Lib.hid (c1.out.up hb (Nat.le_refl _))
  have zw5 : w4.heap.size ≤ w5.heap.size := hb.size
  clear hb
  clear c0 c1
  go_upto_region 8 with fail
  have tK0_0 : w5.cell? ⟨w.heap.size, 0, none⟩ = some (.int .i64 z0.vars) := K0.out.cell 0 rfl
  have tK0_1 : w5.cell? ⟨w.heap.size, 1, none⟩ = some (.slice x0 z0.nums.length c0) := K0.out.cell 1 rfl
  have tK0_2 : w5.cell? ⟨w.heap.size, 2, none⟩ = some (.slice y0 z0.bnds.length d0) := K0.out.cell 2 rfl
  have tK0_3 : w5.cell? ⟨w.heap.size, 3, none⟩ = some (.slice u0 z0.gains.length f0) := K0.out.cell 3 rfl
  go_wp2_with fail
  refine (toR_any _ z0 _ (RP0.out.up B.out (Nat.le_refl _)) hs0).mono ?_
  rintro e w6 ⟨vcp0, rfl, cp0, hb⟩
  clear tK0_0 tK0_1 tK0_2 tK0_3
  replace cp0 := Lib.hid cp0
  replace B := Lib.hid (B.out.trans (hb.mono B.out.size))
  replace K0 := Lib.hid (K0.out.below hb K0.out.lt)
  replace Wo0 := Lib.hid (Wo0.out.up hb (Nat.le_refl _))
  have zw6 : w5.heap.size ≤ w6.heap.size := hb.size
  clear hb
  obtain ⟨px0, pc0, py0, pd0, pu0, pf0, rfl⟩ := cp0.out.rd.shape
  go_upto_region 9 with fail
  refine wp_at fun w7 hW => ?_
  have hb : Below w6.heap.size w6 w7 := by subst hW; (repeat' first | exact Below.refl _ _ | assumption | refine Below.alloc ?_ ?_ _ | refine Below.setCell ?_ ?_ _ | refine Below.drew ?_ | (simp; done) | (simp; omega))
  have X0 := Lib.hid (show Blk w7 w6.heap.size 26 #[.int .i64 z0.vars, .slice px0 z0.nums.length pc0, .slice py0 z0.bnds.length pd0, .slice pu0 z0.gains.length pf0] by subst hW; exact Blk.new _ _ _)
  clear hW
  replace B := Lib.hid (B.out.trans (hb.mono B.out.size))
  replace K0 := Lib.hid (K0.out.below hb K0.out.lt)
  replace Wo0 := Lib.hid (Wo0.out.up hb (Nat.le_refl _))
  replace cp0 := Lib.hid (cp0.out.up hb (Nat.le_refl _))
  have zw7 : w6.heap.size ≤ w7.heap.size := hb.size
  clear hb
  have lX0 := X0.out.lt
  go_wp2_with fail
  refine (toI_any _ z1 _ (RP1.out.up B.out (Nat.le_refl _)) hs1).mono ?_
  rintro e w8 ⟨vcp1, rfl, cp1, hb⟩
  replace cp1 := Lib.hid cp1
  replace B := Lib.hid (B.out.trans (hb.mono B.out.size))
  replace K0 := Lib.hid (K0.out.below hb K0.out.lt)
  replace Wo0 := Lib.hid (Wo0.out.up hb (Nat.le_refl _))
  replace cp0 := Lib.hid (cp0.out.up hb (Nat.le_refl _))
  replace X0 := Lib.hid (X0.out.below hb X0.out.lt)
  have zw8 : w7.heap.size ≤ w8.heap.size := hb.size
  clear hb
  go_upto_region 10 with fail
  have tX0_0 : w8.cell? ⟨w6.heap.size, 0, none⟩ = some (.int .i64 z0.vars) := X0.out.cell 0 rfl
  have tX0_1 : w8.cell? ⟨w6.heap.size, 1, none⟩ = some (.slice px0 z0.nums.length pc0) := X0.out.cell 1 rfl
  have tX0_2 : w8.cell? ⟨w6.heap.size, 2, none⟩ = some (.slice py0 z0.bnds.length pd0) := X0.out.cell 2 rfl
  have tX0_3 : w8.cell? ⟨w6.heap.size, 3, none⟩ = some (.slice pu0 z0.gains.length pf0) := X0.out.cell 3 rfl
  go_wp2_with fail
  refine (implClimb_any _ z0 _ z1 a2 _ cp0.out.rd cp1.out.rd).mono ?_
  rintro e w9 ⟨Gv0, rfl, Go0, hb⟩
  clear tX0_0 tX0_1 tX0_2 tX0_3
  replace Go0 := Lib.hid Go0
  replace B := Lib.hid (B.out.trans (hb.mono B.out.size))
  replace K0 := Lib.hid (K0.out.below hb K0.out.lt)
  replace Wo0 := Lib.hid (Wo0.out.up hb (Nat.le_refl _))
  replace cp0 := Lib.hid (cp0.out.up hb (Nat.le_refl _))
  replace X0 := Lib.hid (X0.out.below hb X0.out.lt)
  replace cp1 := Lib.hid (cp1.out.up hb (Nat.le_refl _))
  have zw9 : w8.heap.size ≤ w9.heap.size := hb.size
  clear hb
  go_upto_region 11 with fail
  go_wp2_with fail
  refine (eqI_same _ _ (climbL z0 z1 a2) _ Go0.out.rd Wo0.out.rd).mono ?_
  rintro e w10 ⟨rfl, hb⟩
  replace B := Lib.hid (B.out.trans (hb.mono B.out.size))
  replace K0 := Lib.hid (K0.out.below hb K0.out.lt)
  replace Wo0 := Lib.hid (Wo0.out.up hb (Nat.le_refl _))
  replace cp0 := Lib.hid (cp0.out.up hb (Nat.le_refl _))
  replace X0 := Lib.hid (X0.out.below hb X0.out.lt)
  replace cp1 := Lib.hid (cp1.out.up hb (Nat.le_refl _))
  replace Go0 := Lib.hid (Go0.out.up hb (Nat.le_refl _))
  have zw10 : w9.heap.size ≤ w10.heap.size := hb.size
  clear hb
  go_upto_region 13 with fail
  have tX0_0 : w10.cell? ⟨w6.heap.size, 0, none⟩ = some (.int .i64 z0.vars) := X0.out.cell 0 rfl
  have tX0_1 : w10.cell? ⟨w6.heap.size, 1, none⟩ = some (.slice px0 z0.nums.length pc0) := X0.out.cell 1 rfl
  have tX0_2 : w10.cell? ⟨w6.heap.size, 2, none⟩ = some (.slice py0 z0.bnds.length pd0) := X0.out.cell 2 rfl
  have tX0_3 : w10.cell? ⟨w6.heap.size, 3, none⟩ = some (.slice pu0 z0.gains.length pf0) := X0.out.cell 3 rfl
  have tK0_0 : w10.cell? ⟨w.heap.size, 0, none⟩ = some (.int .i64 z0.vars) := K0.out.cell 0 rfl
  have tK0_1 : w10.cell? ⟨w.heap.size, 1, none⟩ = some (.slice x0 z0.nums.length c0) := K0.out.cell 1 rfl
  have tK0_2 : w10.cell? ⟨w.heap.size, 2, none⟩ = some (.slice y0 z0.bnds.length d0) := K0.out.cell 2 rfl
  have tK0_3 : w10.cell? ⟨w.heap.size, 3, none⟩ = some (.slice u0 z0.gains.length f0) := K0.out.cell 3 rfl
  go_wp2_with fail
  go_region_held3 (fun w' => w'.cell? ⟨w6.heap.size, 0, none⟩ = some (.int .i64 z0.vars) ∧ w'.cell? ⟨w6.heap.size, 1, none⟩ = some (.slice px0 z0.nums.length pc0) ∧ w'.cell? ⟨w6.heap.size, 2, none⟩ = some (.slice py0 z0.bnds.length pd0) ∧ w'.cell? ⟨w6.heap.size, 3, none⟩ = some (.slice pu0 z0.gains.length pf0) ∧ w'.cell? ⟨w.heap.size, 0, none⟩ = some (.int .i64 z0.vars) ∧ w'.cell? ⟨w.heap.size, 1, none⟩ = some (.slice x0 z0.nums.length c0) ∧ w'.cell? ⟨w.heap.size, 2, none⟩ = some (.slice y0 z0.bnds.length d0) ∧ w'.cell? ⟨w.heap.size, 3, none⟩ = some (.slice u0 z0.gains.length f0) ∧ Below w10.heap.size w10 w')
    (first | exact ⟨held_of hbn tX0_0 (Nat.le_refl _), held_of hbn tX0_1 (Nat.le_refl _), held_of hbn tX0_2 (Nat.le_refl _), held_of hbn tX0_3 (Nat.le_refl _), held_of hbn tK0_0 (Nat.le_refl _), held_of hbn tK0_1 (Nat.le_refl _), held_of hbn tK0_2 (Nat.le_refl _), held_of hbn tK0_3 (Nat.le_refl _), hbn⟩ | exact ⟨tX0_0, tX0_1, tX0_2, tX0_3, tK0_0, tK0_1, tK0_2, tK0_3, (Below.refl _ _).drew⟩)
    (first
      | (go_at_call_of 17 x0; have hh := (‹_ ∧ _ ∧ _ ∧ _ ∧ _ ∧ _ ∧ _ ∧ _ ∧ Below w10.heap.size w10 _›).2.2.2.2.2.2.2.2; refine (toR_any _ z0 _ ((RP0.out.up B.out (Nat.le_refl _)).up hh (Nat.le_refl _)) hs0).mono ?_; rintro e w11 ⟨vc0, rfl, c0, hb0⟩; have hbn := hh.trans (hb0.mono hh.size))
      | (go_at_call 19; have hh := (‹_ ∧ _ ∧ _ ∧ _ ∧ _ ∧ _ ∧ _ ∧ _ ∧ Below w10.heap.size w10 _›).2.2.2.2.2.2.2.2; refine (eqR_same _ _ z0 _ (cp0.out.up hh (Nat.le_refl _)).rd c0.rd).mono ?_; rintro e w12 ⟨rfl, hb1⟩; have hbn := hh.trans (hb1.mono hh.size)))
  clear tX0_0 tX0_1 tX0_2 tX0_3 tK0_0 tK0_1 tK0_2 tK0_3
  clear hh hb0 hb1 c0
  replace B := Lib.hid (B.out.trans (hbn.mono B.out.size))
  replace K0 := Lib.hid (K0.out.below hbn K0.out.lt)
  replace Wo0 := Lib.hid (Wo0.out.up hbn (Nat.le_refl _))
  replace cp0 := Lib.hid (cp0.out.up hbn (Nat.le_refl _))
  replace X0 := Lib.hid (X0.out.below hbn X0.out.lt)
  replace cp1 := Lib.hid (cp1.out.up hbn (Nat.le_refl _))
  replace Go0 := Lib.hid (Go0.out.up hbn (Nat.le_refl _))
  have zw12 : w10.heap.size ≤ w12.heap.size := hbn.size
  clear hbn
  go_upto_region 15 with fail
  go_wp2_with fail
  refine (toI_any _ z1 _ (RP1.out.up B.out (Nat.le_refl _)) hs1).mono ?_
  rintro e w13 ⟨vc1, rfl, c1, hb⟩
  replace c1 := Lib.hid c1
  replace B := Lib.hid (B.out.trans (hb.mono B.out.size))
  replace K0 := Lib.hid (K0.out.below hb K0.out.lt)
  replace Wo0 := Lib.hid (Wo0.out.up hb (Nat.le_refl _))
  replace cp0 := Lib.hid (cp0.out.up hb (Nat.le_refl _))
  replace X0 := Lib.hid (X0.out.below hb X0.out.lt)
  replace cp1 := Lib.hid (cp1.out.up hb (Nat.le_refl _))
  replace Go0 := Lib.hid (Go0.out.up hb (Nat.le_refl _))
  have zw13 : w12.heap.size ≤ w13.heap.size := hb.size
  clear hb
  go_wp2_with fail
  refine (eqI_same _ _ z1 _ cp1.out.rd c1.out.rd).mono ?_
  rintro e w14 ⟨rfl, hb⟩
  replace B := Lib.hid (B.out.trans (hb.mono B.out.size))
  replace K0 := Lib.hid (K0.out.below hb K0.out.lt)
  replace Wo0 := Lib.hid (Wo0.out.up hb (Nat.le_refl _))
  replace cp0 := Lib.hid (cp0.out.up hb (Nat.le_refl _))
  replace X0 := Lib.hid (X0.out.below hb X0.out.lt)
  replace cp1 := Lib.hid (cp1.out.up hb (Nat.le_refl _))
  replace Go0 := Lib.hid (Go0.out.up hb (Nat.le_refl _))
  replace c1 := Lib.hid (c1.out.up hb (Nat.le_refl _))
  have zw14 : w13.heap.size ≤ w14.heap.size := hb.size
  clear hb
  clear c1
  have hk0 : (0 : Int) ≤ 1 := by decide
  have hc0 : (0 : Int) ≤ (cntR z0 : Nat) := by omega
  go_upto_region 18 with fail
  have tX0_0 : w14.cell? ⟨w6.heap.size, 0, none⟩ = some (.int .i64 z0.vars) := X0.out.cell 0 rfl
  have tX0_1 : w14.cell? ⟨w6.heap.size, 1, none⟩ = some (.slice px0 z0.nums.length pc0) := X0.out.cell 1 rfl
  have tX0_2 : w14.cell? ⟨w6.heap.size, 2, none⟩ = some (.slice py0 z0.bnds.length pd0) := X0.out.cell 2 rfl
  have tX0_3 : w14.cell? ⟨w6.heap.size, 3, none⟩ = some (.slice pu0 z0.gains.length pf0) := X0.out.cell 3 rfl
  go_wp2_with fail
  refine (markR_o _ _ _ z0 _ _ cp0.out (by omega) (by have := cntR_le z0; omega)).mono ?_
  rintro e w15 ⟨rfl, -, hb⟩
  clear tX0_0 tX0_1 tX0_2 tX0_3
  replace B := Lib.hid (B.out.trans (hb.toBelow B.out.size (by rintro k hk1 ⟨h1, h2⟩; omega)))
  replace K0 := Lib.hid (K0.out.kept hb (by rintro ⟨h1, h2⟩; omega))
  replace Wo0 := Lib.hid (Wo0.out.kept hb (by rintro b h1 h2 ⟨h3, h4⟩; omega))
  replace X0 := Lib.hid (X0.out.kept hb (by rintro ⟨h1, h2⟩; omega))
  replace cp1 := Lib.hid (cp1.out.kept hb (by rintro b h1 h2 ⟨h3, h4⟩; omega))
  replace Go0 := Lib.hid (Go0.out.kept hb (by rintro b h1 h2 ⟨h3, h4⟩; omega))
  have zw15 : w14.heap.size ≤ w15.heap.size := hb.size
  clear hb
  clear cp0
  clear X0
  have hc1 : (0 : Int) ≤ (cntI z1 : Nat) := by omega
  go_upto_region 19 with fail
  go_wp2_with fail
  refine (markI_o _ _ _ z1 _ _ cp1.out (by omega) (by have := cntR_le z0; have := cntI_le z1; omega)).mono ?_
  rintro e w16 ⟨rfl, -, hb⟩
  replace B := Lib.hid (B.out.trans (hb.toBelow B.out.size (by rintro k hk1 ⟨h1, h2⟩; omega)))
  replace K0 := Lib.hid (K0.out.kept hb (by rintro ⟨h1, h2⟩; omega))
  replace Wo0 := Lib.hid (Wo0.out.kept hb (by rintro b h1 h2 ⟨h3, h4⟩; omega))
  replace Go0 := Lib.hid (Go0.out.kept hb (by rintro b h1 h2 ⟨h3, h4⟩; omega))
  have zw16 : w15.heap.size ≤ w16.heap.size := hb.size
  clear hb
  clear cp1
  go_upto_region 20 with fail
  go_wp2_with fail
  refine (eqI_same _ _ (climbL z0 z1 a2) _ Go0.out.rd Wo0.out.rd).mono ?_
  rintro e w17 ⟨rfl, hb⟩
  replace B := Lib.hid (B.out.trans (hb.mono B.out.size))
  replace K0 := Lib.hid (K0.out.below hb K0.out.lt)
  replace Wo0 := Lib.hid (Wo0.out.up hb (Nat.le_refl _))
  replace Go0 := Lib.hid (Go0.out.up hb (Nat.le_refl _))
  have zw17 : w16.heap.size ≤ w17.heap.size := hb.size
  clear hb
  have hcGo0 : (0 : Int) ≤ (cntI (climbL z0 z1 a2) : Nat) := by omega
  have Go0h := Go0
  clear Go0h
  go_upto_region 23 with fail
  go_wp2_with fail
  refine (markI_o _ _ _ (climbL z0 z1 a2) _ _ Go0.out (by omega) (by have := climbL_cnt z0 z1 a2; omega)).mono ?_
  rintro e w18 ⟨rfl, MGo0, hb⟩
  replace MGo0 := Lib.hid MGo0
  replace B := Lib.hid (B.out.trans (hb.toBelow B.out.size (by rintro k hk1 ⟨h1, h2⟩; omega)))
  replace K0 := Lib.hid (K0.out.kept hb (by rintro ⟨h1, h2⟩; omega))
  replace Wo0 := Lib.hid (Wo0.out.kept hb (by rintro b h1 h2 ⟨h3, h4⟩; omega))
  have zw18 : w17.heap.size ≤ w18.heap.size := hb.size
  clear hb
  clear Go0
  have nm : ((1 + (cntI (climbL z0 z1 a2) : Int) : Int) != (1 + (cntI (climbL z0 z1 a2) : Int) : Int)) = false := by simp
  go_upto_region 25 with fail
  go_wp2_with fail
  refine (heldI_o _ (climbL z0 z1 a2) _ _ MGo0.out.rd (by omega) (by have := climbL_cnt z0 z1 a2; omega)).mono ?_
  rintro e w19 ⟨rfl, hb⟩
  replace B := Lib.hid (B.out.trans (hb.mono B.out.size))
  replace K0 := Lib.hid (K0.out.below hb K0.out.lt)
  replace Wo0 := Lib.hid (Wo0.out.up hb (Nat.le_refl _))
  replace MGo0 := Lib.hid (MGo0.out.up hb (Nat.le_refl _))
  have zw19 : w18.heap.size ≤ w19.heap.size := hb.size
  clear hb
  go_upto_region 30 with fail
  have tK0_0 : w19.cell? ⟨w.heap.size, 0, none⟩ = some (.int .i64 z0.vars) := K0.out.cell 0 rfl
  have tK0_1 : w19.cell? ⟨w.heap.size, 1, none⟩ = some (.slice x0 z0.nums.length c0) := K0.out.cell 1 rfl
  have tK0_2 : w19.cell? ⟨w.heap.size, 2, none⟩ = some (.slice y0 z0.bnds.length d0) := K0.out.cell 2 rfl
  have tK0_3 : w19.cell? ⟨w.heap.size, 3, none⟩ = some (.slice u0 z0.gains.length f0) := K0.out.cell 3 rfl
  go_wp2_with fail
  refine (toR_any _ z0 _ (RP0.out.up B.out (Nat.le_refl _)) hs0).mono ?_
  rintro e w20 ⟨vc0, rfl, c0, hb⟩
  replace tK0_0 := held_of hb tK0_0 (Nat.le_refl _)
  replace tK0_1 := held_of hb tK0_1 (Nat.le_refl _)
  replace tK0_2 := held_of hb tK0_2 (Nat.le_refl _)
  replace tK0_3 := held_of hb tK0_3 (Nat.le_refl _)
  replace c0 := Lib.hid c0
  replace B := Lib.hid (B.out.trans (hb.mono B.out.size))
  replace K0 := Lib.hid (K0.out.below hb K0.out.lt)
  replace Wo0 := Lib.hid (Wo0.out.up hb (Nat.le_refl _))
  replace MGo0 := Lib.hid (MGo0.out.up hb (Nat.le_refl _))
  have zw20 : w19.heap.size ≤ w20.heap.size := hb.size
  clear hb
  go_wp2_with fail
  refine (toI_any _ z1 _ (RP1.out.up B.out (Nat.le_refl _)) hs1).mono ?_
  rintro e w21 ⟨vc1, rfl, c1, hb⟩
  replace tK0_0 := held_of hb tK0_0 (Nat.le_refl _)
  replace tK0_1 := held_of hb tK0_1 (Nat.le_refl _)
  replace tK0_2 := held_of hb tK0_2 (Nat.le_refl _)
  replace tK0_3 := held_of hb tK0_3 (Nat.le_refl _)
  replace c1 := Lib.hid c1
  replace B := Lib.hid (B.out.trans (hb.mono B.out.size))
  replace K0 := Lib.hid (K0.out.below hb K0.out.lt)
  replace Wo0 := Lib.hid (Wo0.out.up hb (Nat.le_refl _))
  replace MGo0 := Lib.hid (MGo0.out.up hb (Nat.le_refl _))
  replace c0 := Lib.hid (c0.out.up hb (Nat.le_refl _))
  have zw21 : w20.heap.size ≤ w21.heap.size := hb.size
  clear hb
  go_wp2_with fail
  refine (implClimb_any _ z0 _ z1 a2 _ c0.out.rd c1.out.rd).mono ?_
  rintro e w22 ⟨Hv0, rfl, Ho0, hb⟩
  clear tK0_0 tK0_1 tK0_2 tK0_3
  replace Ho0 := Lib.hid Ho0
  replace B := Lib.hid (B.out.trans (hb.mono B.out.size))
  replace K0 := Lib.hid (K0.out.below hb K0.out.lt)
  replace Wo0 := Lib.hid (Wo0.out.up hb (Nat.le_refl _))
  replace MGo0 := Lib.hid (MGo0.out.up hb (Nat.le_refl _))
  replace c0 := Lib.hid (c0.out.up hb (Nat.le_refl _))
  replace c1 := Lib.hid (c1.out.up hb (Nat.le_refl _))
  have zw22 : w21.heap.size ≤ w22.heap.size := hb.size
  clear hb
  clear c0 c1
  go_upto_region 31 with fail
  go_wp2_with fail
  refine (eqI_same _ _ (climbL z0 z1 a2) _ Ho0.out.rd Wo0.out.rd).mono ?_
  rintro e w23 ⟨rfl, hb⟩
  replace B := Lib.hid (B.out.trans (hb.mono B.out.size))
  replace K0 := Lib.hid (K0.out.below hb K0.out.lt)
  replace Wo0 := Lib.hid (Wo0.out.up hb (Nat.le_refl _))
  replace MGo0 := Lib.hid (MGo0.out.up hb (Nat.le_refl _))
  replace Ho0 := Lib.hid (Ho0.out.up hb (Nat.le_refl _))
  have zw23 : w22.heap.size ≤ w23.heap.size := hb.size
  clear hb
  go_upto_region 34 with fail
  go_wp2_with fail
  refine (heldI_o _ (climbL z0 z1 a2) _ _ MGo0.out.rd (by omega) (by have := climbL_cnt z0 z1 a2; omega)).mono ?_
  rintro e w24 ⟨rfl, hb⟩
  replace B := Lib.hid (B.out.trans (hb.mono B.out.size))
  replace K0 := Lib.hid (K0.out.below hb K0.out.lt)
  replace Wo0 := Lib.hid (Wo0.out.up hb (Nat.le_refl _))
  replace MGo0 := Lib.hid (MGo0.out.up hb (Nat.le_refl _))
  replace Ho0 := Lib.hid (Ho0.out.up hb (Nat.le_refl _))
  have zw24 : w23.heap.size ≤ w24.heap.size := hb.size
  clear hb
  go_wp2_with fail
  go_ret
  exact ⟨rfl, B.out⟩

end Go.Proofs.Ytkmbkjbammpdhaa
