/-
  FnExactWholesShared: texts joined: SharedI, OpenI, OpenR, OpenL, MarkL, HeldL, FormO, CaseO, CaseL, OpenC, OpenRL.
-/
import Derived.ProofKit
import Derived.OpenShut
import Derived.Lib.SmallJoins
import Derived.Deep.RegionHeld3
import Derived.Test.YtkmbkjbammpdhaaMEWholesSharedAA
import Derived.Test.YtkmbkjbammpdhaaMEWholesSharedAC
import Derived.Test.YtkmbkjbammpdhaaMEWholesSharedAF
import Derived.Test.YtkmbkjbammpdhaaMEWholesSharedAH
import Derived.Test.YtkmbkjbammpdhaaMEWholesSharedAJ
namespace Go.Proofs.Ytkmbkjbammpdhaa
open Go.RowKit

theorem areWorkers_b (q : Bool) (wk : Int) (w : World) (hq : inB 1 8 wk = q) : Calls Try.prog 136 #[.int .i64 wk] w fun e w' => e = .returned (.bool q) ∧ w = w' := by
  have HQ := Lib.hid hq
  clear hq
  go_enter Try.func136, Try.ntmps136
  go_wp2_with (go_at_call 109; refine (within_any _ _ _ _).mono ?_; rintro e w' ⟨rfl, rfl⟩; rw [HQ.out])
  go_ret
  exact ⟨rfl, rfl⟩

set_option maxHeartbeats 2000000 in
set_option maxRecDepth 4000 in
theorem implShared_any (v : Value) (ds : List RowsD) (top wk : Int) (w : World) (h : RdRL w v ds) :
    Calls Try.prog 56 #[v, .int .i64 top, .int .i64 wk] w fun e w' => ∃ v', e = .returned (.tuple #[v', .bool (shOk ds top wk)]) ∧ OwnF w.heap.size w'.heap.size w' v' (shL ds top wk) ∧ Below w.heap.size w w' := by
  obtain ⟨a, c, rfl⟩ := h.shape
  have HP := Lib.hid h
  have hm := h.len
  simp only [maxLen] at hm
  clear h
  obtain ⟨q1, hq1⟩ : ∃ q, inB 1 8 wk = q := ⟨_, rfl⟩
  obtain ⟨q2, hq2⟩ : ∃ q, inB 1 5 top = q := ⟨_, rfl⟩
  have HQ1 := Lib.hid hq1
  have HQ2 := Lib.hid hq2
  clear hq1 hq2
  by_cases h8 : ds.length ≤ 8
  case neg =>
    have HN := Lib.hid (show shOk ds top wk = false by unfold shOk shArgs; rw [decide_eq_false h8]; rfl)
    have HL := Lib.hid (show shL ds top wk = [] by unfold shL; rw [HN.out]; rfl)
    go_enter Try.func56, Try.ntmps56
    go_wp2_with fail
    go_ret2
    exact ⟨_, by rw [HN.out]; rfl, by rw [HL.out]; exact ⟨World.ownsRow_nil _ _ _ _, by intro g hg; cases hg⟩, Below.refl _ _⟩
  go_enter Try.func56, Try.ntmps56
  cases q2
  · have HN := Lib.hid (show shOk ds top wk = false by unfold shOk shArgs; rw [HQ2.out]; simp)
    have HL := Lib.hid (show shL ds top wk = [] by unfold shL; rw [HN.out]; rfl)
    go_wp2_with (first | (go_at_call 109; refine (within_any _ _ _ _).mono ?_; rintro e w' ⟨rfl, rfl⟩; rw [HQ2.out]) | (go_at_call 136; refine (areWorkers_b _ _ _ HQ1.out).mono ?_; rintro e w' ⟨rfl, rfl⟩))
    go_ret2
    exact ⟨_, by rw [HN.out]; rfl, by rw [HL.out]; exact ⟨World.ownsRow_nil _ _ _ _, by intro g hg; cases hg⟩, Below.refl _ _⟩
  cases q1
  · have HN := Lib.hid (show shOk ds top wk = false by unfold shOk shArgs; rw [HQ1.out]; simp)
    have HL := Lib.hid (show shL ds top wk = [] by unfold shL; rw [HN.out]; rfl)
    go_wp2_with (first | (go_at_call 109; refine (within_any _ _ _ _).mono ?_; rintro e w' ⟨rfl, rfl⟩; rw [HQ2.out]) | (go_at_call 136; refine (areWorkers_b _ _ _ HQ1.out).mono ?_; rintro e w' ⟨rfl, rfl⟩))
    go_ret2
    exact ⟨_, by rw [HN.out]; rfl, by rw [HL.out]; exact ⟨World.ownsRow_nil _ _ _ _, by intro g hg; cases hg⟩, Below.refl _ _⟩
  have HA := Lib.hid (show shArgs ds.length top wk = true by unfold shArgs; rw [HQ1.out, HQ2.out, decide_eq_true h8]; rfl)
  go_wp2_with (first | (go_at_call 109; refine (within_any _ _ _ _).mono ?_; rintro e w' ⟨rfl, rfl⟩; rw [HQ2.out]) | (go_at_call 136; refine (areWorkers_b _ _ _ HQ1.out).mono ?_; rintro e w' ⟨rfl, rfl⟩))
  go_loopw [8, 29] (fun out i wr => ∃ (k : Nat) (b : Option Addr) (cap : Nat), i = .int .i64 k ∧ k ≤ ds.length ∧ out = .slice b k cap ∧ Hid (wr.ownsRow w.heap.size 37 1 (.slice b k cap) k (((ds.take k).map (planY · top)).map F32)) ∧ Hid (Below w.heap.size w wr) ∧ Hid (∀ j, j < k → planOk (ds.getD j IRL) top = true)) (fun _ i _ => ds.length - (intOf i).toNat)
  case atStart => exact ⟨0, none, 0, rfl, Nat.zero_le _, rfl, World.ownsRow_nil _ _ _ _, Below.refl _ _, fun j hj => by omega⟩
  case round =>
    obtain ⟨k, b, cap, rfl, hk, rfl, HO, HB, HALL⟩ := hrel
    by_cases hlt : k < ds.length
    · obtain ⟨b0, off, v1, v2, v3, rfl, hb, x0, x1, x2, x3, hu⟩ := (HP.out.up HB.out (Nat.le_refl _)).at hlt
      have HM := Lib.hid (sh_snoc ds top k hlt)
      have HNO := Lib.hid (show planOk (ds.getD k IRL) top = false → shOk ds top wk = false from fun h => by unfold shOk; rw [allB_false hlt h, Bool.and_false])
      obtain ⟨x, hx⟩ : ∃ x, x = ds.getD k IRL := ⟨_, rfl⟩
      rw [← hx] at x0 hu HM HNO
      have HX := Lib.hid hx
      obtain ⟨p1, q1, p2, q2, p3, q3, hsz⟩ := hu.shape
      simp only [Value.agg.injEq, Array.mk.injEq, List.cons.injEq, and_true, true_and] at hsz
      obtain ⟨rfl, rfl, rfl⟩ := hsz
      obtain ⟨y, hy⟩ : ∃ y, planY x top = y := ⟨_, rfl⟩
      obtain ⟨q, hq⟩ : ∃ q, planOk x top = q := ⟨_, rfl⟩
      have HY := Lib.hid hy
      have HQ := Lib.hid hq
      have HU := Lib.hid hu
      have hlt' : (k : Int) < ds.length := by omega
      have hz := HB.out.size
      clear hx hy hq hu
      go_wp2_with fail
      refine Calls.at fun W hW => ?_
      have hbw := Lib.hid (show Below wr.heap.size wr W by subst hW; (repeat' first | exact Below.refl _ _ | assumption | refine Below.alloc ?_ ?_ _ | refine Below.setCell ?_ ?_ _ | refine Below.drew ?_ | (simp; done) | (simp; omega)))
      have hzw := hbw.out.size
      clear hW
      refine (implWP_any _ x top W (HU.out.up hbw.out (Nat.le_refl _))).mono ?_
      rintro e w1 ⟨vp, rfl, _, hb1⟩
      rw [HY.out, HQ.out]
      have HB1 := Lib.hid ((HB.out.trans (hbw.out.mono hz)).trans (hb1.mono (Nat.le_trans hz hzw)))
      have HO1 := Lib.hid (owns_below (owns_below HO.out hbw.out (Nat.le_refl _)) hb1 (Nat.le_refl _))
      have hz1 := HB1.out.size
      clear hb1
      cases q
      · have HN := Lib.hid (HNO.out HQ.out)
        have HL := Lib.hid (show shL ds top wk = [] by unfold shL; rw [HN.out]; rfl)
        go_wp2_with fail
        go_ret2
        exact ⟨_, by rw [HN.out]; rfl, by rw [HL.out]; exact ⟨World.ownsRow_nil _ _ _ _, by intro g hg; cases hg⟩, HB1.out⟩
      · go_wp2_with (at_builtin; refine app_flts rfl _ _ rfl w.heap.size (.slice b k cap) k _ rfl (owns_below HO1.out ((Below.refl _ _).alloc (Nat.le_refl _) _) (Nat.le_refl _)) _ [_] rfl (slcF_one _ _) (k + 1) _ (by simp) rfl (by omega) (by simp; omega) ?_; intro a2 cap2 w5 hown hbl hg _)
        go_roundw
        case rel =>
          refine ⟨k + 1, a2, cap2, by go_num, by omega, rfl, by rw [HM.out, HY.out]; exact hown, (HB1.out.alloc hz1 _).trans hbl, fun j hj => ?_⟩
          by_cases hjk : j < k
          · exact HALL.out j hjk
          · obtain rfl : j = k := by omega
            rw [← HX.out]; exact HQ.out
        case measure => simp [intOf]; omega
    · obtain rfl : k = ds.length := by omega
      have HN := Lib.hid (show shOk ds top wk = true by unfold shOk; rw [HA.out, allB_true HALL.out]; rfl)
      have HL := Lib.hid (show shL ds top wk = ds.map (planY · top) by unfold shL; rw [HN.out]; rfl)
      go_wp2_with fail
      go_ret2
      exact ⟨_, by rw [HN.out]; rfl, by rw [HL.out]; have := HO.out; rw [List.take_length] at this; exact OwnF.mk this, HB.out⟩

theorem shL_cnt (ds : List RowsD) (top wk : Int) : cntF (shL ds top wk) ≤ 8 := by
  unfold shL
  split
  · next h =>
    unfold shOk shArgs at h
    simp only [Bool.and_eq_true, decide_eq_true_eq] at h
    simpa [cntF] using h.1.1
  · simp [cntF]

end Go.Proofs.Ytkmbkjbammpdhaa

namespace Go.Proofs.Ytkmbkjbammpdhaa
open Go.ChangeShapes Go.WideShapes Go.ChangeAt Go.RowKit
set_option linter.unusedVariables false

def WfI (zs : List Int) : Prop := ∀ z ∈ zs, -9223372036854775808 ≤ z ∧ z ≤ 9223372036854775807

section
variable {H : Type} {enc : TypeId × Value → H} {w : World} {base : Nat} {spare : Nat → Bool} {held : Bool}

theorem cells_i64 : Try.prog.cellsOf 2 = 1 := by kernel_rfl
theorem wf_i64_bounds {z : Int} (h : (Lit.int .i64 z).wf = true) : -9223372036854775808 ≤ z ∧ z ≤ 9223372036854775807 := bounds_i64 h

set_option maxRecDepth 100000 in
theorem trod_I {fuel : Nat} {cs : List Value} {x : DataW H × List MemPlace} (h : DataW.trod enc Try.prog w base spare held fuel 36 cs = some x) : ∃ v zs, cs = [v] ∧ RdI w v zs ∧ WfI zs := by
  rcases open_ints Try.underlying36 Try.underlying2 cells_i64 h with ⟨rfl, _⟩ | ⟨a, len, cap, zs, rfl, _, hl, hm, hz, _, hcell, hwz⟩
  · exact ⟨_, [], rfl, .inl ⟨rfl, rfl⟩, by intro z hz; simp at hz⟩
  · have hle : len ≤ zs.length := by rw [hz]; split <;> omega
    refine ⟨_, zs.take len, rfl, .inr ⟨a, cap, by simp [Nat.min_eq_left hle], by simp; omega, hm, ?_⟩, fun z hz' => wf_i64_bounds (hwz z (List.mem_of_mem_take hz'))⟩
    intro i u hi
    have hlt : i < len := by
      have := (List.getElem?_eq_some_iff.1 hi).1
      simp at this; omega
    have h2 := hcell i (by omega)
    rw [h2, ← hi]
    simp [I64, List.getElem?_take, hlt, show i < zs.length by omega]

set_option maxRecDepth 100000 in
theorem arg_I {r : Reach} {b0 : Nat} {v : Value} {d : DataW H} {p : List MemPlace} (hv : Value.okWide Try.prog w r b0 36 v) (h : DataW.Trod enc Try.prog w base spare held 36 v d p) : ∃ zs, RdI w v zs ∧ WfI zs := by
  obtain ⟨a, len, cap, rfl⟩ := okWide_slice Try.underlying36 hv
  obtain ⟨fuel, hf⟩ := h
  obtain ⟨v, zs, e, h1, h2⟩ := trod_I hf
  simp [Value.cells] at e
  subst e
  exact ⟨zs, h1, h2⟩
theorem cells_one {a : Addr} {cs : List Value} (h : w.cells? base a 1 = some cs) : ∃ v, cs = [v] ∧ w.cell? a = some v := by
  simp [World.cells?] at h
  obtain ⟨_, h⟩ := h
  cases hc : w.cell? (a.add 0) with
  | none => rw [hc] at h; simp at h
  | some v =>
    rw [hc] at h
    simp at h
    exact ⟨v, h.symm, by simpa [Addr.add] using hc⟩

theorem exists_list {α : Type} (P : Nat → α → Prop) : ∀ (n : Nat), (∀ i, i < n → ∃ x, P i x) → ∃ l : List α, l.length = n ∧ ∀ (i : Nat) x, l[i]? = some x → P i x
  | 0, _ => ⟨[], rfl, by intro i x h; simp at h⟩
  | n + 1, h => by
    obtain ⟨l, hl, hp⟩ := exists_list P n (fun i hi => h i (by omega))
    obtain ⟨x, hx⟩ := h n (by omega)
    refine ⟨l ++ [x], by simp [hl], fun i y hy => ?_⟩
    by_cases hi : i < n
    · rw [List.getElem?_append_left (by omega)] at hy
      exact hp i y hy
    · have : i < (l ++ [x]).length := (List.getElem?_eq_some_iff.1 hy).1
      simp [hl] at this
      obtain rfl : i = n := by omega
      rw [List.getElem?_append_right (by omega), hl] at hy
      simp at hy
      exact hy ▸ hx
end
end Go.Proofs.Ytkmbkjbammpdhaa

namespace Go.Proofs.Ytkmbkjbammpdhaa
open Go.ChangeShapes Go.WideShapes Go.ChangeAt Go.RowKit
set_option linter.unusedVariables false

def WfF (zs : List Nat) : Prop := True
def WfR (r : RowsD) : Prop := True

section
variable {H : Type} {enc : TypeId × Value → H} {w : World} {base : Nat} {spare : Nat → Bool} {held : Bool}

theorem cells_f32 : Try.prog.cellsOf 37 = 1 := by kernel_rfl
theorem cells_floats : Try.prog.cellsOf 22 = 1 := by kernel_rfl
theorem cells_i64' : Try.prog.cellsOf 2 = 1 := by kernel_rfl
theorem cells_rows : Try.prog.cellsOf 24 = 4 := by kernel_rfl

set_option maxRecDepth 100000 in
theorem trod_f32 {n : Nat} {cs : List Value} {x : DataW H × List MemPlace} (h : DataW.trod enc Try.prog w base spare held n 37 cs = some x) : ∃ b, cs = [.float .f32 b] := by
  cases n with
  | zero => simp [DataW.trod] at h
  | succ n =>
    simp only [DataW.trod, Try.underlying37] at h
    revert h
    repeat' split
    all_goals first | (intro h; cases h; done) | skip
    all_goals first | (intro _; exact ⟨_, rfl⟩) | skip
    all_goals (intro h; simp_all)

set_option maxRecDepth 100000 in
theorem trod_F {fuel : Nat} {cs : List Value} {x : DataW H × List MemPlace} (h : DataW.trod enc Try.prog w base spare held fuel 22 cs = some x) : ∃ v zs, cs = [v] ∧ RdF w v zs ∧ WfF zs := by
  rcases DataW.trod_slice Try.underlying22 h with ⟨rfl, _⟩ | ⟨a, len, cap, elems, rest, n, _, rfl, _, hb, hl, hm, hlen, hel, _, _⟩
  · exact ⟨_, [], rfl, .inl ⟨rfl, rfl⟩, trivial⟩
  · rw [cells_f32] at hel
    have hex : ∀ i, i < len → ∃ q : Nat, w.cell? (a.add i) = some (.float .f32 q) := by
      intro i hi
      have h1 := hel i hi
      rw [List.getElem?_eq_getElem (by omega)] at h1
      cases hc : w.cells? base (a.add (i * 1)) 1 with
      | none => rw [hc] at h1; simp at h1
      | some cs' =>
        rw [hc] at h1
        simp only [Option.bind_some] at h1
        obtain ⟨u, rfl, hu⟩ := cells_one hc
        obtain ⟨b, e⟩ := trod_f32 h1
        simp at e
        subst e
        exact ⟨b, by simpa using hu⟩
    obtain ⟨l, hll, hlp⟩ := exists_list _ len hex
    refine ⟨_, l, rfl, .inr ⟨a, cap, by simp [hll], by simp [hll]; omega, hm, ?_⟩, trivial⟩
    intro i u hi
    simp only [List.getElem?_map, Option.map_eq_some_iff] at hi
    obtain ⟨q, hq, rfl⟩ := hi
    exact hlp i q hq

set_option maxRecDepth 100000 in
theorem arg_F {r : Reach} {b0 : Nat} {v : Value} {d : DataW H} {p : List MemPlace} (hv : Value.okWide Try.prog w r b0 22 v) (h : DataW.Trod enc Try.prog w base spare held 22 v d p) : ∃ zs, RdF w v zs ∧ WfF zs := by
  obtain ⟨a, len, cap, rfl⟩ := okWide_slice Try.underlying22 hv
  obtain ⟨fuel, hf⟩ := h
  obtain ⟨v, zs, e, h1, h2⟩ := trod_F hf
  simp [Value.cells] at e
  subst e
  exact ⟨zs, h1, h2⟩

set_option maxRecDepth 100000 in
theorem trod_i64 {n : Nat} {cs : List Value} {x : DataW H × List MemPlace} (h : DataW.trod enc Try.prog w base spare held n 2 cs = some x) : ∃ z, cs = [.int .i64 z] := by
  cases n with
  | zero => simp [DataW.trod] at h
  | succ n =>
    simp only [DataW.trod, Try.underlying2] at h
    revert h
    repeat' split
    all_goals first | (intro h; cases h; done) | skip
    all_goals first | (intro _; exact ⟨_, rfl⟩) | skip
    all_goals (intro h; simp_all)

set_option maxRecDepth 100000 in
theorem arg_R {r : Reach} {b0 : Nat} {v : Value} {d : DataW H} {p : List MemPlace} (hv : Value.okWide Try.prog w r b0 24 v) (h : DataW.Trod enc Try.prog w base spare held 24 v d p) : ∃ t, RdR w v t ∧ WfR t := by
  obtain ⟨cs, rfl, hsz⟩ := okWide_struct Try.underlying24 hv
  obtain ⟨fuel, hf⟩ := h
  obtain ⟨y0, y1, y2, y3, n, _, hl, h0, h1, h2, h3⟩ := Go.Joins.trod_struct4 Try.underlying24 hf
  rw [cells_rows] at hl
  simp only [Value.cells] at hl h0 h1 h2 h3
  obtain ⟨l⟩ := cs
  match l, hl with
  | [a, b, c, e], _ =>
    rw [cells_floats] at h1 h2 h3
    rw [cells_i64'] at h0
    obtain ⟨z, e0⟩ := trod_i64 h0
    obtain ⟨vb, p, e1, r1, _⟩ := trod_F (w := w) h1
    obtain ⟨vc, q, e2, r2, _⟩ := trod_F (w := w) h2
    obtain ⟨vd, s, e3, r3, _⟩ := trod_F (w := w) h3
    simp at e0 e1 e2 e3
    subst e0 e1 e2 e3
    exact ⟨⟨z, p, q, s⟩, ⟨_, _, _, rfl, r1, r2, r3⟩, trivial⟩
end
end Go.Proofs.Ytkmbkjbammpdhaa

namespace Go.Proofs.Ytkmbkjbammpdhaa
open Go.ChangeShapes Go.WideShapes Go.ChangeAt Go.RowKit
set_option linter.unusedVariables false

section
variable {H : Type} {enc : TypeId × Value → H} {w : World} {base : Nat} {spare : Nat → Bool} {held : Bool}

theorem cells_ints' : Try.prog.cellsOf 36 = 1 := by kernel_rfl
def WfL (zss : List (List Int)) : Prop := ∀ zs ∈ zss, WfI zs

end
end Go.Proofs.Ytkmbkjbammpdhaa

namespace Go.Proofs.Ytkmbkjbammpdhaa
open Go.RowKit

def cntL (zss : List (List Int)) : Nat := lsum zss
theorem cntL_le (zss : List (List Int)) : cntL zss ≤ bulkL zss := by unfold cntL bulkL; omega
/-- The first j lists marked from k on. -/
def mkP (k : Int) : List (List Int) → Nat → List (List Int)
  | [], _ => []
  | zss, 0 => zss
  | z :: r, j + 1 => mkI k z.length :: mkP (k + z.length) r j
def mkdL (k : Int) (zss : List (List Int)) : List (List Int) := mkP k zss zss.length
theorem mkP_zero (k : Int) (zss : List (List Int)) : mkP k zss 0 = zss := by cases zss <;> rfl
theorem mkP_length (k : Int) : ∀ (zss : List (List Int)) (j : Nat), (mkP k zss j).length = zss.length
  | [], j => by cases j <;> rfl
  | z :: r, 0 => rfl
  | z :: r, j + 1 => by simp only [mkP, List.length_cons, mkP_length (k + z.length) r j]
theorem mkP_late (k : Int) : ∀ (zss : List (List Int)) (j i : Nat), j ≤ i → (mkP k zss j)[i]? = zss[i]?
  | [], j, i, _ => by cases j <;> rfl
  | z :: r, 0, i, _ => rfl
  | z :: r, j + 1, i, h => by
    cases i with
    | zero => omega
    | succ i => simp only [mkP, List.getElem?_cons_succ]; exact mkP_late (k + z.length) r j i (by omega)
theorem mkP_set (k : Int) : ∀ (zss : List (List Int)) (j : Nat), j < zss.length → mkP k zss (j + 1) = (mkP k zss j).set j (mkI (k + lsum (zss.take j)) (zss.getD j []).length)
  | [], j, h => by simp at h
  | z :: r, 0, h => by simp [mkP, mkP_zero, lsum]
  | z :: r, j + 1, h => by
    have ih := mkP_set (k + z.length) r j (by simpa using h)
    rw [mkP, ih, mkP, List.set_cons_succ]
    congr 2
    simp only [List.take_succ_cons, lsum, List.getD_cons_succ]
    congr 1
    push_cast
    omega
theorem mkdL_at (k : Int) : ∀ (zss : List (List Int)) (j i : Nat), i < j → i < zss.length → (mkP k zss j)[i]? = some (mkI (k + lsum (zss.take i)) (zss.getD i []).length)
  | [], j, i, _, h => by simp at h
  | z :: r, 0, i, h, _ => by omega
  | z :: r, j + 1, 0, _, _ => by simp [mkP, lsum]
  | z :: r, j + 1, i + 1, h, h2 => by
    have ih := mkdL_at (k + z.length) r j i (by omega) (by simpa using h2)
    simp only [mkP, List.getElem?_cons_succ, ih, List.take_succ_cons, lsum, List.getD_cons_succ]
    congr 2
    push_cast
    omega

theorem owns_ne {w : World} {b1 b2 n1 n2 g : Nat} {e1 e2 : TypeId} {v1 v2 : Value} {x1 x2 : List Value} (h1 : w.ownsRow b1 e1 1 v1 n1 x1) (h2 : w.ownsRow b2 e2 1 v2 n2 x2) (hne : e1 ≠ e2) (hg : v1.ownBlock = some g) : v2.ownBlock ≠ some g := by
  intro hg2
  rcases h1.2 with ⟨rfl, _⟩ | ⟨a, cap, cur, rfl, _, hh, _⟩
  · simp [Value.ownBlock] at hg
  · rcases h2.2 with ⟨rfl, _⟩ | ⟨a2, cap2, cur2, rfl, _, hh2, _⟩
    · simp [Value.ownBlock] at hg2
    · simp only [Value.ownBlock, Option.some.injEq] at hg hg2
      subst hg hg2
      rw [hh] at hh2
      simp only [Option.some.injEq, Obj.cells.injEq] at hh2
      exact hne hh2.2.1
/-- Where memory that is owned lies: in a block of its own, or nowhere. -/
theorem OwnI.own {lo hi : Nat} {w : World} {u : Value} {zs : List Int} (h : OwnI lo hi w u zs) : ∃ l h', OwnI l h' w u zs ∧ ((u.ownBlock = none ∧ l = 0 ∧ h' = 0) ∨ (u.ownBlock = some l ∧ h' = l + 1 ∧ lo ≤ l ∧ l < hi)) := by
  obtain ⟨h1, h2⟩ := h
  rcases h1.2 with ⟨rfl, e⟩ | ⟨g, cap, cur, rfl, a1, a2⟩
  · exact ⟨0, 0, ⟨⟨h1.1, .inl ⟨rfl, e⟩⟩, by intro g hg; cases hg⟩, .inl ⟨rfl, rfl, rfl⟩⟩
  · exact ⟨g, g + 1, ⟨⟨h1.1, .inr ⟨g, cap, cur, rfl, Nat.le_refl _, a2⟩⟩, by intro g' hg; simp only [Value.ownBlock, Option.some.injEq] at hg; omega⟩, .inr ⟨rfl, rfl, a1, h2 g rfl⟩⟩

/-- One of the rows is written anew: the others are as they were. -/
theorem OwnEach.set {lo hi l h' : Nat} {w w' : World} {vs : List Value} {zss : List (List Int)} {i : Nat} {u : Value} {z : List Int} (h : OwnEach lo hi w vs zss) (hu : vs[i]? = some u)
    (hl : (u.ownBlock = none ∧ l = 0 ∧ h' = 0) ∨ (u.ownBlock = some l ∧ h' = l + 1 ∧ lo ≤ l ∧ l < hi)) (hn : OwnI l h' w' u z) (hk : Kept (fun b => l ≤ b ∧ b < h') w w') : OwnEach lo hi w' vs (zss.set i z) := by
  refine ⟨by rw [List.length_set]; exact h.1, fun j u' zs h1 h2 => ?_, h.2.2⟩
  by_cases hji : j = i
  · subst hji
    rw [hu] at h1
    simp only [Option.some.injEq] at h1
    subst h1
    have hlt : j < zss.length := by rw [← h.1]; exact (List.getElem?_eq_some_iff.1 hu).1
    rw [List.getElem?_set_self (by simpa using hlt)] at h2
    simp only [Option.some.injEq] at h2
    subst h2
    rcases hl with ⟨e, rfl, rfl⟩ | ⟨e, rfl, a1, a2⟩
    · refine ⟨⟨hn.1.1, ?_⟩, by intro g hg; rw [e] at hg; cases hg⟩
      rcases hn.1.2 with x | ⟨g, cap, cur, rfl, _⟩
      · exact .inl x
      · simp [Value.ownBlock] at e
    · exact hn.wide a1 (by omega)
  · rw [List.getElem?_set_ne (by omega)] at h2
    have ho := h.2.1 j u' zs h1 h2
    refine ⟨owns_kept ho.1 hk ?_, ho.2⟩
    rintro g hg ⟨hs1, hs2⟩
    rcases hl with ⟨e, rfl, rfl⟩ | ⟨e, rfl, a1, a2⟩
    · omega
    · have : g = l := by omega
      subst this
      exact h.2.2 i j u u' g (by omega) hu h1 e hg

end Go.Proofs.Ytkmbkjbammpdhaa

namespace Go.Proofs.Ytkmbkjbammpdhaa
open Go.RowKit

end Go.Proofs.Ytkmbkjbammpdhaa

namespace Go.Proofs.Ytkmbkjbammpdhaa
open Go.RowKit

structure FormD where
  letters : Int
  clauses : List (List Int)

def RdFm (w : World) (v : Value) (d : FormD) : Prop := ∃ v1, v = .agg #[.int .i64 d.letters, v1] ∧ RdL w v1 d.clauses
def OwnFm (lo hi : Nat) (w : World) (v : Value) (d : FormD) : Prop := ∃ v1 l1 h1, v = .agg #[.int .i64 d.letters, v1] ∧ OwnL l1 h1 w v1 d.clauses ∧
  lo ≤ l1 ∧ l1 ≤ h1 ∧ h1 ≤ hi ∧ h1 ≤ w.heap.size
def bulkFm (d : FormD) : Nat := bulkL d.clauses
def cntFm (d : FormD) : Nat := cntL d.clauses

theorem RdFm.shape {w : World} {v : Value} {d : FormD} (h : RdFm w v d) : ∃ a1 c1, v = .agg #[.int .i64 d.letters, .slice a1 d.clauses.length c1] := by
  obtain ⟨v1, rfl, p1⟩ := h
  obtain ⟨a1, c1, rfl⟩ := p1.shape
  exact ⟨_, _, rfl⟩
theorem RdFm.parts {w : World} {z1 z2 : Value} {d : FormD} (h : RdFm w (.agg #[z1, z2]) d) : RdL w z2 d.clauses := by
  obtain ⟨v1, e, p1⟩ := h
  simp only [Value.agg.injEq, Array.mk.injEq, List.cons.injEq, and_true] at e
  obtain ⟨rfl, rfl⟩ := e
  exact p1
theorem RdFm.up {w w' : World} {v : Value} {d : FormD} {B : Nat} (h : RdFm w v d) (hb : Below B w w') (hB : w.heap.size ≤ B) : RdFm w' v d := by
  obtain ⟨v1, e, p1⟩ := h
  exact ⟨v1, e, p1.up hb hB⟩
theorem OwnFm.rd {lo hi : Nat} {w : World} {v : Value} {d : FormD} (h : OwnFm lo hi w v d) : RdFm w v d := by
  obtain ⟨v1, l1, h1, e, p1, r1, r2, r3, r4⟩ := h
  exact ⟨v1, e, p1.rd⟩
theorem OwnFm.up {lo hi : Nat} {w w' : World} {v : Value} {d : FormD} {B : Nat} (h : OwnFm lo hi w v d) (hb : Below B w w') (hB : w.heap.size ≤ B) : OwnFm lo hi w' v d := by
  obtain ⟨v1, l1, h1, e, p1, r1, r2, r3, r4⟩ := h
  exact ⟨v1, l1, h1, e, p1.up hb hB, r1, r2, r3, Nat.le_trans r4 hb.size⟩
theorem OwnFm.wide {lo hi lo' hi' : Nat} {w : World} {v : Value} {d : FormD} (h : OwnFm lo hi w v d) (a : lo' ≤ lo) (b : hi ≤ hi') : OwnFm lo' hi' w v d := by
  obtain ⟨v1, l1, h1, e, p1, r1, r2, r3, r4⟩ := h
  exact ⟨v1, l1, h1, e, p1, by omega, r2, by omega, r4⟩
theorem OwnFm.kept {lo hi : Nat} {w w' : World} {v : Value} {d : FormD} {S : Nat → Prop} (h : OwnFm lo hi w v d) (hk : Kept S w w') (hs : ∀ b, lo ≤ b → b < hi → ¬ S b) : OwnFm lo hi w' v d := by
  obtain ⟨v1, l1, h1, e, p1, r1, r2, r3, r4⟩ := h
  exact ⟨v1, l1, h1, e, p1.kept hk (fun b a c => hs b (by omega) (by omega)), r1, r2, r3, Nat.le_trans r4 hk.size⟩

def mkdFm (k : Int) (d : FormD) : FormD := ⟨d.letters, mkdL k d.clauses⟩

end Go.Proofs.Ytkmbkjbammpdhaa

namespace Go.Proofs.Ytkmbkjbammpdhaa
open Go.RowKit

structure CaseD where
  name : ByteArray
  form : FormD
  proof : List (List Int)

def RdCs (w : World) (v : Value) (d : CaseD) : Prop := ∃ v1 v2, v = .agg #[.string d.name, .int .i64 d.form.letters, v1, v2] ∧ RdFm w (.agg #[.int .i64 d.form.letters, v1]) d.form ∧ RdL w v2 d.proof ∧ d.name.size ≤ maxLen
def OwnCs (lo hi : Nat) (w : World) (v : Value) (d : CaseD) : Prop := ∃ v1 v2 l1 h1 l2 h2, v = .agg #[.string d.name, .int .i64 d.form.letters, v1, v2] ∧ OwnFm l1 h1 w (.agg #[.int .i64 d.form.letters, v1]) d.form ∧ OwnL l2 h2 w v2 d.proof ∧ d.name.size ≤ maxLen ∧
  lo ≤ l1 ∧ l1 ≤ h1 ∧ h1 ≤ l2 ∧ l2 ≤ h2 ∧ h2 ≤ hi ∧ h2 ≤ w.heap.size
def bulkCs (d : CaseD) : Nat := d.name.size + bulkFm d.form + bulkL d.proof
def cntCs (d : CaseD) : Nat := cntFm d.form + cntL d.proof

theorem RdCs.shape {w : World} {v : Value} {d : CaseD} (h : RdCs w v d) : ∃ a1 c1 a2 c2, v = .agg #[.string d.name, .int .i64 d.form.letters, .slice a1 d.form.clauses.length c1, .slice a2 d.proof.length c2] := by
  obtain ⟨v1, v2, rfl, p1, p2, y1⟩ := h
  obtain ⟨a1, c1, e1⟩ := p1.shape
  simp only [Value.agg.injEq, Array.mk.injEq, List.cons.injEq, and_true, true_and] at e1
  obtain rfl := e1
  obtain ⟨a2, c2, rfl⟩ := p2.shape
  exact ⟨_, _, _, _, rfl⟩
theorem RdCs.parts {w : World} {z1 z2 z3 z4 : Value} {d : CaseD} (h : RdCs w (.agg #[z1, z2, z3, z4]) d) : RdFm w (.agg #[z2, z3]) d.form ∧ RdL w z4 d.proof ∧ d.name.size ≤ maxLen := by
  obtain ⟨v1, v2, e, p1, p2, y1⟩ := h
  simp only [Value.agg.injEq, Array.mk.injEq, List.cons.injEq, and_true] at e
  obtain ⟨rfl, rfl, rfl, rfl⟩ := e
  exact ⟨p1, p2, y1⟩
theorem RdCs.up {w w' : World} {v : Value} {d : CaseD} {B : Nat} (h : RdCs w v d) (hb : Below B w w') (hB : w.heap.size ≤ B) : RdCs w' v d := by
  obtain ⟨v1, v2, e, p1, p2, y1⟩ := h
  exact ⟨v1, v2, e, p1.up hb hB, p2.up hb hB, y1⟩
theorem OwnCs.rd {lo hi : Nat} {w : World} {v : Value} {d : CaseD} (h : OwnCs lo hi w v d) : RdCs w v d := by
  obtain ⟨v1, v2, l1, h1, l2, h2, e, p1, p2, y1, r1, r2, r3, r4, r5, r6⟩ := h
  exact ⟨v1, v2, e, p1.rd, p2.rd, y1⟩
theorem OwnCs.up {lo hi : Nat} {w w' : World} {v : Value} {d : CaseD} {B : Nat} (h : OwnCs lo hi w v d) (hb : Below B w w') (hB : w.heap.size ≤ B) : OwnCs lo hi w' v d := by
  obtain ⟨v1, v2, l1, h1, l2, h2, e, p1, p2, y1, r1, r2, r3, r4, r5, r6⟩ := h
  exact ⟨v1, v2, l1, h1, l2, h2, e, p1.up hb hB, p2.up hb hB, y1, r1, r2, r3, r4, r5, Nat.le_trans r6 hb.size⟩
theorem OwnCs.wide {lo hi lo' hi' : Nat} {w : World} {v : Value} {d : CaseD} (h : OwnCs lo hi w v d) (a : lo' ≤ lo) (b : hi ≤ hi') : OwnCs lo' hi' w v d := by
  obtain ⟨v1, v2, l1, h1, l2, h2, e, p1, p2, y1, r1, r2, r3, r4, r5, r6⟩ := h
  exact ⟨v1, v2, l1, h1, l2, h2, e, p1, p2, y1, by omega, r2, r3, r4, by omega, r6⟩
theorem OwnCs.kept {lo hi : Nat} {w w' : World} {v : Value} {d : CaseD} {S : Nat → Prop} (h : OwnCs lo hi w v d) (hk : Kept S w w') (hs : ∀ b, lo ≤ b → b < hi → ¬ S b) : OwnCs lo hi w' v d := by
  obtain ⟨v1, v2, l1, h1, l2, h2, e, p1, p2, y1, r1, r2, r3, r4, r5, r6⟩ := h
  exact ⟨v1, v2, l1, h1, l2, h2, e, p1.kept hk (fun b a c => hs b (by omega) (by omega)), p2.kept hk (fun b a c => hs b (by omega) (by omega)), y1, r1, r2, r3, r4, r5, Nat.le_trans r6 hk.size⟩

def mkdCs (k : Int) (d : CaseD) : CaseD := ⟨d.name, mkdFm k d.form, mkdL (k + cntFm d.form) d.proof⟩

end Go.Proofs.Ytkmbkjbammpdhaa

namespace Go.Proofs.Ytkmbkjbammpdhaa
open Go.RowKit

def ICL : CaseD := ⟨⟨#[]⟩, ⟨0, []⟩, []⟩
/-- One of a list: its data, the values of its slices, and where they lie. -/
structure RowCL where
  d : CaseD
  a1 : Value
  a2 : Value
  l : Nat
  h : Nat
def cellsCL (r : RowCL) : List Value := [.string r.d.name, .int .i64 r.d.form.letters, r.a1, r.a2]
def aggCL (r : RowCL) : Value := .agg #[.string r.d.name, .int .i64 r.d.form.letters, r.a1, r.a2]
theorem cellsCL_len (r : RowCL) : (cellsCL r).length = 4 := rfl
def sumCL : List CaseD → Nat
  | [] => 0
  | z :: r => bulkCs z + sumCL r
theorem sumCL_append : ∀ (a b : List CaseD), sumCL (a ++ b) = sumCL a + sumCL b
  | [], b => by simp [sumCL]
  | z :: r, b => by simp only [List.cons_append, sumCL, sumCL_append r b]; omega
def bulkCL (ds : List CaseD) : Nat := ds.length + sumCL ds
theorem sumCL_take_succ (ds : List CaseD) (k : Nat) (hk : k < ds.length) : sumCL (ds.take (k + 1)) = sumCL (ds.take k) + bulkCs (ds.getD k ICL) := by
  rw [List.take_succ_eq_append_getElem hk, sumCL_append]
  simp [hk, sumCL]
theorem bulkCL_le (ds : List CaseD) (k : Nat) : sumCL (ds.take k) + ds.length ≤ bulkCL ds := by
  unfold bulkCL
  have : sumCL (ds.take k) + sumCL (ds.drop k) = sumCL ds := by rw [← sumCL_append, List.take_append_drop]
  omega

/-- The slice reads as these. -/
def RdCL (w : World) (v : Value) (ds : List CaseD) : Prop := (∃ a cap, v = .slice a 0 cap ∧ cap ≤ maxLen ∧ ds = []) ∨
  ∃ (b off cap : Nat) (rows : List RowCL), v = .slice (some ⟨b, off, none⟩) ds.length cap ∧ ds.length ≤ cap ∧ cap ≤ maxLen ∧ ds = rows.map (·.d) ∧
    ∀ (i : Nat) (r : RowCL), rows[i]? = some r → (∀ c u, (cellsCL r)[c]? = some u → w.cell? ⟨b, off + i * 4 + c, none⟩ = some u) ∧ RdCs w (aggCL r) r.d
def OwnECL (lo hi : Nat) (w : World) (rows : List RowCL) : Prop :=
  (∀ (i : Nat) (r : RowCL), rows[i]? = some r → OwnCs r.l r.h w (aggCL r) r.d ∧ lo ≤ r.l ∧ r.h ≤ hi) ∧ ∀ (i j : Nat) (r s : RowCL), i < j → rows[i]? = some r → rows[j]? = some s → r.h ≤ s.l
theorem RdCL.shape {w : World} {v : Value} {ds : List CaseD} (h : RdCL w v ds) : ∃ a c, v = .slice a ds.length c := by
  rcases h with ⟨a, cap, rfl, _, rfl⟩ | ⟨b, off, cap, rows, rfl, _⟩
  · exact ⟨a, cap, rfl⟩
  · exact ⟨_, cap, rfl⟩
theorem RdCL.len {w : World} {v : Value} {ds : List CaseD} (h : RdCL w v ds) : ds.length ≤ maxLen := by
  rcases h with ⟨a, cap, rfl, _, rfl⟩ | ⟨b, off, cap, rows, rfl, h1, h2, _⟩
  · simp [maxLen]
  · omega
theorem RdCL.up {w w' : World} {v : Value} {ds : List CaseD} {B : Nat} (h : RdCL w v ds) (hb : Below B w w') (hB : w.heap.size ≤ B) : RdCL w' v ds := by
  rcases h with h | ⟨b, off, cap, rows, e, h1, h2, h3, hc⟩
  · exact .inl h
  · exact .inr ⟨b, off, cap, rows, e, h1, h2, h3, fun i r hr => ⟨fun c u hu => held_of hb ((hc i r hr).1 c u hu) hB, (hc i r hr).2.up hb hB⟩⟩
theorem RdCL.at {w : World} {a : Option Addr} {n c : Nat} {ds : List CaseD} (h : RdCL w (.slice a n c) ds) {i : Nat} (hi : i < ds.length) :
    ∃ b off a1 a2, a = some ⟨b, off, none⟩ ∧ b < w.heap.size ∧ w.cell? ⟨b, off + i * 4, none⟩ = some (.string (ds.getD i ICL).name) ∧ w.cell? ⟨b, off + i * 4 + 1, none⟩ = some (.int .i64 (ds.getD i ICL).form.letters) ∧ w.cell? ⟨b, off + i * 4 + 2, none⟩ = some (a1) ∧ w.cell? ⟨b, off + i * 4 + 3, none⟩ = some (a2) ∧ RdCs w (.agg #[.string (ds.getD i ICL).name, .int .i64 (ds.getD i ICL).form.letters, a1, a2]) (ds.getD i ICL) := by
  rcases h with ⟨_, _, _, _, rfl⟩ | ⟨b, off, cap, rows, e, _, _, hd, hc⟩
  · simp at hi
  · simp only [Value.slice.injEq] at e
    obtain ⟨rfl, rfl, rfl⟩ := e
    have hir : i < rows.length := by rw [hd] at hi; simpa using hi
    have hg : ds.getD i ICL = rows[i].d := by rw [hd]; simp [hir]
    obtain ⟨h1, h2⟩ := hc i _ (List.getElem?_eq_getElem hir)
    rw [hg]
    have h0 := h1 0 _ rfl
    exact ⟨b, off, rows[i].a1, rows[i].a2, rfl, cell_lt h0, h0, h1 1 _ rfl, h1 2 _ rfl, h1 3 _ rfl, h2⟩

theorem OwnECL.up {lo hi : Nat} {w w' : World} {rows : List RowCL} {B : Nat} (h : OwnECL lo hi w rows) (hb : Below B w w') (hB : w.heap.size ≤ B) : OwnECL lo hi w' rows :=
  ⟨fun i r hr => ⟨(h.1 i r hr).1.up hb hB, (h.1 i r hr).2⟩, h.2⟩
theorem OwnECL.wide {lo hi lo' hi' : Nat} {w : World} {rows : List RowCL} (h : OwnECL lo hi w rows) (a : lo' ≤ lo) (b : hi ≤ hi') : OwnECL lo' hi' w rows :=
  ⟨fun i r hr => ⟨(h.1 i r hr).1, Nat.le_trans a (h.1 i r hr).2.1, Nat.le_trans (h.1 i r hr).2.2 b⟩, h.2⟩
theorem OwnECL.kept {lo hi : Nat} {w w' : World} {rows : List RowCL} {S : Nat → Prop} (h : OwnECL lo hi w rows) (hk : Kept S w w') (hs : ∀ (i : Nat) (r : RowCL), rows[i]? = some r → ∀ b, r.l ≤ b → b < r.h → ¬ S b) : OwnECL lo hi w' rows :=
  ⟨fun i r hr => ⟨(h.1 i r hr).1.kept hk (hs i r hr), (h.1 i r hr).2⟩, h.2⟩
end Go.Proofs.Ytkmbkjbammpdhaa

namespace Go.Proofs.Ytkmbkjbammpdhaa
open Go.ChangeShapes Go.WideShapes Go.ChangeAt Go.RowKit
set_option linter.unusedVariables false

section
variable {H : Type} {enc : TypeId × Value → H} {w : World} {base : Nat} {spare : Nat → Bool} {held : Bool}

theorem cells_four {a : Addr} {cs : List Value} (h : w.cells? base a (0 + 4) = some cs) : ∃ v0 v1 v2 v3, cs = [v0, v1, v2, v3] ∧ w.cell? (a.add 0) = some v0 ∧ w.cell? (a.add 1) = some v1 ∧ w.cell? (a.add 2) = some v2 ∧ w.cell? (a.add 3) = some v3 := by
  simp only [World.cells?, Nat.zero_add] at h
  split at h
  · rw [show List.range 4 = [0, 1, 2, 3] from rfl] at h
    cases h0 : w.cell? (a.add 0) with
    | none => rw [List.mapM_cons, h0] at h; simp at h
    | some v0 =>
      cases h1 : w.cell? (a.add 1) with
      | none => rw [List.mapM_cons, h0, List.mapM_cons, h1] at h; simp at h
      | some v1 =>
        cases h2 : w.cell? (a.add 2) with
        | none => rw [List.mapM_cons, h0, List.mapM_cons, h1, List.mapM_cons, h2] at h; simp at h
        | some v2 =>
          cases h3 : w.cell? (a.add 3) with
          | none => rw [List.mapM_cons, h0, List.mapM_cons, h1, List.mapM_cons, h2, List.mapM_cons, h3] at h; simp at h
          | some v3 =>
            rw [List.mapM_cons, h0, List.mapM_cons, h1, List.mapM_cons, h2, List.mapM_cons, h3] at h
            simp at h
            exact ⟨v0, v1, v2, v3, h.symm, rfl, rfl, rfl, rfl⟩
  · cases h

/-- An address whose cells read has no spot: its cells lie one behind another. -/
theorem add_plain {a : Addr} {u : Value} (h : w.cell? (a.add 0) = some u) : ∃ b off, a = ⟨b, off, none⟩ := by
  obtain ⟨b, off, spot⟩ := a
  have h0 := World.cell?_spot h
  have : spot = none := by simpa [Addr.add] using h0
  subst this
  exact ⟨b, off, rfl⟩

theorem trod_three {P : Program} {t : TypeId} {f0 f1 f2 : Field} {fuel : Nat} {cs : List Value} {x : DataW H × List MemPlace} (ht : P.underlying t = some (.struct #[f0, f1, f2])) (h : DataW.trod enc P w base spare held fuel t cs = some x) :
    ∃ y0 y1 y2 n, cs.length = P.cellsOf t ∧ DataW.trod enc P w base spare held n f0.type ((cs.drop f0.offset).take (P.cellsOf f0.type)) = some y0 ∧
      DataW.trod enc P w base spare held n f1.type ((cs.drop f1.offset).take (P.cellsOf f1.type)) = some y1 ∧ DataW.trod enc P w base spare held n f2.type ((cs.drop f2.offset).take (P.cellsOf f2.type)) = some y2 := by
  obtain ⟨xs, n, _, rfl, hl, hlen, hf⟩ := DataW.trod_struct ht h
  match xs, hlen with
  | [y0, y1, y2], _ => exact ⟨y0, y1, y2, n, hl, by simpa using hf 0 f0 rfl, by simpa using hf 1 f1 rfl, by simpa using hf 2 f2 rfl⟩

theorem cells_str : Try.prog.cellsOf 9 = 1 := by kernel_rfl
theorem cells_num : Try.prog.cellsOf 2 = 1 := by kernel_rfl

def WfFm (d : FormD) : Prop := (-9223372036854775808 ≤ d.letters ∧ d.letters ≤ 9223372036854775807) ∧ WfL d.clauses
def WfCs (d : CaseD) : Prop := WfFm d.form ∧ WfL d.proof
def WfCL (ds : List CaseD) : Prop := ∀ d ∈ ds, WfCs d

end
end Go.Proofs.Ytkmbkjbammpdhaa

namespace Go.Proofs.Ytkmbkjbammpdhaa
open Go.ChangeShapes Go.WideShapes Go.ChangeAt Go.RowKit
set_option linter.unusedVariables false

def WfRL (ds : List RowsD) : Prop := True

section
variable {H : Type} {enc : TypeId × Value → H} {w : World} {base : Nat} {spare : Nat → Bool} {held : Bool}

set_option maxRecDepth 100000 in
theorem trod_Rw {fuel : Nat} {cs : List Value} {x : DataW H × List MemPlace} (h : DataW.trod enc Try.prog w base spare held fuel 24 cs = some x) : ∃ va vb vc d, cs = [.int .i64 d.vars, va, vb, vc] ∧ RdR w (.agg #[.int .i64 d.vars, va, vb, vc]) d := by
  obtain ⟨y0, y1, y2, y3, n, _, hl, h0, h1, h2, h3⟩ := Go.Joins.trod_struct4 Try.underlying24 h
  rw [cells_rows] at hl
  match cs, hl with
  | [a, b, c, e], _ =>
    rw [cells_floats] at h1 h2 h3
    rw [cells_i64'] at h0
    obtain ⟨z, e0⟩ := trod_i64 h0
    obtain ⟨vb, p, e1, r1, _⟩ := trod_F (w := w) h1
    obtain ⟨vc, q, e2, r2, _⟩ := trod_F (w := w) h2
    obtain ⟨vd, s, e3, r3, _⟩ := trod_F (w := w) h3
    simp at e0 e1 e2 e3
    subst e0 e1 e2 e3
    exact ⟨_, _, _, ⟨z, p, q, s⟩, rfl, _, _, _, rfl, r1, r2, r3⟩

set_option maxRecDepth 100000 in
theorem trod_RL {fuel : Nat} {cs : List Value} {x : DataW H × List MemPlace} (h : DataW.trod enc Try.prog w base spare held fuel 72 cs = some x) : ∃ v ds, cs = [v] ∧ RdRL w v ds := by
  rcases DataW.trod_slice Try.underlying72 h with ⟨rfl, _⟩ | ⟨a, len, cap, elems, rest, n, _, rfl, _, hb, hl, hm, hlen, hel, _, _⟩
  · exact ⟨_, [], rfl, .inl ⟨none, 0, rfl, by simp [maxLen], rfl⟩⟩
  · rw [cells_rows] at hel
    have hex : ∀ i, i < len → ∃ q : RowRL, (i = 0 → ∃ b off, a = ⟨b, off, none⟩) ∧ (∀ c u, (cellsRL q)[c]? = some u → w.cell? ((a.add (i * 4)).add c) = some u) ∧ RdR w (aggRL q) q.d := by
      intro i hi
      have h1 := hel i hi
      rw [List.getElem?_eq_getElem (by omega)] at h1
      cases hc : w.cells? base (a.add (i * 4)) 4 with
      | none => rw [hc] at h1; simp at h1
      | some cs' =>
        rw [hc] at h1
        simp only [Option.bind_some] at h1
        obtain ⟨v0, v1, v2, v3, rfl, q0, q1, q2, q3⟩ := cells_four hc
        obtain ⟨u1, u2, u3, d, e, r⟩ := trod_Rw h1
        simp at e
        obtain ⟨rfl, rfl, rfl, rfl⟩ := e
        refine ⟨⟨d, v1, v2, v3, 0, 0⟩, ?_, ?_, r⟩
        · rintro rfl
          obtain ⟨b, off, ha⟩ := add_plain q0
          exact ⟨b, off, by simpa [Addr.add] using ha⟩
        · intro c u hu
          match c, hu with
          | 0, hu => simp [cellsRL] at hu; subst hu; exact q0
          | 1, hu => simp [cellsRL] at hu; subst hu; exact q1
          | 2, hu => simp [cellsRL] at hu; subst hu; exact q2
          | 3, hu => simp [cellsRL] at hu; subst hu; exact q3
          | c + 4, hu => simp [cellsRL] at hu
    obtain ⟨l, hll, hlp⟩ := exists_list _ len hex
    by_cases hz : len = 0
    · subst hz
      exact ⟨_, [], rfl, .inl ⟨some a, cap, rfl, hm, rfl⟩⟩
    · have h0 : l[0]? = some (l[0]'(by omega)) := List.getElem?_eq_getElem (by omega)
      obtain ⟨b, off, rfl⟩ := (hlp 0 _ h0).1 rfl
      refine ⟨_, l.map (·.d), rfl, .inr ⟨b, off, cap, l, by simp [hll], by simp [hll]; omega, hm, rfl, fun i r hr => ⟨fun c u hu => ?_, (hlp i r hr).2.2⟩⟩⟩
      have h5 := (hlp i r hr).2.1 c u hu
      have e : ((⟨b, off, none⟩ : Addr).add (i * 4)).add c = ⟨b, off + i * 4 + c, none⟩ := by
        unfold Addr.add
        by_cases q1 : i * 4 = 0 <;> by_cases q2 : c = 0 <;> simp [q1, q2]
      rwa [e] at h5

set_option maxRecDepth 100000 in
theorem arg_RL {r : Reach} {b0 : Nat} {v : Value} {d : DataW H} {p : List MemPlace} (hv : Value.okWide Try.prog w r b0 72 v) (h : DataW.Trod enc Try.prog w base spare held 72 v d p) : ∃ ds, RdRL w v ds ∧ WfRL ds := by
  obtain ⟨a, len, cap, rfl⟩ := okWide_slice Try.underlying72 hv
  obtain ⟨fuel, hf⟩ := h
  obtain ⟨v, zs, e, h1⟩ := trod_RL hf
  simp [Value.cells] at e
  subst e
  exact ⟨zs, h1, trivial⟩
end
end Go.Proofs.Ytkmbkjbammpdhaa
