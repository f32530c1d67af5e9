/-
  FnSpans: texts joined: ValidRS, DeskS, Step, SortS.
-/
import Derived.Deep.RegionHeld3
import Derived.Deep.CutRange
import Derived.Test.YtkfiepiipigcmaaMFnSpansAA
import Derived.Test.YtkfiepiipigcmaaMFnSpansAE
import Derived.Test.YtkfiepiipigcmaaMFnSpansAF
namespace Go.Proofs.Ytkfiepiipigcmaa
open Go.RowKit

theorem l02Finite_qs (v : Value) (xs : List Nat) (w : World) (n : Nat) (h : RdF w v xs) :
    Calls Try.prog 139 #[v] (w.drewN n) fun e w'' => e = .returned (.bool (allFin xs)) ∧ ∃ m, w'' = w.drewN m := by
  refine (l02Finite_any v xs _ (h.drewN n)).mono ?_
  rintro e w' ⟨rfl, hd⟩
  exact ⟨rfl, drewN_then ⟨n, rfl⟩ hd⟩

/-- Cells that lie side by side. -/
def Cels (w : World) (b : Nat) (cs : Array Value) : Prop := ∀ (j : Nat) (u : Value), cs[j]? = some u → w.cell? ⟨b, j, none⟩ = some u
theorem Cels.cell {w : World} {b : Nat} {cs : Array Value} (h : Cels w b cs) (j : Nat) {u : Value} (hj : cs[j]? = some u) : w.cell? ⟨b, j, none⟩ = some u := h j u hj
theorem Blk.cels {w : World} {b : Nat} {t : TypeId} {cs : Array Value} (h : Blk w b t cs) : Cels w b cs := fun j _ hj => h.cell j hj

set_option maxHeartbeats 4000000 in
set_option maxRecDepth 4000 in
theorem LI_hA (bb : Nat) (n0 : Int) (x1 x2 x3 : List Nat) (a1 a2 a3 : Option Addr) (c1 c2 c3 : Nat) (w : World) (HK : Hid (Cels w bb #[.int .i64 n0, .slice a1 x1.length c1, .slice a2 x2.length c2, .slice a3 x3.length c3])) (P1 : Hid (RdF w (.slice a1 x1.length c1) x1)) (P2 : Hid (RdF w (.slice a2 x2.length c2) x2)) (P3 : Hid (RdF w (.slice a3 x3.length c3) x3)) (l1 : x1.length ≤ 9223372036854775807) (l2 : x2.length ≤ 9223372036854775807) (l3 : x3.length ≤ 9223372036854775807)
    (hA : ¬ (1 ≤ n0 ∧ n0 ≤ 8)) :
    Calls Try.prog 107 #[.pointer (some ⟨bb, 0, none⟩)] w fun e w' => e = .returned (.bool (validR ⟨n0, x1, x2, x3⟩)) ∧ ∃ m, w' = w.drewN m := by
  have hin := inB_false (lo := 1) (hi := 8) (n := n0) hA
  have HNO := Lib.hid (validR_false (r := ⟨n0, x1, x2, x3⟩) (fun h => hA ⟨h.v1, h.v8⟩))
  clear hA
  have d0 : w.cell? ⟨bb, 0, none⟩ = some (.int .i64 n0) := HK.out.cell 0 rfl
  have d1 : w.cell? ⟨bb, 1, none⟩ = some (.slice a1 x1.length c1) := HK.out.cell 1 rfl
  have d2 : w.cell? ⟨bb, 2, none⟩ = some (.slice a2 x2.length c2) := HK.out.cell 2 rfl
  have d3 : w.cell? ⟨bb, 3, none⟩ = some (.slice a3 x3.length c3) := HK.out.cell 3 rfl
  go_enter Try.func107, Try.ntmps107
  go_wp2_with fail
  go_quiet ((go_at_call 95; exact quiet_same (in_any _ _ _ _)))
  go_wp2_with fail
  go_ret
  exact ⟨by rw [HNO.out]; rfl, _, rfl⟩

set_option maxHeartbeats 4000000 in
set_option maxRecDepth 4000 in
theorem LI_hB (bb : Nat) (n0 : Int) (x1 x2 x3 : List Nat) (a1 a2 a3 : Option Addr) (c1 c2 c3 : Nat) (w : World) (HK : Hid (Cels w bb #[.int .i64 n0, .slice a1 x1.length c1, .slice a2 x2.length c2, .slice a3 x3.length c3])) (P1 : Hid (RdF w (.slice a1 x1.length c1) x1)) (P2 : Hid (RdF w (.slice a2 x2.length c2) x2)) (P3 : Hid (RdF w (.slice a3 x3.length c3) x3)) (l1 : x1.length ≤ 9223372036854775807) (l2 : x2.length ≤ 9223372036854775807) (l3 : x3.length ≤ 9223372036854775807)
    (hA : 1 ≤ n0 ∧ n0 ≤ 8) (hB : ¬ (1 ≤ x2.length)) :
    Calls Try.prog 107 #[.pointer (some ⟨bb, 0, none⟩)] w fun e w' => e = .returned (.bool (validR ⟨n0, x1, x2, x3⟩)) ∧ ∃ m, w' = w.drewN m := by
  have hin := inB_true (lo := 1) (hi := 8) (n := n0) hA
  have hb1 : decide ((x2.length : Int) < 1) = true := by simp; omega
  have HNO := Lib.hid (validR_false (r := ⟨n0, x1, x2, x3⟩) (fun h => hB h.b1))
  clear hA hB
  have d0 : w.cell? ⟨bb, 0, none⟩ = some (.int .i64 n0) := HK.out.cell 0 rfl
  have d1 : w.cell? ⟨bb, 1, none⟩ = some (.slice a1 x1.length c1) := HK.out.cell 1 rfl
  have d2 : w.cell? ⟨bb, 2, none⟩ = some (.slice a2 x2.length c2) := HK.out.cell 2 rfl
  have d3 : w.cell? ⟨bb, 3, none⟩ = some (.slice a3 x3.length c3) := HK.out.cell 3 rfl
  go_enter Try.func107, Try.ntmps107
  go_wp2_with fail
  go_quiet ((go_at_call 95; exact quiet_same (in_any _ _ _ _)))
  go_wp2_with fail
  go_ret
  exact ⟨by rw [HNO.out]; rfl, _, rfl⟩

set_option maxHeartbeats 4000000 in
set_option maxRecDepth 4000 in
theorem LI_hE (bb : Nat) (n0 : Int) (x1 x2 x3 : List Nat) (a1 a2 a3 : Option Addr) (c1 c2 c3 : Nat) (w : World) (HK : Hid (Cels w bb #[.int .i64 n0, .slice a1 x1.length c1, .slice a2 x2.length c2, .slice a3 x3.length c3])) (P1 : Hid (RdF w (.slice a1 x1.length c1) x1)) (P2 : Hid (RdF w (.slice a2 x2.length c2) x2)) (P3 : Hid (RdF w (.slice a3 x3.length c3) x3)) (l1 : x1.length ≤ 9223372036854775807) (l2 : x2.length ≤ 9223372036854775807) (l3 : x3.length ≤ 9223372036854775807)
    (hA : 1 ≤ n0 ∧ n0 ≤ 8) (hB : 1 ≤ x2.length) (hE : ¬ (x2.length ≤ 8)) :
    Calls Try.prog 107 #[.pointer (some ⟨bb, 0, none⟩)] w fun e w' => e = .returned (.bool (validR ⟨n0, x1, x2, x3⟩)) ∧ ∃ m, w' = w.drewN m := by
  have hin := inB_true (lo := 1) (hi := 8) (n := n0) hA
  have hb1 : decide ((x2.length : Int) < 1) = false := by simp; omega
  have hb8 : decide ((8 : Int) < x2.length) = true := by simp; omega
  have HNO := Lib.hid (validR_false (r := ⟨n0, x1, x2, x3⟩) (fun h => hE h.b8))
  clear hA hE
  have d0 : w.cell? ⟨bb, 0, none⟩ = some (.int .i64 n0) := HK.out.cell 0 rfl
  have d1 : w.cell? ⟨bb, 1, none⟩ = some (.slice a1 x1.length c1) := HK.out.cell 1 rfl
  have d2 : w.cell? ⟨bb, 2, none⟩ = some (.slice a2 x2.length c2) := HK.out.cell 2 rfl
  have d3 : w.cell? ⟨bb, 3, none⟩ = some (.slice a3 x3.length c3) := HK.out.cell 3 rfl
  go_enter Try.func107, Try.ntmps107
  go_wp2_with fail
  go_quiet ((go_at_call 95; exact quiet_same (in_any _ _ _ _)))
  go_wp2_with fail
  go_ret
  exact ⟨by rw [HNO.out]; rfl, _, rfl⟩

set_option maxHeartbeats 4000000 in
set_option maxRecDepth 4000 in
theorem LI_hC (bb : Nat) (n0 : Int) (x1 x2 x3 : List Nat) (a1 a2 a3 : Option Addr) (c1 c2 c3 : Nat) (w : World) (HK : Hid (Cels w bb #[.int .i64 n0, .slice a1 x1.length c1, .slice a2 x2.length c2, .slice a3 x3.length c3])) (P1 : Hid (RdF w (.slice a1 x1.length c1) x1)) (P2 : Hid (RdF w (.slice a2 x2.length c2) x2)) (P3 : Hid (RdF w (.slice a3 x3.length c3) x3)) (l1 : x1.length ≤ 9223372036854775807) (l2 : x2.length ≤ 9223372036854775807) (l3 : x3.length ≤ 9223372036854775807)
    (hA : 1 ≤ n0 ∧ n0 ≤ 8) (hB : 1 ≤ x2.length) (hE : x2.length ≤ 8) (hC : ¬ ((x3.length : Int) = n0)) :
    Calls Try.prog 107 #[.pointer (some ⟨bb, 0, none⟩)] w fun e w' => e = .returned (.bool (validR ⟨n0, x1, x2, x3⟩)) ∧ ∃ m, w' = w.drewN m := by
  have hin := inB_true (lo := 1) (hi := 8) (n := n0) hA
  have hb1 : decide ((x2.length : Int) < 1) = false := by simp; omega
  have hb8 : decide ((8 : Int) < x2.length) = false := by simp; omega
  have hcb : ((x3.length : Int) != n0) = true := by simp [hC]
  have HNO := Lib.hid (validR_false (r := ⟨n0, x1, x2, x3⟩) (fun h => hC h.gl))
  clear hA hC
  have d0 : w.cell? ⟨bb, 0, none⟩ = some (.int .i64 n0) := HK.out.cell 0 rfl
  have d1 : w.cell? ⟨bb, 1, none⟩ = some (.slice a1 x1.length c1) := HK.out.cell 1 rfl
  have d2 : w.cell? ⟨bb, 2, none⟩ = some (.slice a2 x2.length c2) := HK.out.cell 2 rfl
  have d3 : w.cell? ⟨bb, 3, none⟩ = some (.slice a3 x3.length c3) := HK.out.cell 3 rfl
  go_enter Try.func107, Try.ntmps107
  go_wp2_with fail
  go_quiet ((go_at_call 95; exact quiet_same (in_any _ _ _ _)))
  go_wp2_with fail
  go_ret
  exact ⟨by rw [HNO.out]; rfl, _, rfl⟩

set_option maxHeartbeats 4000000 in
set_option maxRecDepth 4000 in
theorem LI_hD (bb : Nat) (n0 : Int) (x1 x2 x3 : List Nat) (a1 a2 a3 : Option Addr) (c1 c2 c3 : Nat) (w : World) (HK : Hid (Cels w bb #[.int .i64 n0, .slice a1 x1.length c1, .slice a2 x2.length c2, .slice a3 x3.length c3])) (P1 : Hid (RdF w (.slice a1 x1.length c1) x1)) (P2 : Hid (RdF w (.slice a2 x2.length c2) x2)) (P3 : Hid (RdF w (.slice a3 x3.length c3) x3)) (l1 : x1.length ≤ 9223372036854775807) (l2 : x2.length ≤ 9223372036854775807) (l3 : x3.length ≤ 9223372036854775807)
    (hA : 1 ≤ n0 ∧ n0 ≤ 8) (hB : 1 ≤ x2.length) (hE : x2.length ≤ 8) (hC : (x3.length : Int) = n0) (hD : ¬ ((x1.length : Int) = n0 * x2.length)) :
    Calls Try.prog 107 #[.pointer (some ⟨bb, 0, none⟩)] w fun e w' => e = .returned (.bool (validR ⟨n0, x1, x2, x3⟩)) ∧ ∃ m, w' = w.drewN m := by
  have hin := inB_true (lo := 1) (hi := 8) (n := n0) hA
  have hb1 : decide ((x2.length : Int) < 1) = false := by simp; omega
  have hb8 : decide ((8 : Int) < x2.length) = false := by simp; omega
  have hcb : ((x3.length : Int) != n0) = false := by simp [hC]
  obtain ⟨M, hM⟩ : ∃ M : Int, M = n0 * x2.length := ⟨_, rfl⟩
  have hM0 : 0 ≤ M ∧ M ≤ 64 := by have := mulR hA.1 hA.2 hE; omega
  have hmul : IntKind.i64.wrap (n0 * (x2.length : Int)) = M := by rw [IntWalk.i64_in _ (by omega), hM]
  have hdb : ((x1.length : Int) != M) = true := by rw [hM]; simp [hD]
  have HM := Lib.hid hM
  clear hM
  have HNO := Lib.hid (validR_false (r := ⟨n0, x1, x2, x3⟩) (fun h => hD h.nl))
  clear hA hC hD
  have d0 : w.cell? ⟨bb, 0, none⟩ = some (.int .i64 n0) := HK.out.cell 0 rfl
  have d1 : w.cell? ⟨bb, 1, none⟩ = some (.slice a1 x1.length c1) := HK.out.cell 1 rfl
  have d2 : w.cell? ⟨bb, 2, none⟩ = some (.slice a2 x2.length c2) := HK.out.cell 2 rfl
  have d3 : w.cell? ⟨bb, 3, none⟩ = some (.slice a3 x3.length c3) := HK.out.cell 3 rfl
  go_enter Try.func107, Try.ntmps107
  go_wp2_with fail
  go_quiet ((go_at_call 95; exact quiet_same (in_any _ _ _ _)))
  obtain ⟨W2, hW2⟩ : ∃ W2, W2 = w.drewN nq := ⟨_, rfl⟩
  rw [← hW2]
  have HK2 := Lib.hid (show Cels W2 bb #[.int .i64 n0, .slice a1 x1.length c1, .slice a2 x2.length c2, .slice a3 x3.length c3] by subst hW2; exact HK.out)
  have Q1 := Lib.hid (show RdF W2 _ x1 by subst hW2; exact P1.out.drewN _)
  have Q2 := Lib.hid (show RdF W2 _ x2 by subst hW2; exact P2.out.drewN _)
  have Q3 := Lib.hid (show RdF W2 _ x3 by subst hW2; exact P3.out.drewN _)
  have HD2 := Lib.hid (show ∃ m, W2 = w.drewN m from ⟨_, hW2⟩)
  clear hW2 d0 d1 d2 d3
  have d0 : W2.cell? ⟨bb, 0, none⟩ = some (.int .i64 n0) := HK2.out.cell 0 rfl
  have d1 : W2.cell? ⟨bb, 1, none⟩ = some (.slice a1 x1.length c1) := HK2.out.cell 1 rfl
  have d2 : W2.cell? ⟨bb, 2, none⟩ = some (.slice a2 x2.length c2) := HK2.out.cell 2 rfl
  have d3 : W2.cell? ⟨bb, 3, none⟩ = some (.slice a3 x3.length c3) := HK2.out.cell 3 rfl
  go_wp2_with fail
  go_quiet (first
    | (go_at_call 139; exact l02Finite_qs _ x1 _ _ Q1.out)
    | (go_at_call 139; exact l02Finite_qs _ x3 _ _ Q3.out))
  go_wp2_with fail
  go_ret
  exact ⟨by rw [HNO.out]; rfl, drewN_ex HD2.out _⟩

set_option maxHeartbeats 4000000 in
set_option maxRecDepth 4000 in
theorem LI_hF (bb : Nat) (n0 : Int) (x1 x2 x3 : List Nat) (a1 a2 a3 : Option Addr) (c1 c2 c3 : Nat) (w : World) (HK : Hid (Cels w bb #[.int .i64 n0, .slice a1 x1.length c1, .slice a2 x2.length c2, .slice a3 x3.length c3])) (P1 : Hid (RdF w (.slice a1 x1.length c1) x1)) (P2 : Hid (RdF w (.slice a2 x2.length c2) x2)) (P3 : Hid (RdF w (.slice a3 x3.length c3) x3)) (l1 : x1.length ≤ 9223372036854775807) (l2 : x2.length ≤ 9223372036854775807) (l3 : x3.length ≤ 9223372036854775807)
    (hA : 1 ≤ n0 ∧ n0 ≤ 8) (hB : 1 ≤ x2.length) (hE : x2.length ≤ 8) (hC : (x3.length : Int) = n0) (hD : (x1.length : Int) = n0 * x2.length) (hF : ¬ (allFin x1 = true)) :
    Calls Try.prog 107 #[.pointer (some ⟨bb, 0, none⟩)] w fun e w' => e = .returned (.bool (validR ⟨n0, x1, x2, x3⟩)) ∧ ∃ m, w' = w.drewN m := by
  have hin := inB_true (lo := 1) (hi := 8) (n := n0) hA
  have hb1 : decide ((x2.length : Int) < 1) = false := by simp; omega
  have hb8 : decide ((8 : Int) < x2.length) = false := by simp; omega
  have hcb : ((x3.length : Int) != n0) = false := by simp [hC]
  obtain ⟨M, hM⟩ : ∃ M : Int, M = n0 * x2.length := ⟨_, rfl⟩
  have hM0 : 0 ≤ M ∧ M ≤ 64 := by have := mulR hA.1 hA.2 hE; omega
  have hmul : IntKind.i64.wrap (n0 * (x2.length : Int)) = M := by rw [IntWalk.i64_in _ (by omega), hM]
  have hdb : ((x1.length : Int) != M) = false := by rw [hM]; simp [hD]
  have HM := Lib.hid hM
  clear hM
  have hfb : allFin x1 = false := by simpa using hF
  have HNO := Lib.hid (validR_false (r := ⟨n0, x1, x2, x3⟩) (fun h => hF h.fn))
  clear hA hC hD hF
  have d0 : w.cell? ⟨bb, 0, none⟩ = some (.int .i64 n0) := HK.out.cell 0 rfl
  have d1 : w.cell? ⟨bb, 1, none⟩ = some (.slice a1 x1.length c1) := HK.out.cell 1 rfl
  have d2 : w.cell? ⟨bb, 2, none⟩ = some (.slice a2 x2.length c2) := HK.out.cell 2 rfl
  have d3 : w.cell? ⟨bb, 3, none⟩ = some (.slice a3 x3.length c3) := HK.out.cell 3 rfl
  go_enter Try.func107, Try.ntmps107
  go_wp2_with fail
  go_quiet ((go_at_call 95; exact quiet_same (in_any _ _ _ _)))
  obtain ⟨W2, hW2⟩ : ∃ W2, W2 = w.drewN nq := ⟨_, rfl⟩
  rw [← hW2]
  have HK2 := Lib.hid (show Cels W2 bb #[.int .i64 n0, .slice a1 x1.length c1, .slice a2 x2.length c2, .slice a3 x3.length c3] by subst hW2; exact HK.out)
  have Q1 := Lib.hid (show RdF W2 _ x1 by subst hW2; exact P1.out.drewN _)
  have Q2 := Lib.hid (show RdF W2 _ x2 by subst hW2; exact P2.out.drewN _)
  have Q3 := Lib.hid (show RdF W2 _ x3 by subst hW2; exact P3.out.drewN _)
  have HD2 := Lib.hid (show ∃ m, W2 = w.drewN m from ⟨_, hW2⟩)
  clear hW2 d0 d1 d2 d3
  have d0 : W2.cell? ⟨bb, 0, none⟩ = some (.int .i64 n0) := HK2.out.cell 0 rfl
  have d1 : W2.cell? ⟨bb, 1, none⟩ = some (.slice a1 x1.length c1) := HK2.out.cell 1 rfl
  have d2 : W2.cell? ⟨bb, 2, none⟩ = some (.slice a2 x2.length c2) := HK2.out.cell 2 rfl
  have d3 : W2.cell? ⟨bb, 3, none⟩ = some (.slice a3 x3.length c3) := HK2.out.cell 3 rfl
  go_wp2_with fail
  go_quiet (first
    | (go_at_call 139; exact l02Finite_qs _ x1 _ _ Q1.out)
    | (go_at_call 139; exact l02Finite_qs _ x3 _ _ Q3.out))
  go_wp2_with fail
  go_ret
  exact ⟨by rw [HNO.out]; rfl, drewN_ex HD2.out _⟩

set_option maxHeartbeats 4000000 in
set_option maxRecDepth 4000 in
theorem LI_hG (bb : Nat) (n0 : Int) (x1 x2 x3 : List Nat) (a1 a2 a3 : Option Addr) (c1 c2 c3 : Nat) (w : World) (HK : Hid (Cels w bb #[.int .i64 n0, .slice a1 x1.length c1, .slice a2 x2.length c2, .slice a3 x3.length c3])) (P1 : Hid (RdF w (.slice a1 x1.length c1) x1)) (P2 : Hid (RdF w (.slice a2 x2.length c2) x2)) (P3 : Hid (RdF w (.slice a3 x3.length c3) x3)) (l1 : x1.length ≤ 9223372036854775807) (l2 : x2.length ≤ 9223372036854775807) (l3 : x3.length ≤ 9223372036854775807)
    (hA : 1 ≤ n0 ∧ n0 ≤ 8) (hB : 1 ≤ x2.length) (hE : x2.length ≤ 8) (hC : (x3.length : Int) = n0) (hD : (x1.length : Int) = n0 * x2.length) (hF : allFin x1 = true) (hG : ¬ (allFin x3 = true)) :
    Calls Try.prog 107 #[.pointer (some ⟨bb, 0, none⟩)] w fun e w' => e = .returned (.bool (validR ⟨n0, x1, x2, x3⟩)) ∧ ∃ m, w' = w.drewN m := by
  have hin := inB_true (lo := 1) (hi := 8) (n := n0) hA
  have hb1 : decide ((x2.length : Int) < 1) = false := by simp; omega
  have hb8 : decide ((8 : Int) < x2.length) = false := by simp; omega
  have hcb : ((x3.length : Int) != n0) = false := by simp [hC]
  obtain ⟨M, hM⟩ : ∃ M : Int, M = n0 * x2.length := ⟨_, rfl⟩
  have hM0 : 0 ≤ M ∧ M ≤ 64 := by have := mulR hA.1 hA.2 hE; omega
  have hmul : IntKind.i64.wrap (n0 * (x2.length : Int)) = M := by rw [IntWalk.i64_in _ (by omega), hM]
  have hdb : ((x1.length : Int) != M) = false := by rw [hM]; simp [hD]
  have HM := Lib.hid hM
  clear hM
  have hgb : allFin x3 = false := by simpa using hG
  have HNO := Lib.hid (validR_false (r := ⟨n0, x1, x2, x3⟩) (fun h => hG h.fg))
  clear hA hC hD hG
  have d0 : w.cell? ⟨bb, 0, none⟩ = some (.int .i64 n0) := HK.out.cell 0 rfl
  have d1 : w.cell? ⟨bb, 1, none⟩ = some (.slice a1 x1.length c1) := HK.out.cell 1 rfl
  have d2 : w.cell? ⟨bb, 2, none⟩ = some (.slice a2 x2.length c2) := HK.out.cell 2 rfl
  have d3 : w.cell? ⟨bb, 3, none⟩ = some (.slice a3 x3.length c3) := HK.out.cell 3 rfl
  go_enter Try.func107, Try.ntmps107
  go_wp2_with fail
  go_quiet ((go_at_call 95; exact quiet_same (in_any _ _ _ _)))
  obtain ⟨W2, hW2⟩ : ∃ W2, W2 = w.drewN nq := ⟨_, rfl⟩
  rw [← hW2]
  have HK2 := Lib.hid (show Cels W2 bb #[.int .i64 n0, .slice a1 x1.length c1, .slice a2 x2.length c2, .slice a3 x3.length c3] by subst hW2; exact HK.out)
  have Q1 := Lib.hid (show RdF W2 _ x1 by subst hW2; exact P1.out.drewN _)
  have Q2 := Lib.hid (show RdF W2 _ x2 by subst hW2; exact P2.out.drewN _)
  have Q3 := Lib.hid (show RdF W2 _ x3 by subst hW2; exact P3.out.drewN _)
  have HD2 := Lib.hid (show ∃ m, W2 = w.drewN m from ⟨_, hW2⟩)
  clear hW2 d0 d1 d2 d3
  have d0 : W2.cell? ⟨bb, 0, none⟩ = some (.int .i64 n0) := HK2.out.cell 0 rfl
  have d1 : W2.cell? ⟨bb, 1, none⟩ = some (.slice a1 x1.length c1) := HK2.out.cell 1 rfl
  have d2 : W2.cell? ⟨bb, 2, none⟩ = some (.slice a2 x2.length c2) := HK2.out.cell 2 rfl
  have d3 : W2.cell? ⟨bb, 3, none⟩ = some (.slice a3 x3.length c3) := HK2.out.cell 3 rfl
  go_wp2_with fail
  go_quiet (first
    | (go_at_call 139; exact l02Finite_qs _ x1 _ _ Q1.out)
    | (go_at_call 139; exact l02Finite_qs _ x3 _ _ Q3.out))
  go_wp2_with fail
  go_ret
  exact ⟨by rw [HNO.out]; rfl, drewN_ex HD2.out _⟩

set_option maxHeartbeats 4000000 in
set_option maxRecDepth 4000 in
theorem LI_yes (bb : Nat) (n0 : Int) (x1 x2 x3 : List Nat) (a1 a2 a3 : Option Addr) (c1 c2 c3 : Nat) (w : World) (HK : Hid (Cels w bb #[.int .i64 n0, .slice a1 x1.length c1, .slice a2 x2.length c2, .slice a3 x3.length c3])) (P1 : Hid (RdF w (.slice a1 x1.length c1) x1)) (P2 : Hid (RdF w (.slice a2 x2.length c2) x2)) (P3 : Hid (RdF w (.slice a3 x3.length c3) x3)) (l1 : x1.length ≤ 9223372036854775807) (l2 : x2.length ≤ 9223372036854775807) (l3 : x3.length ≤ 9223372036854775807)
    (hA : 1 ≤ n0 ∧ n0 ≤ 8) (hB : 1 ≤ x2.length) (hE : x2.length ≤ 8) (hC : (x3.length : Int) = n0) (hD : (x1.length : Int) = n0 * x2.length) (hF : allFin x1 = true) (hG : allFin x3 = true)  :
    Calls Try.prog 107 #[.pointer (some ⟨bb, 0, none⟩)] w fun e w' => e = .returned (.bool (validR ⟨n0, x1, x2, x3⟩)) ∧ ∃ m, w' = w.drewN m := by
  have hin := inB_true (lo := 1) (hi := 8) (n := n0) hA
  have hb1 : decide ((x2.length : Int) < 1) = false := by simp; omega
  have hb8 : decide ((8 : Int) < x2.length) = false := by simp; omega
  have hcb : ((x3.length : Int) != n0) = false := by simp [hC]
  obtain ⟨M, hM⟩ : ∃ M : Int, M = n0 * x2.length := ⟨_, rfl⟩
  have hM0 : 0 ≤ M ∧ M ≤ 64 := by have := mulR hA.1 hA.2 hE; omega
  have hmul : IntKind.i64.wrap (n0 * (x2.length : Int)) = M := by rw [IntWalk.i64_in _ (by omega), hM]
  have hdb : ((x1.length : Int) != M) = false := by rw [hM]; simp [hD]
  have HM := Lib.hid hM
  clear hM
  have HA := Lib.hid hA
  have HB := Lib.hid hB
  have HE := Lib.hid hE
  have HC := Lib.hid hC
  have HD := Lib.hid hD
  have HF := Lib.hid hF
  have HG := Lib.hid hG
  clear hA hC hD
  have d0 : w.cell? ⟨bb, 0, none⟩ = some (.int .i64 n0) := HK.out.cell 0 rfl
  have d1 : w.cell? ⟨bb, 1, none⟩ = some (.slice a1 x1.length c1) := HK.out.cell 1 rfl
  have d2 : w.cell? ⟨bb, 2, none⟩ = some (.slice a2 x2.length c2) := HK.out.cell 2 rfl
  have d3 : w.cell? ⟨bb, 3, none⟩ = some (.slice a3 x3.length c3) := HK.out.cell 3 rfl
  go_enter Try.func107, Try.ntmps107
  go_wp2_with fail
  go_quiet ((go_at_call 95; exact quiet_same (in_any _ _ _ _)))
  obtain ⟨W2, hW2⟩ : ∃ W2, W2 = w.drewN nq := ⟨_, rfl⟩
  rw [← hW2]
  have HK2 := Lib.hid (show Cels W2 bb #[.int .i64 n0, .slice a1 x1.length c1, .slice a2 x2.length c2, .slice a3 x3.length c3] by subst hW2; exact HK.out)
  have Q1 := Lib.hid (show RdF W2 _ x1 by subst hW2; exact P1.out.drewN _)
  have Q2 := Lib.hid (show RdF W2 _ x2 by subst hW2; exact P2.out.drewN _)
  have Q3 := Lib.hid (show RdF W2 _ x3 by subst hW2; exact P3.out.drewN _)
  have HD2 := Lib.hid (show ∃ m, W2 = w.drewN m from ⟨_, hW2⟩)
  clear hW2 d0 d1 d2 d3
  have d0 : W2.cell? ⟨bb, 0, none⟩ = some (.int .i64 n0) := HK2.out.cell 0 rfl
  have d1 : W2.cell? ⟨bb, 1, none⟩ = some (.slice a1 x1.length c1) := HK2.out.cell 1 rfl
  have d2 : W2.cell? ⟨bb, 2, none⟩ = some (.slice a2 x2.length c2) := HK2.out.cell 2 rfl
  have d3 : W2.cell? ⟨bb, 3, none⟩ = some (.slice a3 x3.length c3) := HK2.out.cell 3 rfl
  go_wp2_with fail
  go_quiet (first
    | (go_at_call 139; exact l02Finite_qs _ x1 _ _ Q1.out)
    | (go_at_call 139; exact l02Finite_qs _ x3 _ _ Q3.out))
  obtain ⟨W3, hW3⟩ : ∃ W3, W3 = W2.drewN nq := ⟨_, rfl⟩
  rw [← hW3]
  have HK3 := Lib.hid (show Cels W3 bb #[.int .i64 n0, .slice a1 x1.length c1, .slice a2 x2.length c2, .slice a3 x3.length c3] by subst hW3; exact HK2.out)
  have R2 := Lib.hid (show RdF W3 _ x2 by subst hW3; exact Q2.out.drewN _)
  have HD3 := Lib.hid (show ∃ m, W3 = w.drewN m by subst hW3; exact drewN_ex HD2.out _)
  clear hW3 d0 d1 d2 d3 hF hG hin hb1 hb8 hcb hdb hmul hM0
  go_wp2_with fail
  go_loopw [3] (fun i wr => ∃ k : Nat, i = .int .i64 k ∧ k ≤ x2.length ∧ Hid (∀ j, j < k → least (x2.getD j 0) = true) ∧ Hid (∃ m, wr = W3.drewN m)) (fun i _ => x2.length - (intOf i).toNat)
  case atStart => exact ⟨0, rfl, Nat.zero_le _, fun j hj => by omega, 0, rfl⟩
  case round =>
    obtain ⟨k, rfl, hk, hall, hd⟩ := hrel
    have d2 : wr.cell? ⟨bb, 2, none⟩ = some (.slice a2 x2.length c2) := by
      obtain ⟨m, rfl⟩ := hd.out
      exact HK3.out.cell 2 rfl
    by_cases hlt : k < x2.length
    · obtain ⟨b, off, rfl, _, hc⟩ := (rdF_drew R2.out hd.out).at hlt
      obtain ⟨x, hx⟩ : ∃ x, x = x2.getD k 0 := ⟨_, rfl⟩
      rw [← hx] at hc
      have HX := Lib.hid hx
      clear hx
      go_wp2_with fail
      refine (l02Least_any x wr).mono ?_
      rintro e w1 ⟨rfl, hd1⟩
      have HD4 := Lib.hid (drewN_then hd.out hd1)
      clear hd1 hc d2
      by_cases hf : least x = true
      · rw [hf]
        go_wp2_with fail
        go_roundw
        case rel => exact ⟨k + 1, by go_num, by omega, fun j hj => by
          rcases Nat.lt_succ_iff_lt_or_eq.1 hj with h | rfl
          · exact hall.out j h
          · rw [← HX.out]; exact hf, HD4.out⟩
        case measure => simp [intOf]; omega
      · rw [Bool.not_eq_true] at hf
        have HNO := Lib.hid (validR_false (r := ⟨n0, x1, x2, x3⟩) (fun h => by
          have h1 := h.lb k hlt
          simp only at h1
          rw [← HX.out, hf] at h1
          cases h1))
        rw [hf]
        go_wp2_with fail
        go_ret
        exact ⟨by rw [HNO.out]; rfl, drewN_then HD3.out HD4.out⟩
    · obtain rfl : k = x2.length := by omega
      have HV := Lib.hid (validR_true (r := ⟨n0, x1, x2, x3⟩) ⟨HA.out.1, HA.out.2, HB.out, HE.out, HC.out, HD.out, HF.out, HG.out, hall.out⟩)
      go_wp2_with fail
      go_ret
      exact ⟨by rw [HV.out]; rfl, drewN_then HD3.out hd.out⟩

theorem l02Is_cels (bb : Nat) (v0 v1 v2 v3 : Value) (r : RowsD) (w : World) (hk : Cels w bb #[v0, v1, v2, v3]) (h : RdR w (.agg #[v0, v1, v2, v3]) r) :
    Calls Try.prog 107 #[.pointer (some ⟨bb, 0, none⟩)] w fun e w' => e = .returned (.bool (validR r)) ∧ ∃ m, w' = w.drewN m := by
  obtain ⟨a1, c1, a2, c2, a3, c3, e⟩ := h.shape
  obtain ⟨p1, p2, p3⟩ := h.parts
  simp only [Value.agg.injEq, Array.mk.injEq, List.cons.injEq, and_true] at e
  obtain ⟨rfl, rfl, rfl, rfl⟩ := e
  obtain ⟨n0, x1, x2, x3⟩ := r
  simp only at p1 p2 p3 hk ⊢
  have l1 := p1.len
  have l2 := p2.len
  have l3 := p3.len
  unfold maxLen at l1 l2 l3
  have P1 := Lib.hid p1
  have P2 := Lib.hid p2
  have P3 := Lib.hid p3
  have HK := Lib.hid hk
  clear h p1 p2 p3
  by_cases hA : 1 ≤ n0 ∧ n0 ≤ 8
  case neg => exact LI_hA bb n0 x1 x2 x3 a1 a2 a3 c1 c2 c3 w HK P1 P2 P3 (by omega) (by omega) (by omega) hA
  by_cases hB : 1 ≤ x2.length
  case neg => exact LI_hB bb n0 x1 x2 x3 a1 a2 a3 c1 c2 c3 w HK P1 P2 P3 (by omega) (by omega) (by omega) hA hB
  by_cases hE : x2.length ≤ 8
  case neg => exact LI_hE bb n0 x1 x2 x3 a1 a2 a3 c1 c2 c3 w HK P1 P2 P3 (by omega) (by omega) (by omega) hA hB hE
  by_cases hC : (x3.length : Int) = n0
  case neg => exact LI_hC bb n0 x1 x2 x3 a1 a2 a3 c1 c2 c3 w HK P1 P2 P3 (by omega) (by omega) (by omega) hA hB hE hC
  by_cases hD : (x1.length : Int) = n0 * x2.length
  case neg => exact LI_hD bb n0 x1 x2 x3 a1 a2 a3 c1 c2 c3 w HK P1 P2 P3 (by omega) (by omega) (by omega) hA hB hE hC hD
  by_cases hF : allFin x1 = true
  case neg => exact LI_hF bb n0 x1 x2 x3 a1 a2 a3 c1 c2 c3 w HK P1 P2 P3 (by omega) (by omega) (by omega) hA hB hE hC hD hF
  by_cases hG : allFin x3 = true
  case neg => exact LI_hG bb n0 x1 x2 x3 a1 a2 a3 c1 c2 c3 w HK P1 P2 P3 (by omega) (by omega) (by omega) hA hB hE hC hD hF hG
  exact LI_yes bb n0 x1 x2 x3 a1 a2 a3 c1 c2 c3 w HK P1 P2 P3 (by omega) (by omega) (by omega) hA hB hE hC hD hF hG

theorem l02Is_any (bb : Nat) (v0 v1 v2 v3 : Value) (r : RowsD) (w : World) (hk : Blk w bb 67 #[v0, v1, v2, v3]) (h : RdR w (.agg #[v0, v1, v2, v3]) r) :
    Calls Try.prog 107 #[.pointer (some ⟨bb, 0, none⟩)] w fun e w' => e = .returned (.bool (validR r)) ∧ ∃ m, w' = w.drewN m := l02Is_cels bb v0 v1 v2 v3 r w hk.cels h

end Go.Proofs.Ytkfiepiipigcmaa

namespace Go.Proofs.Ytkfiepiipigcmaa
open Go.RowKit

theorem jobB_s (j : JobD) : jobB j = (inB 1 1000 j.long && (inB 0 100000 j.due && (inB 0 1000 j.weight && inB 0 100000 j.ready))) := by
  unfold jobB; rw [Bool.and_comm (inB 0 100000 j.ready)]

end Go.Proofs.Ytkfiepiipigcmaa

namespace Go.Proofs.Ytkfiepiipigcmaa
open Go.RowKit

theorem wp_app_ints {w : World} {o : Oper} {a : Act} {K : Act → World → Prop} {Q : Exit → Act → World → Prop} (s x : Operand)
    (ho : o.op = .call { callee := .builtin .append, args := #[s, x], argTypes := #[24, 24] })
    (base : Nat) (v : Value) (n : Nat) (xs : List Int) (hs : a.eval s = v) (hown : w.ownsRow base 2 1 v n (xs.map I64))
    (sv : Value) (news : List Int) (hx : a.eval x = sv) (hsv : Slc w sv (news.map I64)) (m : Nat) (ys : List Int) (hm : m = n + news.length) (hys : ys = xs ++ news) (hlen : m ≤ 17592186044416) (hbase : base ≤ w.heap.size)
    (h : ∀ a' cap' w', w'.ownsRow base 2 1 (.slice a' m cap') m (ys.map I64) → Below base w w' → w.grownBy w' v.ownBlock → (Value.slice a' m cap' = .slice none 0 0 ↔ v = .slice none 0 0 ∧ news = []) → K (a.put o.dst (.slice a' m cap')) w') :
    o.wp Try.prog a w K Q := by
  obtain ⟨i0, hi, hz0, hz1, hz2⟩ := info_parts Try.infoI64
  subst hm hys
  have hk : ∀ v' w', w'.ownsRow base 2 1 v' (n + news.length) (xs.map I64 ++ news.map I64) → w.grownBy w' v.ownBlock → (v' = .slice none 0 0 ↔ v = .slice none 0 0 ∧ news = []) → K (a.put o.dst v') w' := by
    intro v' w' h1 h2 h3
    have h1' : w'.ownsRow base 2 1 v' (n + news.length) ((xs ++ news).map I64) := by simpa using h1
    obtain ⟨a', cap', rfl⟩ := owns_shape h1'
    exact h a' cap' w' h1' (below_grown hown hbase h2) h2 h3
  rcases hsv with ⟨rfl, hnil⟩ | ⟨ad, cap, rfl, hcl, hcm, hc⟩
  · have hn : news = [] := by simpa using hnil
    subst hn
    have hrun := run_append_owned_none (P := Try.prog) (w := w) base 24 o.type 2 i0 1 Try.underlying24 hi v n (xs.map I64) hown
    unfold Oper.wp
    simp [execOp, ho, resolve, invoke, builtin, hs, hx, hrun, Result.andThen]
    exact hk v w (by simpa using hown) (World.grownBy.refl _ _) (by simp)
  · refine wp_append_own w s x 24 ho base 2 i0 (.int .i64 0) 1 8 Try.underlying24 hi hz0 hz1 hz2 rfl (by decide) v n (xs.map I64) hs hown ad (news.map I64).length cap (news.map I64) hx (by simp) hc (i64_one news) (by simp [maxLen]; omega) (by simp; omega) hbase ?_
    intro v' w' h2 h3 h4
    exact hk v' w' (by simpa using h2) h3 (by rw [h4]; simp)

theorem step_app_own {w : World} {ops : Array Oper} {o : Oper} {a : Act} {K : Act → World → Prop} {Q : Exit → Act → World → Prop} {E : Prop} (hgd : o.guard = none) (s x : Operand)
    (ho : o.op = .call { callee := .builtin .append, args := #[s, x], argTypes := #[24, 24] })
    (base : Nat) (ad : Addr) (n cap : Nat) (xs : List Int) (hs : a.eval s = .slice (some ad) n cap) (hown : w.ownsRow base 2 1 (.slice (some ad) n cap) n (xs.map I64))
    (sv : Value) (news : List Int) (hx : a.eval x = sv) (hsv : Slc w sv (news.map I64)) (m : Nat) (ys : List Int) (hm : m = n + news.length) (hys : ys = xs ++ news) (hlen : m ≤ 17592186044416) (hbase : base ≤ w.heap.size)
    (h : ∀ g cap' w', w'.ownsRow base 2 1 (.slice (some ⟨g, 0, none⟩) m cap') m (ys.map I64) → Below base w w' → w.grownBy w' (Value.slice (some ad) n cap).ownBlock → K (a.put o.dst (.slice (some ⟨g, 0, none⟩) m cap')) w') :
    if Region.wanted o (yielded ops a.tmps) = true then Oper.wp Try.prog o a w K Q else E := by
  have hw : Region.wanted o (yielded ops a.tmps) = true := by simp [Region.wanted, hgd]
  rw [if_pos hw]
  refine wp_app_ints s x ho base _ n xs hs hown sv news hx hsv m ys hm hys hlen hbase ?_
  intro a' cap' w' h1 h2 h3 h4
  obtain ⟨g, c, e, _⟩ := owns_some h1 (by intro e; have := h4.1 e; simp at this)
  simp only [Value.slice.injEq, true_and] at e
  obtain ⟨rfl, rfl⟩ := e
  exact h g _ w' h1 h2 h3

/-- A slice in one block reads on where this block is kept. -/
theorem slc_keptB {S : Nat → Prop} {w w' : World} {ad : Addr} {n cap : Nat} {vs : List Value} (h : Slc w (.slice (some ad) n cap) vs) (hk : Kept S w w') (hs : ¬ S ad.block) : Slc w' (.slice (some ad) n cap) vs := by
  rcases h with ⟨e1, _⟩ | ⟨ad2, cap2, e1, h1, h2, hc⟩
  · simp at e1
  · simp only [Value.slice.injEq, Option.some.injEq] at e1
    obtain ⟨rfl, rfl, rfl⟩ := e1
    refine .inr ⟨ad, cap, rfl, h1, h2, fun i u hi => ?_⟩
    have h0 := hc i u hi
    rw [hk.cell (cell_lt h0) (by rw [addr_add_block]; exact hs)]
    exact h0

/-- A new row of one stays as it is behind an append to another. -/
theorem slc_grown {w w' : World} {ad : Addr} {n cap : Nat} {vs : List Value} {row : Option Nat} (h : Slc w (.slice (some ad) n cap) vs) (hg : w.grownBy w' row) (hne : row ≠ some ad.block) : Slc w' (.slice (some ad) n cap) vs :=
  slc_keptB (S := fun k => row = some k) h ⟨hg.os, hg.tape, hg.output, hg.size, fun k hk hn => hg.block k hk fun e => hn e.symm⟩ hne

theorem slc_drew {w : World} {v : Value} {vs : List Value} (h : Slc w v vs) : Slc w.drew v vs := h
theorem slc_alloc {w : World} {v : Value} {vs : List Value} (h : Slc w v vs) (o : Obj) : Slc (w.alloc o) v vs := h.below ((Below.refl _ _).alloc (Nat.le_refl _) _) (Nat.le_refl _)

theorem slc_oneB (w : World) (z : Int) (b : Nat) (hb : b = w.heap.size) : Slc (w.alloc (.cells #[.int .i64 z] 2)) (.slice (some ⟨b, 0, none⟩) 1 1) ([z].map I64) := by subst hb; exact slc_one w z

theorem owns_emptyB (w : World) (b : Nat) (hb : b = w.heap.size) : (w.alloc (.cells #[] 2)).ownsRow w.heap.size 2 1 (.slice (some ⟨b, 0, none⟩) 0 0) 0 (([] : List Int).map I64) := by subst hb; exact owns_empty w
theorem owns_drew {w : World} {base : Nat} {e : TypeId} {v : Value} {n : Nat} {vs : List Value} (h : w.ownsRow base e 1 v n vs) : w.drew.ownsRow base e 1 v n vs := h

end Go.Proofs.Ytkfiepiipigcmaa

namespace Go.Proofs.Ytkfiepiipigcmaa
open Go.RowKit Go.Sort

/-- The first m of a row of indices, as integers. -/
def rowD (d : Array Nat) (m : Nat) : List Int := idxs (d.toList.take m)
theorem rowD_len (d : Array Nat) (m : Nat) (h : m ≤ d.size) : (rowD d m).length = m := by
  unfold rowD idxs
  rw [List.length_map, List.length_take, Array.length_toList]
  omega
theorem rowD_at (d : Array Nat) (m k : Nat) (h : m ≤ d.size) (hk : k < m) : (rowD d m)[k]? = some ((d[k]! : Nat) : Int) := by
  have hk2 : k < d.size := by omega
  unfold rowD idxs
  rw [List.getElem?_map, List.getElem?_take, if_pos hk, Array.getElem?_toList, Array.getElem?_eq_getElem hk2, getElem!_pos d k hk2]
  rfl
theorem rowD_succ (d : Array Nat) (m : Nat) (h : m < d.size) : rowD d (m + 1) = rowD d m ++ [((d[m]! : Nat) : Int)] := by
  apply List.ext_getElem?
  intro k
  have hl := rowD_len d m (by omega)
  have hl2 := rowD_len d (m + 1) (by omega)
  by_cases hk : k < m
  · rw [rowD_at d (m + 1) k (by omega) (by omega), List.getElem?_append_left (by omega), rowD_at d m k (by omega) hk]
  · by_cases hk2 : k = m
    · subst hk2
      rw [rowD_at d (k + 1) k (by omega) (by omega), List.getElem?_append_right (by omega), hl]
      simp
    · rw [List.getElem?_eq_none (by omega), List.getElem?_eq_none (by simp; omega)]
theorem rowD_swp (d : Array Nat) (m j : Nat) (h : m ≤ d.size) (hj : j + 1 < m) (x p : Nat) (hx : d[j + 1]! = x) (hp : d[j]! = p) :
    ((rowD d m).set (j + 1) ((p : Nat) : Int)).set j ((x : Nat) : Int) = rowD (swp d (j + 1) j) m := by
  unfold rowD idxs swp
  rw [hx, hp, Array.toList_setIfInBounds, Array.toList_setIfInBounds, List.take_set, List.take_set, List.map_set, List.map_set]

/-- What holds of the row while the first i are in order. -/
structure Ordd (key : Nat → Int) (n i : Nat) (d : Array Nat) : Prop where
  size : d.size = n
  small : ∀ k, k < n → d[k]! < n
  rest : ∀ k, i ≤ k → k < n → d[k]! = k
theorem Ordd.start (key : Nat → Int) (n : Nat) : Ordd key n 0 (Array.range n) := by
  have h : ∀ k, k < n → (Array.range n)[k]! = k := fun k hk => by rw [getElem!_pos _ k (by simpa using hk)]; simp
  exact ⟨by simp, fun k hk => by rw [h k hk]; exact hk, fun k _ hk => h k hk⟩
theorem Ordd.next {key : Nat → Int} {n i : Nat} {d : Array Nat} (h : Ordd key n i d) : Ordd key n (i + 1) d := ⟨h.size, h.small, fun k hk => h.rest k (by omega)⟩
theorem Ordd.swp {key : Nat → Int} {n i j : Nat} {d : Array Nat} (h : Ordd key n i d) (hj : j + 1 < i) (hi : i ≤ n) : Ordd key n i (swp d (j + 1) j) := by
  have hs := h.size
  refine ⟨by rw [size_swp, hs], fun k hk => ?_, fun k h1 h2 => ?_⟩
  · by_cases e1 : k = j + 1
    · subst e1; rw [swp_left d (j + 1) j (by omega) (by omega)]; exact h.small _ (by omega)
    · by_cases e2 : k = j
      · subst e2; rw [swp_right d (k + 1) k (by omega)]; exact h.small _ (by omega)
      · rw [swp_other d _ _ _ e1 e2]; exact h.small k hk
  · rw [swp_other d _ _ _ (by omega) (by omega)]; exact h.rest k h1 h2

theorem ownD_cell {lo hi g cap k m : Nat} {w : World} {d : Array Nat} (h : OwnI lo hi w (.slice (some ⟨g, 0, none⟩) m cap) (rowD d m)) (hm : m ≤ d.size) (hk : k < m) : w.cell? ⟨g, k, none⟩ = some (.int .i64 ((d[k]! : Nat) : Int)) := by
  obtain ⟨b, off, e, _, hc⟩ := h.rd.at (i := k) (by rw [rowD_len d m hm]; exact hk)
  simp only [Option.some.injEq, Addr.mk.injEq, and_true] at e
  obtain ⟨rfl, rfl⟩ := e
  rw [Nat.zero_add] at hc
  rw [hc, List.getD_eq_getElem?_getD, rowD_at d m k hm hk]
  rfl

set_option maxHeartbeats 1000000 in
theorem l06Order_any (v : Value) (ks : List Int) (key : Nat → Int) (w : World) (h : RdI w v ks) (hn : ks.length ≤ 1000) (hkey : ∀ x, x < ks.length → ks[x]? = some (key x)) :
    Calls Try.prog 96 #[v] w fun e w' => ∃ u, e = .returned u ∧ OwnI w.heap.size w'.heap.size w' u (idxs (ordL key ks.length)) ∧ Below w.heap.size w w' := by
  obtain ⟨a, c, rfl⟩ := h.shape
  have HR := Lib.hid h
  have HK := Lib.hid hkey
  obtain ⟨n, hnn⟩ : ∃ n, n = ks.length := ⟨_, rfl⟩
  rw [← hnn] at hn ⊢
  have HN := Lib.hid hnn
  clear h hkey hnn
  go_enter Try.func96, Try.ntmps96
  go_wp2_with fail
  have hsz0 : w.heap.size ≤ (w.alloc (.cells #[] 2)).heap.size := by simp
  go_loopw [3, 4] (fun out kk wr => ∃ (i : Nat) (d : Array Nat) (b : Option Addr) (cap : Nat), kk = .int .i64 i ∧ i ≤ n ∧ out = .slice b i cap ∧ Hid (Ordd key n i d) ∧ Hid (insOuter (ltK key) 0 n i d = ordA key n) ∧ Hid (OwnI w.heap.size wr.heap.size wr (.slice b i cap) (rowD d i)) ∧ Hid (Below w.heap.size w wr)) (fun _ kk _ => n + 1 - (intOf kk).toNat)
  case atStart =>
    refine ⟨0, Array.range n, _, _, rfl, Nat.zero_le _, rfl, Ordd.start _ _, ins_zero _ _, Lib.hid ?_, Lib.hid ((Below.refl _ _).alloc (Nat.le_refl _) _)⟩
    exact OwnI.mk (n := 0) (owns_emptyB _ _ rfl)
  case round =>
    obtain ⟨i, d, b, cap, rfl, hi, rfl, HD, HI, HO, HB⟩ := hrel
    obtain ⟨wo, rfl⟩ : ∃ wo, wo = wr := ⟨wr, rfl⟩
    have hnn : n ≤ ks.length ∧ ks.length ≤ n := by have := HN.out; omega
    by_cases hlt : i < n
    · have hlt' : (i : Int) < (ks.length : Int) := by omega
      have hsz := HB.out.size
      have HE := Lib.hid (show rowD d (i + 1) = rowD d i ++ [(i : Int)] by rw [rowD_succ d i (by have := HD.out.size; omega), HD.out.rest i (Nat.le_refl _) hlt])
      have hlen := rowD_len d i (by have := HD.out.size; omega)
      have hlen2 := rowD_len d (i + 1) (by have := HD.out.size; omega)
      have HO1 := Lib.hid (show wo.ownsRow w.heap.size 2 1 (.slice b i cap) i ((rowD d i).map I64) by have := HO.out.1; rw [hlen] at this; exact this)
      go_wp2_with (at_builtin; refine app_ints rfl _ _ rfl w.heap.size (.slice b i cap) i (rowD d i) rfl (HO1.out.alloc _) _ [(i : Int)] rfl (slc_one _ _) (i + 1) (rowD d (i + 1)) (by simp) HE.out (by omega) (by simp; omega) ?_; intro b2 cap2 w3 hown2 hbl2 _ _)
      have HO2 := Lib.hid (OwnI.mk hown2)
      have HB2 := Lib.hid (HB.out.trans (((Below.refl _ _).alloc hsz _).trans hbl2))
      obtain ⟨g, rfl, hg⟩ := owns_slice_some hown2 (by omega)
      clear hown2 hbl2
      have HDN := Lib.hid HD.out.next
      have HIO := Lib.hid (show insOuter (ltK key) 0 n (i + 1) (insInner (ltK key) 0 i d) = ordA key n by rw [← insOuter_go _ _ _ _ _ hlt]; exact HI.out)
      clear HE hlen hlen2 HO1 HO HB hsz HD HI
      have hcap : w3.heap.size ≤ w3.heap.size := Nat.le_refl _
      go_loopw [5] (fun jv wr => ∃ (j : Nat) (e : Array Nat), jv = .int .i64 j ∧ j ≤ i ∧ Hid (Ordd key n (i + 1) e) ∧ Hid (insInner (ltK key) 0 j e = insInner (ltK key) 0 i d) ∧ Hid (OwnI w.heap.size wr.heap.size wr (.slice (some ⟨g, 0, none⟩) (i + 1) cap2) (rowD e (i + 1))) ∧ Hid (Below w.heap.size w wr)) (fun jv _ => (intOf jv).toNat)
      case atStart => exact ⟨i, d, rfl, Nat.le_refl _, HDN, Lib.hid rfl, HO2, HB2⟩
      case round =>
        obtain ⟨j, e, rfl, hj, HDe, HIe, HOe, HBe⟩ := hrel
        obtain ⟨wi, rfl⟩ : ∃ wi, wi = wr := ⟨wr, rfl⟩
        have hes := HDe.out.size
        have out : (j ≤ 0 ∨ ltK key e[j]! e[j - 1]! = false) → Hid (insOuter (ltK key) 0 n (i + 1) e = ordA key n) := fun hs => Lib.hid (by rw [← HIO.out, ← HIe.out, insInner_stop _ _ _ _ hs])
        have OUT := Lib.hid out
        clear out
        by_cases hj0 : 0 < j
        · obtain ⟨jp, rfl⟩ : ∃ jp, j = jp + 1 := ⟨j - 1, by omega⟩
          have hx1 := HDe.out.small (jp + 1) (by omega)
          have hp1 := HDe.out.small jp (by omega)
          have hrl := rowD_len e (i + 1) (by omega)
          have rx := rowD_at e (i + 1) (jp + 1) (by omega) (by omega)
          have rp := rowD_at e (i + 1) jp (by omega) (by omega)
          obtain ⟨x, hx⟩ : ∃ x, e[jp + 1]! = x := ⟨_, rfl⟩
          obtain ⟨p, hp⟩ : ∃ p, e[jp]! = p := ⟨_, rfl⟩
          rw [hx] at rx hx1
          rw [hp] at rp hp1
          have hc1 := ownD_cell HOe.out (by omega) (show jp + 1 < i + 1 by omega)
          have hc2 := ownD_cell HOe.out (by omega) (show jp < i + 1 by omega)
          rw [hx] at hc1
          rw [hp] at hc2
          have hO1 := HOe.out.1
          rw [hrl] at hO1
          have hf1 := hO1.frozenAt (jp + 1)
          have hf2 := hO1.frozenAt jp
          clear hO1
          obtain ⟨kb, ko, rfl, hkb, hk1⟩ := (HR.out.up HBe.out (Nat.le_refl _)).at (i := x) (by omega)
          obtain ⟨kb', ko', ek, _, hk2⟩ := (HR.out.up HBe.out (Nat.le_refl _)).at (i := p) (by omega)
          simp only [Option.some.injEq, Addr.mk.injEq, and_true] at ek
          obtain ⟨rfl, rfl⟩ := ek
          rw [List.getD_eq_getElem?_getD, HK.out x (by omega), Option.getD_some] at hk1
          rw [List.getD_eq_getElem?_getD, HK.out p (by omega), Option.getD_some] at hk2
          have hx2 : (x : Int) < (ks.length : Int) := by omega
          have hp2 : (p : Int) < (ks.length : Int) := by omega
          have hj2 : (jp : Int) + 1 < (i : Int) + 1 := by omega
          have hj3 : (jp : Int) < (i : Int) + 1 := by omega
          have HX := Lib.hid hx
          have HP := Lib.hid hp
          have hsx := HBe.out.size
          clear rx rp hx hp hrl
          obtain ⟨kx, hkx⟩ : ∃ z, z = key x := ⟨_, rfl⟩
          obtain ⟨kp, hkp⟩ : ∃ z, z = key p := ⟨_, rfl⟩
          rw [← hkx] at hk1
          rw [← hkp] at hk2
          have HKX := Lib.hid hkx
          have HKP := Lib.hid hkp
          clear hkx hkp
          by_cases hlk : kx < kp
          · have hd : decide (kx < kp) = true := decide_eq_true hlk
            have HS := Lib.hid (show insInner (ltK key) 0 jp (swp e (jp + 1) jp) = insInner (ltK key) 0 i d by
              have := insInner_go (ltK key) 0 (jp + 1) e hj0 (by rw [Nat.add_sub_cancel, HX.out, HP.out]; unfold ltK; rw [← HKX.out, ← HKP.out]; exact hd)
              rw [Nat.add_sub_cancel] at this
              rw [← this]; exact HIe.out)
            clear hlk
            go_wp2_with fail
            go_quiet (fail)
            go_wp2_with fail
            go_roundw
            case rel =>
              have HO3 : ∀ q, OwnI w.heap.size wi.heap.size (((wi.drewN q).setCell ⟨g, jp + 1, none⟩ (.int .i64 (p : Int))).setCell ⟨g, jp, none⟩ (.int .i64 (x : Int))) (.slice (some ⟨g, 0, none⟩) (i + 1) cap2) (rowD (swp e (jp + 1) jp) (i + 1)) := fun q => by
                have h := ((HOe.out.up (below_drewN (Below.refl wi.heap.size wi) q) (Nat.le_refl _)).set rfl (jp + 1) (p : Int)).set rfl jp (x : Int)
                rw [rowD_swp e (i + 1) jp (by omega) (by omega) x p HX.out HP.out] at h
                exact h
              exact ⟨jp, swp e (jp + 1) jp, by go_num, by omega, Lib.hid (HDe.out.swp (by omega) (by omega)), HS, Lib.hid (by first | exact HO3 _ | exact (HO3 _).wide (Nat.le_refl _) (by simp)), Lib.hid (((below_drewN HBe.out _).setCell (by omega) _).setCell (by omega) _)⟩
            case measure => simp [intOf]
          · have hd : decide (kx < kp) = false := decide_eq_false hlk
            have HU := OUT.out (.inr (by rw [Nat.add_sub_cancel, HX.out, HP.out]; unfold ltK; rw [← HKX.out, ← HKP.out]; exact hd))
            clear hlk OUT
            go_wp2_with fail
            go_quiet (fail)
            go_wp2_with fail
            go_roundw
            case rel => exact ⟨i + 1, e, _, _, by go_num, by omega, rfl, HDe, HU, HOe, Lib.hid (below_drewN HBe.out _)⟩
            case measure => simp [intOf]; omega
        · obtain rfl : j = 0 := by omega
          have HU := OUT.out (.inl (Nat.le_refl _))
          clear OUT
          go_wp2_with fail
          go_quiet (fail)
          go_wp2_with fail
          go_roundw
          case rel => exact ⟨i + 1, e, _, _, by go_num, by omega, rfl, HDe, HU, HOe, Lib.hid (below_drewN HBe.out _)⟩
          case measure => simp [intOf]; omega
    · obtain rfl : i = n := by omega
      have HF := Lib.hid (show d = ordA key i by have := HI.out; rwa [insOuter_stop _ _ _ _ _ (by omega)] at this)
      go_wp2_with fail
      go_ret
      refine ⟨_, rfl, ?_, HB.out⟩
      have e1 : rowD d i = idxs (ordL key i) := by
        unfold rowD ordL
        rw [← HF.out, List.take_of_length_le (by rw [Array.length_toList, HD.out.size]; exact Nat.le_refl _)]
      rw [← e1]; exact HO.out

def duesL (js : List JobD) (k : Nat) : List Int := (js.take k).map (·.due)
theorem duesL_len (js : List JobD) (k : Nat) (h : k ≤ js.length) : (duesL js k).length = k := by unfold duesL; rw [List.length_map, List.length_take]; omega
theorem duesL_succ (js : List JobD) (k : Nat) (h : k < js.length) : duesL js (k + 1) = duesL js k ++ [(js.getD k J0).due] := by
  unfold duesL
  rw [List.take_add_one, List.map_append, List.getElem?_eq_getElem h, List.getD_eq_getElem?_getD, List.getElem?_eq_getElem h]
  rfl
theorem duesL_at (js : List JobD) (x : Nat) (h : x < js.length) : (duesL js js.length)[x]? = some (dueK js x) := by
  unfold duesL dueK
  rw [List.take_length, List.getElem?_map, Nat.mod_eq_of_lt h, List.getD_eq_getElem?_getD, List.getElem?_eq_getElem h]
  rfl

end Go.Proofs.Ytkfiepiipigcmaa
