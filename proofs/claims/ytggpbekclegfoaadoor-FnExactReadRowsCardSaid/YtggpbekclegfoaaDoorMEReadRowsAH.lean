/-
  FnExactReadRows: texts joined: ValidRS, OwnRows, OwnSpec.
-/
import Derived.Deep.AppendLies
import Derived.Test.YtggpbekclegfoaaDoorMEReadRowsAF
import Derived.Test.YtggpbekclegfoaaDoorMEReadRowsAG
namespace Go.Proofs.YtggpbekclegfoaaDoor
open Go.RowKit

theorem l02Finite_qs (v : Value) (xs : List Nat) (w : World) (n : Nat) (h : RdF w v xs) :
    Calls Tryd.prog 56 #[v] (w.drewN n) fun e w'' => e = .returned (.bool (allFin xs)) ∧ ∃ m, w'' = w.drewN m := by
  refine (l02Finite_any v xs _ (h.drewN n)).mono ?_
  rintro e w' ⟨rfl, hd⟩
  exact ⟨rfl, drewN_then ⟨n, rfl⟩ hd⟩

/-- Cells that lie side by side. -/
def Cels (w : World) (b : Nat) (cs : Array Value) : Prop := ∀ (j : Nat) (u : Value), cs[j]? = some u → w.cell? ⟨b, j, none⟩ = some u
theorem Cels.cell {w : World} {b : Nat} {cs : Array Value} (h : Cels w b cs) (j : Nat) {u : Value} (hj : cs[j]? = some u) : w.cell? ⟨b, j, none⟩ = some u := h j u hj
theorem Blk.cels {w : World} {b : Nat} {t : TypeId} {cs : Array Value} (h : Blk w b t cs) : Cels w b cs := fun j _ hj => h.cell j hj

set_option maxHeartbeats 4000000 in
set_option maxRecDepth 4000 in
theorem LI_hA (bb : Nat) (n0 : Int) (x1 x2 x3 : List Nat) (a1 a2 a3 : Option Addr) (c1 c2 c3 : Nat) (w : World) (HK : Hid (Cels w bb #[.int .i64 n0, .slice a1 x1.length c1, .slice a2 x2.length c2, .slice a3 x3.length c3])) (P1 : Hid (RdF w (.slice a1 x1.length c1) x1)) (P2 : Hid (RdF w (.slice a2 x2.length c2) x2)) (P3 : Hid (RdF w (.slice a3 x3.length c3) x3)) (l1 : x1.length ≤ 9223372036854775807) (l2 : x2.length ≤ 9223372036854775807) (l3 : x3.length ≤ 9223372036854775807)
    (hA : ¬ (1 ≤ n0 ∧ n0 ≤ 8)) :
    Calls Tryd.prog 32 #[.pointer (some ⟨bb, 0, none⟩)] w fun e w' => e = .returned (.bool (validR ⟨n0, x1, x2, x3⟩)) ∧ ∃ m, w' = w.drewN m := by
  have hin := inB_false (lo := 1) (hi := 8) (n := n0) hA
  have HNO := Lib.hid (validR_false (r := ⟨n0, x1, x2, x3⟩) (fun h => hA ⟨h.v1, h.v8⟩))
  clear hA
  have d0 : w.cell? ⟨bb, 0, none⟩ = some (.int .i64 n0) := HK.out.cell 0 rfl
  have d1 : w.cell? ⟨bb, 1, none⟩ = some (.slice a1 x1.length c1) := HK.out.cell 1 rfl
  have d2 : w.cell? ⟨bb, 2, none⟩ = some (.slice a2 x2.length c2) := HK.out.cell 2 rfl
  have d3 : w.cell? ⟨bb, 3, none⟩ = some (.slice a3 x3.length c3) := HK.out.cell 3 rfl
  go_enter Tryd.func32, Tryd.ntmps32
  go_wp2_with fail
  go_quiet ((go_at_call 55; exact quiet_same (in_any _ _ _ _)))
  go_wp2_with fail
  go_ret
  exact ⟨by rw [HNO.out]; rfl, _, rfl⟩

set_option maxHeartbeats 4000000 in
set_option maxRecDepth 4000 in
theorem LI_hB (bb : Nat) (n0 : Int) (x1 x2 x3 : List Nat) (a1 a2 a3 : Option Addr) (c1 c2 c3 : Nat) (w : World) (HK : Hid (Cels w bb #[.int .i64 n0, .slice a1 x1.length c1, .slice a2 x2.length c2, .slice a3 x3.length c3])) (P1 : Hid (RdF w (.slice a1 x1.length c1) x1)) (P2 : Hid (RdF w (.slice a2 x2.length c2) x2)) (P3 : Hid (RdF w (.slice a3 x3.length c3) x3)) (l1 : x1.length ≤ 9223372036854775807) (l2 : x2.length ≤ 9223372036854775807) (l3 : x3.length ≤ 9223372036854775807)
    (hA : 1 ≤ n0 ∧ n0 ≤ 8) (hB : ¬ (1 ≤ x2.length)) :
    Calls Tryd.prog 32 #[.pointer (some ⟨bb, 0, none⟩)] w fun e w' => e = .returned (.bool (validR ⟨n0, x1, x2, x3⟩)) ∧ ∃ m, w' = w.drewN m := by
  have hin := inB_true (lo := 1) (hi := 8) (n := n0) hA
  have hb1 : decide ((x2.length : Int) < 1) = true := by simp; omega
  have HNO := Lib.hid (validR_false (r := ⟨n0, x1, x2, x3⟩) (fun h => hB h.b1))
  clear hA hB
  have d0 : w.cell? ⟨bb, 0, none⟩ = some (.int .i64 n0) := HK.out.cell 0 rfl
  have d1 : w.cell? ⟨bb, 1, none⟩ = some (.slice a1 x1.length c1) := HK.out.cell 1 rfl
  have d2 : w.cell? ⟨bb, 2, none⟩ = some (.slice a2 x2.length c2) := HK.out.cell 2 rfl
  have d3 : w.cell? ⟨bb, 3, none⟩ = some (.slice a3 x3.length c3) := HK.out.cell 3 rfl
  go_enter Tryd.func32, Tryd.ntmps32
  go_wp2_with fail
  go_quiet ((go_at_call 55; exact quiet_same (in_any _ _ _ _)))
  go_wp2_with fail
  go_ret
  exact ⟨by rw [HNO.out]; rfl, _, rfl⟩

set_option maxHeartbeats 4000000 in
set_option maxRecDepth 4000 in
theorem LI_hE (bb : Nat) (n0 : Int) (x1 x2 x3 : List Nat) (a1 a2 a3 : Option Addr) (c1 c2 c3 : Nat) (w : World) (HK : Hid (Cels w bb #[.int .i64 n0, .slice a1 x1.length c1, .slice a2 x2.length c2, .slice a3 x3.length c3])) (P1 : Hid (RdF w (.slice a1 x1.length c1) x1)) (P2 : Hid (RdF w (.slice a2 x2.length c2) x2)) (P3 : Hid (RdF w (.slice a3 x3.length c3) x3)) (l1 : x1.length ≤ 9223372036854775807) (l2 : x2.length ≤ 9223372036854775807) (l3 : x3.length ≤ 9223372036854775807)
    (hA : 1 ≤ n0 ∧ n0 ≤ 8) (hB : 1 ≤ x2.length) (hE : ¬ (x2.length ≤ 8)) :
    Calls Tryd.prog 32 #[.pointer (some ⟨bb, 0, none⟩)] w fun e w' => e = .returned (.bool (validR ⟨n0, x1, x2, x3⟩)) ∧ ∃ m, w' = w.drewN m := by
  have hin := inB_true (lo := 1) (hi := 8) (n := n0) hA
  have hb1 : decide ((x2.length : Int) < 1) = false := by simp; omega
  have hb8 : decide ((8 : Int) < x2.length) = true := by simp; omega
  have HNO := Lib.hid (validR_false (r := ⟨n0, x1, x2, x3⟩) (fun h => hE h.b8))
  clear hA hE
  have d0 : w.cell? ⟨bb, 0, none⟩ = some (.int .i64 n0) := HK.out.cell 0 rfl
  have d1 : w.cell? ⟨bb, 1, none⟩ = some (.slice a1 x1.length c1) := HK.out.cell 1 rfl
  have d2 : w.cell? ⟨bb, 2, none⟩ = some (.slice a2 x2.length c2) := HK.out.cell 2 rfl
  have d3 : w.cell? ⟨bb, 3, none⟩ = some (.slice a3 x3.length c3) := HK.out.cell 3 rfl
  go_enter Tryd.func32, Tryd.ntmps32
  go_wp2_with fail
  go_quiet ((go_at_call 55; exact quiet_same (in_any _ _ _ _)))
  go_wp2_with fail
  go_ret
  exact ⟨by rw [HNO.out]; rfl, _, rfl⟩

set_option maxHeartbeats 4000000 in
set_option maxRecDepth 4000 in
theorem LI_hC (bb : Nat) (n0 : Int) (x1 x2 x3 : List Nat) (a1 a2 a3 : Option Addr) (c1 c2 c3 : Nat) (w : World) (HK : Hid (Cels w bb #[.int .i64 n0, .slice a1 x1.length c1, .slice a2 x2.length c2, .slice a3 x3.length c3])) (P1 : Hid (RdF w (.slice a1 x1.length c1) x1)) (P2 : Hid (RdF w (.slice a2 x2.length c2) x2)) (P3 : Hid (RdF w (.slice a3 x3.length c3) x3)) (l1 : x1.length ≤ 9223372036854775807) (l2 : x2.length ≤ 9223372036854775807) (l3 : x3.length ≤ 9223372036854775807)
    (hA : 1 ≤ n0 ∧ n0 ≤ 8) (hB : 1 ≤ x2.length) (hE : x2.length ≤ 8) (hC : ¬ ((x3.length : Int) = n0)) :
    Calls Tryd.prog 32 #[.pointer (some ⟨bb, 0, none⟩)] w fun e w' => e = .returned (.bool (validR ⟨n0, x1, x2, x3⟩)) ∧ ∃ m, w' = w.drewN m := by
  have hin := inB_true (lo := 1) (hi := 8) (n := n0) hA
  have hb1 : decide ((x2.length : Int) < 1) = false := by simp; omega
  have hb8 : decide ((8 : Int) < x2.length) = false := by simp; omega
  have hcb : ((x3.length : Int) != n0) = true := by simp [hC]
  have HNO := Lib.hid (validR_false (r := ⟨n0, x1, x2, x3⟩) (fun h => hC h.gl))
  clear hA hC
  have d0 : w.cell? ⟨bb, 0, none⟩ = some (.int .i64 n0) := HK.out.cell 0 rfl
  have d1 : w.cell? ⟨bb, 1, none⟩ = some (.slice a1 x1.length c1) := HK.out.cell 1 rfl
  have d2 : w.cell? ⟨bb, 2, none⟩ = some (.slice a2 x2.length c2) := HK.out.cell 2 rfl
  have d3 : w.cell? ⟨bb, 3, none⟩ = some (.slice a3 x3.length c3) := HK.out.cell 3 rfl
  go_enter Tryd.func32, Tryd.ntmps32
  go_wp2_with fail
  go_quiet ((go_at_call 55; exact quiet_same (in_any _ _ _ _)))
  go_wp2_with fail
  go_ret
  exact ⟨by rw [HNO.out]; rfl, _, rfl⟩

set_option maxHeartbeats 4000000 in
set_option maxRecDepth 4000 in
theorem LI_hD (bb : Nat) (n0 : Int) (x1 x2 x3 : List Nat) (a1 a2 a3 : Option Addr) (c1 c2 c3 : Nat) (w : World) (HK : Hid (Cels w bb #[.int .i64 n0, .slice a1 x1.length c1, .slice a2 x2.length c2, .slice a3 x3.length c3])) (P1 : Hid (RdF w (.slice a1 x1.length c1) x1)) (P2 : Hid (RdF w (.slice a2 x2.length c2) x2)) (P3 : Hid (RdF w (.slice a3 x3.length c3) x3)) (l1 : x1.length ≤ 9223372036854775807) (l2 : x2.length ≤ 9223372036854775807) (l3 : x3.length ≤ 9223372036854775807)
    (hA : 1 ≤ n0 ∧ n0 ≤ 8) (hB : 1 ≤ x2.length) (hE : x2.length ≤ 8) (hC : (x3.length : Int) = n0) (hD : ¬ ((x1.length : Int) = n0 * x2.length)) :
    Calls Tryd.prog 32 #[.pointer (some ⟨bb, 0, none⟩)] w fun e w' => e = .returned (.bool (validR ⟨n0, x1, x2, x3⟩)) ∧ ∃ m, w' = w.drewN m := by
  have hin := inB_true (lo := 1) (hi := 8) (n := n0) hA
  have hb1 : decide ((x2.length : Int) < 1) = false := by simp; omega
  have hb8 : decide ((8 : Int) < x2.length) = false := by simp; omega
  have hcb : ((x3.length : Int) != n0) = false := by simp [hC]
  obtain ⟨M, hM⟩ : ∃ M : Int, M = n0 * x2.length := ⟨_, rfl⟩
  have hM0 : 0 ≤ M ∧ M ≤ 64 := by have := mulR hA.1 hA.2 hE; omega
  have hmul : IntKind.i64.wrap (n0 * (x2.length : Int)) = M := by rw [IntWalk.i64_in _ (by omega), hM]
  have hdb : ((x1.length : Int) != M) = true := by rw [hM]; simp [hD]
  have HM := Lib.hid hM
  clear hM
  have HNO := Lib.hid (validR_false (r := ⟨n0, x1, x2, x3⟩) (fun h => hD h.nl))
  clear hA hC hD
  have d0 : w.cell? ⟨bb, 0, none⟩ = some (.int .i64 n0) := HK.out.cell 0 rfl
  have d1 : w.cell? ⟨bb, 1, none⟩ = some (.slice a1 x1.length c1) := HK.out.cell 1 rfl
  have d2 : w.cell? ⟨bb, 2, none⟩ = some (.slice a2 x2.length c2) := HK.out.cell 2 rfl
  have d3 : w.cell? ⟨bb, 3, none⟩ = some (.slice a3 x3.length c3) := HK.out.cell 3 rfl
  go_enter Tryd.func32, Tryd.ntmps32
  go_wp2_with fail
  go_quiet ((go_at_call 55; exact quiet_same (in_any _ _ _ _)))
  obtain ⟨W2, hW2⟩ : ∃ W2, W2 = w.drewN nq := ⟨_, rfl⟩
  rw [← hW2]
  have HK2 := Lib.hid (show Cels W2 bb #[.int .i64 n0, .slice a1 x1.length c1, .slice a2 x2.length c2, .slice a3 x3.length c3] by subst hW2; exact HK.out)
  have Q1 := Lib.hid (show RdF W2 _ x1 by subst hW2; exact P1.out.drewN _)
  have Q2 := Lib.hid (show RdF W2 _ x2 by subst hW2; exact P2.out.drewN _)
  have Q3 := Lib.hid (show RdF W2 _ x3 by subst hW2; exact P3.out.drewN _)
  have HD2 := Lib.hid (show ∃ m, W2 = w.drewN m from ⟨_, hW2⟩)
  clear hW2 d0 d1 d2 d3
  have d0 : W2.cell? ⟨bb, 0, none⟩ = some (.int .i64 n0) := HK2.out.cell 0 rfl
  have d1 : W2.cell? ⟨bb, 1, none⟩ = some (.slice a1 x1.length c1) := HK2.out.cell 1 rfl
  have d2 : W2.cell? ⟨bb, 2, none⟩ = some (.slice a2 x2.length c2) := HK2.out.cell 2 rfl
  have d3 : W2.cell? ⟨bb, 3, none⟩ = some (.slice a3 x3.length c3) := HK2.out.cell 3 rfl
  go_wp2_with fail
  go_quiet (first
    | (go_at_call 56; exact l02Finite_qs _ x1 _ _ Q1.out)
    | (go_at_call 56; exact l02Finite_qs _ x3 _ _ Q3.out))
  go_wp2_with fail
  go_ret
  exact ⟨by rw [HNO.out]; rfl, drewN_ex HD2.out _⟩

set_option maxHeartbeats 4000000 in
set_option maxRecDepth 4000 in
theorem LI_hF (bb : Nat) (n0 : Int) (x1 x2 x3 : List Nat) (a1 a2 a3 : Option Addr) (c1 c2 c3 : Nat) (w : World) (HK : Hid (Cels w bb #[.int .i64 n0, .slice a1 x1.length c1, .slice a2 x2.length c2, .slice a3 x3.length c3])) (P1 : Hid (RdF w (.slice a1 x1.length c1) x1)) (P2 : Hid (RdF w (.slice a2 x2.length c2) x2)) (P3 : Hid (RdF w (.slice a3 x3.length c3) x3)) (l1 : x1.length ≤ 9223372036854775807) (l2 : x2.length ≤ 9223372036854775807) (l3 : x3.length ≤ 9223372036854775807)
    (hA : 1 ≤ n0 ∧ n0 ≤ 8) (hB : 1 ≤ x2.length) (hE : x2.length ≤ 8) (hC : (x3.length : Int) = n0) (hD : (x1.length : Int) = n0 * x2.length) (hF : ¬ (allFin x1 = true)) :
    Calls Tryd.prog 32 #[.pointer (some ⟨bb, 0, none⟩)] w fun e w' => e = .returned (.bool (validR ⟨n0, x1, x2, x3⟩)) ∧ ∃ m, w' = w.drewN m := by
  have hin := inB_true (lo := 1) (hi := 8) (n := n0) hA
  have hb1 : decide ((x2.length : Int) < 1) = false := by simp; omega
  have hb8 : decide ((8 : Int) < x2.length) = false := by simp; omega
  have hcb : ((x3.length : Int) != n0) = false := by simp [hC]
  obtain ⟨M, hM⟩ : ∃ M : Int, M = n0 * x2.length := ⟨_, rfl⟩
  have hM0 : 0 ≤ M ∧ M ≤ 64 := by have := mulR hA.1 hA.2 hE; omega
  have hmul : IntKind.i64.wrap (n0 * (x2.length : Int)) = M := by rw [IntWalk.i64_in _ (by omega), hM]
  have hdb : ((x1.length : Int) != M) = false := by rw [hM]; simp [hD]
  have HM := Lib.hid hM
  clear hM
  have hfb : allFin x1 = false := by simpa using hF
  have HNO := Lib.hid (validR_false (r := ⟨n0, x1, x2, x3⟩) (fun h => hF h.fn))
  clear hA hC hD hF
  have d0 : w.cell? ⟨bb, 0, none⟩ = some (.int .i64 n0) := HK.out.cell 0 rfl
  have d1 : w.cell? ⟨bb, 1, none⟩ = some (.slice a1 x1.length c1) := HK.out.cell 1 rfl
  have d2 : w.cell? ⟨bb, 2, none⟩ = some (.slice a2 x2.length c2) := HK.out.cell 2 rfl
  have d3 : w.cell? ⟨bb, 3, none⟩ = some (.slice a3 x3.length c3) := HK.out.cell 3 rfl
  go_enter Tryd.func32, Tryd.ntmps32
  go_wp2_with fail
  go_quiet ((go_at_call 55; exact quiet_same (in_any _ _ _ _)))
  obtain ⟨W2, hW2⟩ : ∃ W2, W2 = w.drewN nq := ⟨_, rfl⟩
  rw [← hW2]
  have HK2 := Lib.hid (show Cels W2 bb #[.int .i64 n0, .slice a1 x1.length c1, .slice a2 x2.length c2, .slice a3 x3.length c3] by subst hW2; exact HK.out)
  have Q1 := Lib.hid (show RdF W2 _ x1 by subst hW2; exact P1.out.drewN _)
  have Q2 := Lib.hid (show RdF W2 _ x2 by subst hW2; exact P2.out.drewN _)
  have Q3 := Lib.hid (show RdF W2 _ x3 by subst hW2; exact P3.out.drewN _)
  have HD2 := Lib.hid (show ∃ m, W2 = w.drewN m from ⟨_, hW2⟩)
  clear hW2 d0 d1 d2 d3
  have d0 : W2.cell? ⟨bb, 0, none⟩ = some (.int .i64 n0) := HK2.out.cell 0 rfl
  have d1 : W2.cell? ⟨bb, 1, none⟩ = some (.slice a1 x1.length c1) := HK2.out.cell 1 rfl
  have d2 : W2.cell? ⟨bb, 2, none⟩ = some (.slice a2 x2.length c2) := HK2.out.cell 2 rfl
  have d3 : W2.cell? ⟨bb, 3, none⟩ = some (.slice a3 x3.length c3) := HK2.out.cell 3 rfl
  go_wp2_with fail
  go_quiet (first
    | (go_at_call 56; exact l02Finite_qs _ x1 _ _ Q1.out)
    | (go_at_call 56; exact l02Finite_qs _ x3 _ _ Q3.out))
  go_wp2_with fail
  go_ret
  exact ⟨by rw [HNO.out]; rfl, drewN_ex HD2.out _⟩

set_option maxHeartbeats 4000000 in
set_option maxRecDepth 4000 in
theorem LI_hG (bb : Nat) (n0 : Int) (x1 x2 x3 : List Nat) (a1 a2 a3 : Option Addr) (c1 c2 c3 : Nat) (w : World) (HK : Hid (Cels w bb #[.int .i64 n0, .slice a1 x1.length c1, .slice a2 x2.length c2, .slice a3 x3.length c3])) (P1 : Hid (RdF w (.slice a1 x1.length c1) x1)) (P2 : Hid (RdF w (.slice a2 x2.length c2) x2)) (P3 : Hid (RdF w (.slice a3 x3.length c3) x3)) (l1 : x1.length ≤ 9223372036854775807) (l2 : x2.length ≤ 9223372036854775807) (l3 : x3.length ≤ 9223372036854775807)
    (hA : 1 ≤ n0 ∧ n0 ≤ 8) (hB : 1 ≤ x2.length) (hE : x2.length ≤ 8) (hC : (x3.length : Int) = n0) (hD : (x1.length : Int) = n0 * x2.length) (hF : allFin x1 = true) (hG : ¬ (allFin x3 = true)) :
    Calls Tryd.prog 32 #[.pointer (some ⟨bb, 0, none⟩)] w fun e w' => e = .returned (.bool (validR ⟨n0, x1, x2, x3⟩)) ∧ ∃ m, w' = w.drewN m := by
  have hin := inB_true (lo := 1) (hi := 8) (n := n0) hA
  have hb1 : decide ((x2.length : Int) < 1) = false := by simp; omega
  have hb8 : decide ((8 : Int) < x2.length) = false := by simp; omega
  have hcb : ((x3.length : Int) != n0) = false := by simp [hC]
  obtain ⟨M, hM⟩ : ∃ M : Int, M = n0 * x2.length := ⟨_, rfl⟩
  have hM0 : 0 ≤ M ∧ M ≤ 64 := by have := mulR hA.1 hA.2 hE; omega
  have hmul : IntKind.i64.wrap (n0 * (x2.length : Int)) = M := by rw [IntWalk.i64_in _ (by omega), hM]
  have hdb : ((x1.length : Int) != M) = false := by rw [hM]; simp [hD]
  have HM := Lib.hid hM
  clear hM
  have hgb : allFin x3 = false := by simpa using hG
  have HNO := Lib.hid (validR_false (r := ⟨n0, x1, x2, x3⟩) (fun h => hG h.fg))
  clear hA hC hD hG
  have d0 : w.cell? ⟨bb, 0, none⟩ = some (.int .i64 n0) := HK.out.cell 0 rfl
  have d1 : w.cell? ⟨bb, 1, none⟩ = some (.slice a1 x1.length c1) := HK.out.cell 1 rfl
  have d2 : w.cell? ⟨bb, 2, none⟩ = some (.slice a2 x2.length c2) := HK.out.cell 2 rfl
  have d3 : w.cell? ⟨bb, 3, none⟩ = some (.slice a3 x3.length c3) := HK.out.cell 3 rfl
  go_enter Tryd.func32, Tryd.ntmps32
  go_wp2_with fail
  go_quiet ((go_at_call 55; exact quiet_same (in_any _ _ _ _)))
  obtain ⟨W2, hW2⟩ : ∃ W2, W2 = w.drewN nq := ⟨_, rfl⟩
  rw [← hW2]
  have HK2 := Lib.hid (show Cels W2 bb #[.int .i64 n0, .slice a1 x1.length c1, .slice a2 x2.length c2, .slice a3 x3.length c3] by subst hW2; exact HK.out)
  have Q1 := Lib.hid (show RdF W2 _ x1 by subst hW2; exact P1.out.drewN _)
  have Q2 := Lib.hid (show RdF W2 _ x2 by subst hW2; exact P2.out.drewN _)
  have Q3 := Lib.hid (show RdF W2 _ x3 by subst hW2; exact P3.out.drewN _)
  have HD2 := Lib.hid (show ∃ m, W2 = w.drewN m from ⟨_, hW2⟩)
  clear hW2 d0 d1 d2 d3
  have d0 : W2.cell? ⟨bb, 0, none⟩ = some (.int .i64 n0) := HK2.out.cell 0 rfl
  have d1 : W2.cell? ⟨bb, 1, none⟩ = some (.slice a1 x1.length c1) := HK2.out.cell 1 rfl
  have d2 : W2.cell? ⟨bb, 2, none⟩ = some (.slice a2 x2.length c2) := HK2.out.cell 2 rfl
  have d3 : W2.cell? ⟨bb, 3, none⟩ = some (.slice a3 x3.length c3) := HK2.out.cell 3 rfl
  go_wp2_with fail
  go_quiet (first
    | (go_at_call 56; exact l02Finite_qs _ x1 _ _ Q1.out)
    | (go_at_call 56; exact l02Finite_qs _ x3 _ _ Q3.out))
  go_wp2_with fail
  go_ret
  exact ⟨by rw [HNO.out]; rfl, drewN_ex HD2.out _⟩

set_option maxHeartbeats 4000000 in
set_option maxRecDepth 4000 in
theorem LI_yes (bb : Nat) (n0 : Int) (x1 x2 x3 : List Nat) (a1 a2 a3 : Option Addr) (c1 c2 c3 : Nat) (w : World) (HK : Hid (Cels w bb #[.int .i64 n0, .slice a1 x1.length c1, .slice a2 x2.length c2, .slice a3 x3.length c3])) (P1 : Hid (RdF w (.slice a1 x1.length c1) x1)) (P2 : Hid (RdF w (.slice a2 x2.length c2) x2)) (P3 : Hid (RdF w (.slice a3 x3.length c3) x3)) (l1 : x1.length ≤ 9223372036854775807) (l2 : x2.length ≤ 9223372036854775807) (l3 : x3.length ≤ 9223372036854775807)
    (hA : 1 ≤ n0 ∧ n0 ≤ 8) (hB : 1 ≤ x2.length) (hE : x2.length ≤ 8) (hC : (x3.length : Int) = n0) (hD : (x1.length : Int) = n0 * x2.length) (hF : allFin x1 = true) (hG : allFin x3 = true)  :
    Calls Tryd.prog 32 #[.pointer (some ⟨bb, 0, none⟩)] w fun e w' => e = .returned (.bool (validR ⟨n0, x1, x2, x3⟩)) ∧ ∃ m, w' = w.drewN m := by
  have hin := inB_true (lo := 1) (hi := 8) (n := n0) hA
  have hb1 : decide ((x2.length : Int) < 1) = false := by simp; omega
  have hb8 : decide ((8 : Int) < x2.length) = false := by simp; omega
  have hcb : ((x3.length : Int) != n0) = false := by simp [hC]
  obtain ⟨M, hM⟩ : ∃ M : Int, M = n0 * x2.length := ⟨_, rfl⟩
  have hM0 : 0 ≤ M ∧ M ≤ 64 := by have := mulR hA.1 hA.2 hE; omega
  have hmul : IntKind.i64.wrap (n0 * (x2.length : Int)) = M := by rw [IntWalk.i64_in _ (by omega), hM]
  have hdb : ((x1.length : Int) != M) = false := by rw [hM]; simp [hD]
  have HM := Lib.hid hM
  clear hM
  have HA := Lib.hid hA
  have HB := Lib.hid hB
  have HE := Lib.hid hE
  have HC := Lib.hid hC
  have HD := Lib.hid hD
  have HF := Lib.hid hF
  have HG := Lib.hid hG
  clear hA hC hD
  have d0 : w.cell? ⟨bb, 0, none⟩ = some (.int .i64 n0) := HK.out.cell 0 rfl
  have d1 : w.cell? ⟨bb, 1, none⟩ = some (.slice a1 x1.length c1) := HK.out.cell 1 rfl
  have d2 : w.cell? ⟨bb, 2, none⟩ = some (.slice a2 x2.length c2) := HK.out.cell 2 rfl
  have d3 : w.cell? ⟨bb, 3, none⟩ = some (.slice a3 x3.length c3) := HK.out.cell 3 rfl
  go_enter Tryd.func32, Tryd.ntmps32
  go_wp2_with fail
  go_quiet ((go_at_call 55; exact quiet_same (in_any _ _ _ _)))
  obtain ⟨W2, hW2⟩ : ∃ W2, W2 = w.drewN nq := ⟨_, rfl⟩
  rw [← hW2]
  have HK2 := Lib.hid (show Cels W2 bb #[.int .i64 n0, .slice a1 x1.length c1, .slice a2 x2.length c2, .slice a3 x3.length c3] by subst hW2; exact HK.out)
  have Q1 := Lib.hid (show RdF W2 _ x1 by subst hW2; exact P1.out.drewN _)
  have Q2 := Lib.hid (show RdF W2 _ x2 by subst hW2; exact P2.out.drewN _)
  have Q3 := Lib.hid (show RdF W2 _ x3 by subst hW2; exact P3.out.drewN _)
  have HD2 := Lib.hid (show ∃ m, W2 = w.drewN m from ⟨_, hW2⟩)
  clear hW2 d0 d1 d2 d3
  have d0 : W2.cell? ⟨bb, 0, none⟩ = some (.int .i64 n0) := HK2.out.cell 0 rfl
  have d1 : W2.cell? ⟨bb, 1, none⟩ = some (.slice a1 x1.length c1) := HK2.out.cell 1 rfl
  have d2 : W2.cell? ⟨bb, 2, none⟩ = some (.slice a2 x2.length c2) := HK2.out.cell 2 rfl
  have d3 : W2.cell? ⟨bb, 3, none⟩ = some (.slice a3 x3.length c3) := HK2.out.cell 3 rfl
  go_wp2_with fail
  go_quiet (first
    | (go_at_call 56; exact l02Finite_qs _ x1 _ _ Q1.out)
    | (go_at_call 56; exact l02Finite_qs _ x3 _ _ Q3.out))
  obtain ⟨W3, hW3⟩ : ∃ W3, W3 = W2.drewN nq := ⟨_, rfl⟩
  rw [← hW3]
  have HK3 := Lib.hid (show Cels W3 bb #[.int .i64 n0, .slice a1 x1.length c1, .slice a2 x2.length c2, .slice a3 x3.length c3] by subst hW3; exact HK2.out)
  have R2 := Lib.hid (show RdF W3 _ x2 by subst hW3; exact Q2.out.drewN _)
  have HD3 := Lib.hid (show ∃ m, W3 = w.drewN m by subst hW3; exact drewN_ex HD2.out _)
  clear hW3 d0 d1 d2 d3 hF hG hin hb1 hb8 hcb hdb hmul hM0
  go_wp2_with fail
  go_loopw [3] (fun i wr => ∃ k : Nat, i = .int .i64 k ∧ k ≤ x2.length ∧ Hid (∀ j, j < k → least (x2.getD j 0) = true) ∧ Hid (∃ m, wr = W3.drewN m)) (fun i _ => x2.length - (intOf i).toNat)
  case atStart => exact ⟨0, rfl, Nat.zero_le _, fun j hj => by omega, 0, rfl⟩
  case round =>
    obtain ⟨k, rfl, hk, hall, hd⟩ := hrel
    have d2 : wr.cell? ⟨bb, 2, none⟩ = some (.slice a2 x2.length c2) := by
      obtain ⟨m, rfl⟩ := hd.out
      exact HK3.out.cell 2 rfl
    by_cases hlt : k < x2.length
    · obtain ⟨b, off, rfl, _, hc⟩ := (rdF_drew R2.out hd.out).at hlt
      obtain ⟨x, hx⟩ : ∃ x, x = x2.getD k 0 := ⟨_, rfl⟩
      rw [← hx] at hc
      have HX := Lib.hid hx
      clear hx
      go_wp2_with fail
      refine (l02Least_any x wr).mono ?_
      rintro e w1 ⟨rfl, hd1⟩
      have HD4 := Lib.hid (drewN_then hd.out hd1)
      clear hd1 hc d2
      by_cases hf : least x = true
      · rw [hf]
        go_wp2_with fail
        go_roundw
        case rel => exact ⟨k + 1, by go_num, by omega, fun j hj => by
          rcases Nat.lt_succ_iff_lt_or_eq.1 hj with h | rfl
          · exact hall.out j h
          · rw [← HX.out]; exact hf, HD4.out⟩
        case measure => simp [intOf]; omega
      · rw [Bool.not_eq_true] at hf
        have HNO := Lib.hid (validR_false (r := ⟨n0, x1, x2, x3⟩) (fun h => by
          have h1 := h.lb k hlt
          simp only at h1
          rw [← HX.out, hf] at h1
          cases h1))
        rw [hf]
        go_wp2_with fail
        go_ret
        exact ⟨by rw [HNO.out]; rfl, drewN_then HD3.out HD4.out⟩
    · obtain rfl : k = x2.length := by omega
      have HV := Lib.hid (validR_true (r := ⟨n0, x1, x2, x3⟩) ⟨HA.out.1, HA.out.2, HB.out, HE.out, HC.out, HD.out, HF.out, HG.out, hall.out⟩)
      go_wp2_with fail
      go_ret
      exact ⟨by rw [HV.out]; rfl, drewN_then HD3.out hd.out⟩

theorem l02Is_cels (bb : Nat) (v0 v1 v2 v3 : Value) (r : RowsD) (w : World) (hk : Cels w bb #[v0, v1, v2, v3]) (h : RdR w (.agg #[v0, v1, v2, v3]) r) :
    Calls Tryd.prog 32 #[.pointer (some ⟨bb, 0, none⟩)] w fun e w' => e = .returned (.bool (validR r)) ∧ ∃ m, w' = w.drewN m := by
  obtain ⟨a1, c1, a2, c2, a3, c3, e⟩ := h.shape
  obtain ⟨p1, p2, p3⟩ := h.parts
  simp only [Value.agg.injEq, Array.mk.injEq, List.cons.injEq, and_true] at e
  obtain ⟨rfl, rfl, rfl, rfl⟩ := e
  obtain ⟨n0, x1, x2, x3⟩ := r
  simp only at p1 p2 p3 hk ⊢
  have l1 := p1.len
  have l2 := p2.len
  have l3 := p3.len
  unfold maxLen at l1 l2 l3
  have P1 := Lib.hid p1
  have P2 := Lib.hid p2
  have P3 := Lib.hid p3
  have HK := Lib.hid hk
  clear h p1 p2 p3
  by_cases hA : 1 ≤ n0 ∧ n0 ≤ 8
  case neg => exact LI_hA bb n0 x1 x2 x3 a1 a2 a3 c1 c2 c3 w HK P1 P2 P3 (by omega) (by omega) (by omega) hA
  by_cases hB : 1 ≤ x2.length
  case neg => exact LI_hB bb n0 x1 x2 x3 a1 a2 a3 c1 c2 c3 w HK P1 P2 P3 (by omega) (by omega) (by omega) hA hB
  by_cases hE : x2.length ≤ 8
  case neg => exact LI_hE bb n0 x1 x2 x3 a1 a2 a3 c1 c2 c3 w HK P1 P2 P3 (by omega) (by omega) (by omega) hA hB hE
  by_cases hC : (x3.length : Int) = n0
  case neg => exact LI_hC bb n0 x1 x2 x3 a1 a2 a3 c1 c2 c3 w HK P1 P2 P3 (by omega) (by omega) (by omega) hA hB hE hC
  by_cases hD : (x1.length : Int) = n0 * x2.length
  case neg => exact LI_hD bb n0 x1 x2 x3 a1 a2 a3 c1 c2 c3 w HK P1 P2 P3 (by omega) (by omega) (by omega) hA hB hE hC hD
  by_cases hF : allFin x1 = true
  case neg => exact LI_hF bb n0 x1 x2 x3 a1 a2 a3 c1 c2 c3 w HK P1 P2 P3 (by omega) (by omega) (by omega) hA hB hE hC hD hF
  by_cases hG : allFin x3 = true
  case neg => exact LI_hG bb n0 x1 x2 x3 a1 a2 a3 c1 c2 c3 w HK P1 P2 P3 (by omega) (by omega) (by omega) hA hB hE hC hD hF hG
  exact LI_yes bb n0 x1 x2 x3 a1 a2 a3 c1 c2 c3 w HK P1 P2 P3 (by omega) (by omega) (by omega) hA hB hE hC hD hF hG

theorem l02Is_any (bb : Nat) (v0 v1 v2 v3 : Value) (r : RowsD) (w : World) (hk : Blk w bb 35 #[v0, v1, v2, v3]) (h : RdR w (.agg #[v0, v1, v2, v3]) r) :
    Calls Tryd.prog 32 #[.pointer (some ⟨bb, 0, none⟩)] w fun e w' => e = .returned (.bool (validR r)) ∧ ∃ m, w' = w.drewN m := l02Is_cels bb v0 v1 v2 v3 r w hk.cels h

end Go.Proofs.YtggpbekclegfoaaDoor

namespace Go.Proofs.YtggpbekclegfoaaDoor
open Go.RowKit

theorem boundR {v : Value} {r : RowsD} {w : World} (_h : RdR w v r) (hv : ValR r) : r.nums.length ≤ 64 ∧ r.bnds.length ≤ 8 ∧ r.gains.length ≤ 8 := by
  have h1 := hv.nl
  have h2 := mulR hv.v1 hv.v8 hv.b8
  have h3 := hv.gl
  have h4 := hv.v8
  have h5 := hv.b8
  omega

theorem ownRows_fin {w W Wl : World} {n0 : Int} {x1 x2 x3 : List Nat} {yA yB yC : Value} {lA hA lB hB lC hC : Nat} (hb : Below w.heap.size w W) (hbn : Below W.heap.size W Wl) (hsz : w.heap.size + 1 < W.heap.size)
    (oA : OwnF lA hA Wl yA x1) (oB : OwnF lB hB Wl yB x2) (oC : OwnF lC hC Wl yC x3) (gA : W.heap.size ≤ lA ∧ hA ≤ Wl.heap.size) (gB : W.heap.size ≤ lB ∧ hB ≤ Wl.heap.size) (gC : W.heap.size ≤ lC ∧ hC ≤ Wl.heap.size)
    (dAB : hA ≤ lB ∨ hB ≤ lA) (dAC : hA ≤ lC ∨ hC ≤ lA) (dBC : hB ≤ lC ∨ hC ≤ lB) :
    ∀ Wf, Kept (· = w.heap.size + 1) Wl Wf → Wf.heap.size = Wl.heap.size → OwnR w.heap.size Wf.heap.size Wf (.agg #[.int .i64 n0, yA, yB, yC]) ⟨n0, x1, x2, x3⟩ ∧ Below w.heap.size w Wf := by
  intro Wf hk hz
  have z1 := hb.size
  have z2 := hbn.size
  have k1 := (oA.kept hk (by intro b h1 h2 h3; omega)).wide (lo' := w.heap.size) (hi' := Wf.heap.size) (by omega) (by omega)
  have k2 := (oB.kept hk (by intro b h1 h2 h3; omega)).wide (lo' := w.heap.size) (hi' := Wf.heap.size) (by omega) (by omega)
  have k3 := (oC.kept hk (by intro b h1 h2 h3; omega)).wide (lo' := w.heap.size) (hi' := Wf.heap.size) (by omega) (by omega)
  have hbl : Below w.heap.size w Wl := hb.trans (hbn.mono hb.size)
  refine ⟨⟨_, _, _, rfl, k1, k2, k3, ?_, ?_, ?_⟩, hbl.trans (hk.toBelow hbl.size (by intro k h1 h2; omega))⟩
  · intro g q1 q2; have := oA.blk q1; have := oB.blk q2; omega
  · intro g q1 q2; have := oA.blk q1; have := oC.blk q2; omega
  · intro g q1 q2; have := oB.blk q1; have := oC.blk q2; omega

def zeroR : RowsD := ⟨0, [], [], []⟩

set_option maxHeartbeats 1000000 in
theorem checked_any (v : Value) (r : RowsD) (w : World) (h : RdR w v r) :
    Calls Tryd.prog 46 #[v] w fun e w' => e = .returned (.tuple #[if validR r = true then v else .agg #[.int .i64 0, .slice none 0 0, .slice none 0 0, .slice none 0 0], .bool (validR r)]) ∧ Below w.heap.size w w' := by
  obtain ⟨a1, c1, a2, c2, a3, c3, rfl⟩ := h.shape
  obtain ⟨n0, x1, x2, x3⟩ := r
  simp only
  have HP := Lib.hid h
  clear h
  obtain ⟨V, hV⟩ : ∃ V : Value, V = if validR ⟨n0, x1, x2, x3⟩ = true then .agg #[.int .i64 n0, .slice a1 x1.length c1, .slice a2 x2.length c2, .slice a3 x3.length c3] else .agg #[.int .i64 0, .slice none 0 0, .slice none 0 0, .slice none 0 0] := ⟨_, rfl⟩
  rw [← hV]
  have HVV := Lib.hid hV
  clear hV
  go_enter Tryd.func46, Tryd.ntmps46
  go_wp2_with fail
  refine Calls.at fun W hW => ?_
  have HB := Lib.hid (show Below w.heap.size w W by subst hW; (repeat' first | exact Below.refl _ _ | assumption | refine Below.alloc ?_ ?_ _ | refine Below.setCell ?_ ?_ _ | refine Below.drew ?_ | (simp; done) | (simp; omega)))
  have HK := Lib.hid (show Blk W w.heap.size 35 #[.int .i64 n0, .slice a1 x1.length c1, .slice a2 x2.length c2, .slice a3 x3.length c3] by subst hW; exact (Blk.new _ _ _).alloc _)
  have HL := Lib.hid (show Blk W (w.heap.size + 1) 35 #[.int .i64 0, .slice none 0 0, .slice none 0 0, .slice none 0 0] by subst hW; simpa using Blk.new (w.alloc (.cells #[.int .i64 n0, .slice a1 x1.length c1, .slice a2 x2.length c2, .slice a3 x3.length c3] 35)) 35 #[.int .i64 0, .slice none 0 0, .slice none 0 0, .slice none 0 0])
  clear hW
  refine (ValidRows_any _ ⟨n0, x1, x2, x3⟩ W (HP.out.up HB.out (Nat.le_refl _))).mono ?_
  rintro e w1 ⟨rfl, hb1⟩
  have HB1 := Lib.hid (HB.out.trans (hb1.mono HB.out.size))
  have HK1 := Lib.hid (HK.out.below hb1 HK.out.lt)
  have HL1 := Lib.hid (HL.out.below hb1 HL.out.lt)
  clear hb1
  have d0 : w1.cell? ⟨w.heap.size, 0, none⟩ = some (.int .i64 n0) := HK1.out.cell 0 rfl
  have d1 : w1.cell? ⟨w.heap.size, 1, none⟩ = some (.slice a1 x1.length c1) := HK1.out.cell 1 rfl
  have d2 : w1.cell? ⟨w.heap.size, 2, none⟩ = some (.slice a2 x2.length c2) := HK1.out.cell 2 rfl
  have d3 : w1.cell? ⟨w.heap.size, 3, none⟩ = some (.slice a3 x3.length c3) := HK1.out.cell 3 rfl
  have e0 : w1.cell? ⟨w.heap.size + 1, 0, none⟩ = some (.int .i64 0) := HL1.out.cell 0 rfl
  have e1 : w1.cell? ⟨w.heap.size + 1, 1, none⟩ = some (.slice none 0 0) := HL1.out.cell 1 rfl
  have e2 : w1.cell? ⟨w.heap.size + 1, 2, none⟩ = some (.slice none 0 0) := HL1.out.cell 2 rfl
  have e3 : w1.cell? ⟨w.heap.size + 1, 3, none⟩ = some (.slice none 0 0) := HL1.out.cell 3 rfl
  have f0 := HL1.out.free 0
  have f1 := HL1.out.free 1
  have f2 := HL1.out.free 2
  have f3 := HL1.out.free 3
  have fin : ∀ Wf, Kept (· = w.heap.size + 1) w1 Wf → Below w.heap.size w Wf := fun Wf hk => HB1.out.trans (hk.toBelow HB1.out.size (by intro k h1 h2; omega))
  have FIN := Lib.hid fin
  clear fin
  by_cases hv : validR ⟨n0, x1, x2, x3⟩ = true
  · have HV := Lib.hid hv
    rw [hv]
    clear hv
    go_wp2_with fail
    refine bodyPost_ret (v := .tuple #[.agg #[.int .i64 n0, .slice a1 x1.length c1, .slice a2 x2.length c2, .slice a3 x3.length c3], .bool true]) (by simp [results, Tryd.results46, go_sem, *]) rfl ⟨by rw [HVV.out, HV.out]; rfl, FIN.out _ ?_⟩
    repeat' first | exact Kept.refl _ _ | refine Kept.setCell ?_ (.inr (by simp)) _
  · rw [Bool.not_eq_true] at hv
    have HV := Lib.hid hv
    rw [hv]
    clear hv
    go_wp2_with fail
    refine bodyPost_ret (v := .tuple #[.agg #[.int .i64 0, .slice none 0 0, .slice none 0 0, .slice none 0 0], .bool false]) (by simp [results, Tryd.results46, go_sem, *]) rfl ⟨by rw [HVV.out, HV.out]; rfl, FIN.out _ ?_⟩
    repeat' first | exact Kept.refl _ _ | refine Kept.setCell ?_ (.inr (by simp)) _

set_option maxHeartbeats 1000000 in
theorem l02Give_any (v : Value) (r : RowsD) (w : World) (h : RdR w v r) :
    Calls Tryd.prog 74 #[v] w fun e w' => e = .returned (.tuple #[if validR r = true then v else .agg #[.int .i64 0, .slice none 0 0, .slice none 0 0, .slice none 0 0], .bool (validR r)]) ∧ Below w.heap.size w w' := by
  obtain ⟨a1, c1, a2, c2, a3, c3, rfl⟩ := h.shape
  obtain ⟨n0, x1, x2, x3⟩ := r
  simp only
  have HP := Lib.hid h
  clear h
  obtain ⟨V, hV⟩ : ∃ V : Value, V = if validR ⟨n0, x1, x2, x3⟩ = true then .agg #[.int .i64 n0, .slice a1 x1.length c1, .slice a2 x2.length c2, .slice a3 x3.length c3] else .agg #[.int .i64 0, .slice none 0 0, .slice none 0 0, .slice none 0 0] := ⟨_, rfl⟩
  rw [← hV]
  have HVV := Lib.hid hV
  clear hV
  go_enter Tryd.func74, Tryd.ntmps74
  go_wp2_with fail
  refine Calls.at fun W hW => ?_
  have HB := Lib.hid (show Below w.heap.size w W by subst hW; (repeat' first | exact Below.refl _ _ | assumption | refine Below.alloc ?_ ?_ _ | refine Below.setCell ?_ ?_ _ | refine Below.drew ?_ | (simp; done) | (simp; omega)))
  have HK := Lib.hid (show Blk W w.heap.size 35 #[.int .i64 n0, .slice a1 x1.length c1, .slice a2 x2.length c2, .slice a3 x3.length c3] by subst hW; exact (Blk.new _ _ _).alloc _)
  have HL := Lib.hid (show Blk W (w.heap.size + 1) 35 #[.int .i64 0, .slice none 0 0, .slice none 0 0, .slice none 0 0] by subst hW; simpa using Blk.new (w.alloc (.cells #[.int .i64 n0, .slice a1 x1.length c1, .slice a2 x2.length c2, .slice a3 x3.length c3] 35)) 35 #[.int .i64 0, .slice none 0 0, .slice none 0 0, .slice none 0 0])
  clear hW
  refine (l02Is_any w.heap.size _ _ _ _ ⟨n0, x1, x2, x3⟩ W HK.out (HP.out.up HB.out (Nat.le_refl _))).mono ?_
  rintro e w1 ⟨rfl, hd1⟩
  have hb1 : Below W.heap.size W w1 := by obtain ⟨m, rfl⟩ := hd1; exact below_drewN (Below.refl _ _) _
  have HB1 := Lib.hid (HB.out.trans (hb1.mono HB.out.size))
  have HK1 := Lib.hid (HK.out.below hb1 HK.out.lt)
  have HL1 := Lib.hid (HL.out.below hb1 HL.out.lt)
  clear hb1 hd1
  have d0 : w1.cell? ⟨w.heap.size, 0, none⟩ = some (.int .i64 n0) := HK1.out.cell 0 rfl
  have d1 : w1.cell? ⟨w.heap.size, 1, none⟩ = some (.slice a1 x1.length c1) := HK1.out.cell 1 rfl
  have d2 : w1.cell? ⟨w.heap.size, 2, none⟩ = some (.slice a2 x2.length c2) := HK1.out.cell 2 rfl
  have d3 : w1.cell? ⟨w.heap.size, 3, none⟩ = some (.slice a3 x3.length c3) := HK1.out.cell 3 rfl
  have e0 : w1.cell? ⟨w.heap.size + 1, 0, none⟩ = some (.int .i64 0) := HL1.out.cell 0 rfl
  have e1 : w1.cell? ⟨w.heap.size + 1, 1, none⟩ = some (.slice none 0 0) := HL1.out.cell 1 rfl
  have e2 : w1.cell? ⟨w.heap.size + 1, 2, none⟩ = some (.slice none 0 0) := HL1.out.cell 2 rfl
  have e3 : w1.cell? ⟨w.heap.size + 1, 3, none⟩ = some (.slice none 0 0) := HL1.out.cell 3 rfl
  have f0 := HL1.out.free 0
  have f1 := HL1.out.free 1
  have f2 := HL1.out.free 2
  have f3 := HL1.out.free 3
  have fin : ∀ Wf, Kept (· = w.heap.size + 1) w1 Wf → Below w.heap.size w Wf := fun Wf hk => HB1.out.trans (hk.toBelow HB1.out.size (by intro k h1 h2; omega))
  have FIN := Lib.hid fin
  clear fin
  by_cases hv : validR ⟨n0, x1, x2, x3⟩ = true
  · have HV := Lib.hid hv
    rw [hv]
    clear hv
    go_wp2_with fail
    refine bodyPost_ret (v := .tuple #[.agg #[.int .i64 n0, .slice a1 x1.length c1, .slice a2 x2.length c2, .slice a3 x3.length c3], .bool true]) (by simp [results, Tryd.results74, go_sem, *]) rfl ⟨by rw [HVV.out, HV.out]; rfl, FIN.out _ ?_⟩
    repeat' first | exact Kept.refl _ _ | refine Kept.setCell ?_ (.inr (by simp)) _
  · rw [Bool.not_eq_true] at hv
    have HV := Lib.hid hv
    rw [hv]
    clear hv
    go_wp2_with fail
    refine bodyPost_ret (v := .tuple #[.agg #[.int .i64 0, .slice none 0 0, .slice none 0 0, .slice none 0 0], .bool false]) (by simp [results, Tryd.results74, go_sem, *]) rfl ⟨by rw [HVV.out, HV.out]; rfl, FIN.out _ ?_⟩
    repeat' first | exact Kept.refl _ _ | refine Kept.setCell ?_ (.inr (by simp)) _

end Go.Proofs.YtggpbekclegfoaaDoor

namespace Go.Proofs.YtggpbekclegfoaaDoor
open Go.RowKit

def zeroCells : Array Value := #[.int .i64 0, .slice none 0 0, .slice none 0 0, .slice none 0 0]
theorem ownsF_emptyB (w : World) (b : Nat) (hb : b = w.heap.size) : (w.alloc (.cells #[] 83)).ownsRow w.heap.size 83 1 (.slice (some ⟨b, 0, none⟩) 0 0) 0 (([] : List Nat).map F32) := by subst hb; exact ownsF_empty w

theorem Blk.newB (w : World) (t : TypeId) (cs : Array Value) (b : Nat) (hb : b = w.heap.size) : Blk (w.alloc (.cells cs t)) b t cs := by subst hb; exact Blk.new w t cs

/-- A block beside what has grown. -/
theorem blk_grown {w w' : World} {b : Nat} {t : TypeId} {cs : Array Value} {row : Option Nat} (h : Blk w b t cs) (hg : w.grownBy w' row) (hne : row ≠ some b) : Blk w' b t cs :=
  (hg.block b h.lt fun e => hne e.symm).trans h

theorem ownRows_finP {p : Nat} {w W Wl : World} {n0 : Int} {x1 x2 x3 : List Nat} {yA yB yC : Value} {lA hA lB hB lC hC : Nat} (hb : Below w.heap.size w W) (hbn : Below W.heap.size W Wl) (hsp : w.heap.size ≤ p) (hsz : p < W.heap.size)
    (oA : OwnF lA hA Wl yA x1) (oB : OwnF lB hB Wl yB x2) (oC : OwnF lC hC Wl yC x3) (gA : W.heap.size ≤ lA ∧ hA ≤ Wl.heap.size) (gB : W.heap.size ≤ lB ∧ hB ≤ Wl.heap.size) (gC : W.heap.size ≤ lC ∧ hC ≤ Wl.heap.size)
    (dAB : hA ≤ lB ∨ hB ≤ lA) (dAC : hA ≤ lC ∨ hC ≤ lA) (dBC : hB ≤ lC ∨ hC ≤ lB) :
    ∀ Wf, Kept (· = p) Wl Wf → Wf.heap.size = Wl.heap.size → OwnR w.heap.size Wf.heap.size Wf (.agg #[.int .i64 n0, yA, yB, yC]) ⟨n0, x1, x2, x3⟩ ∧ Below w.heap.size w Wf := by
  intro Wf hk hz
  have z1 := hb.size
  have z2 := hbn.size
  have k1 := (oA.kept hk (by intro b h1 h2 h3; omega)).wide (lo' := w.heap.size) (hi' := Wf.heap.size) (by omega) (by omega)
  have k2 := (oB.kept hk (by intro b h1 h2 h3; omega)).wide (lo' := w.heap.size) (hi' := Wf.heap.size) (by omega) (by omega)
  have k3 := (oC.kept hk (by intro b h1 h2 h3; omega)).wide (lo' := w.heap.size) (hi' := Wf.heap.size) (by omega) (by omega)
  have hbl : Below w.heap.size w Wl := hb.trans (hbn.mono hb.size)
  refine ⟨⟨_, _, _, rfl, k1, k2, k3, ?_, ?_, ?_⟩, hbl.trans (hk.toBelow hbl.size (by intro k h1 h2; omega))⟩
  · intro g q1 q2; have := oA.blk q1; have := oB.blk q2; omega
  · intro g q1 q2; have := oA.blk q1; have := oC.blk q2; omega
  · intro g q1 q2; have := oB.blk q1; have := oC.blk q2; omega

end Go.Proofs.YtggpbekclegfoaaDoor
