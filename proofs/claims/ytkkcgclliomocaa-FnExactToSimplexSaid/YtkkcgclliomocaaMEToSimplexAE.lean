/-
  FnExactToSimplex: texts joined: ValidRS, Round, Left, LeftI.
-/
import Derived.Test.YtkkcgclliomocaaMEToSimplexAB
import Derived.Test.YtkkcgclliomocaaMEToSimplexAD
namespace Go.Proofs.Ytkkcgclliomocaa
open Go.RowKit

theorem l02Finite_qs (v : Value) (xs : List Nat) (w : World) (n : Nat) (h : RdF w v xs) :
    Calls Try.prog 115 #[v] (w.drewN n) fun e w'' => e = .returned (.bool (allFin xs)) ∧ ∃ m, w'' = w.drewN m := by
  refine (l02Finite_any v xs _ (h.drewN n)).mono ?_
  rintro e w' ⟨rfl, hd⟩
  exact ⟨rfl, drewN_then ⟨n, rfl⟩ hd⟩

/-- Cells that lie side by side. -/
def Cels (w : World) (b : Nat) (cs : Array Value) : Prop := ∀ (j : Nat) (u : Value), cs[j]? = some u → w.cell? ⟨b, j, none⟩ = some u
theorem Cels.cell {w : World} {b : Nat} {cs : Array Value} (h : Cels w b cs) (j : Nat) {u : Value} (hj : cs[j]? = some u) : w.cell? ⟨b, j, none⟩ = some u := h j u hj
theorem Blk.cels {w : World} {b : Nat} {t : TypeId} {cs : Array Value} (h : Blk w b t cs) : Cels w b cs := fun j _ hj => h.cell j hj

set_option maxHeartbeats 4000000 in
set_option maxRecDepth 4000 in
theorem LI_hA (bb : Nat) (n0 : Int) (x1 x2 x3 : List Nat) (a1 a2 a3 : Option Addr) (c1 c2 c3 : Nat) (w : World) (HK : Hid (Cels w bb #[.int .i64 n0, .slice a1 x1.length c1, .slice a2 x2.length c2, .slice a3 x3.length c3])) (P1 : Hid (RdF w (.slice a1 x1.length c1) x1)) (P2 : Hid (RdF w (.slice a2 x2.length c2) x2)) (P3 : Hid (RdF w (.slice a3 x3.length c3) x3)) (l1 : x1.length ≤ 9223372036854775807) (l2 : x2.length ≤ 9223372036854775807) (l3 : x3.length ≤ 9223372036854775807)
    (hA : ¬ (1 ≤ n0 ∧ n0 ≤ 8)) :
    Calls Try.prog 71 #[.pointer (some ⟨bb, 0, none⟩)] w fun e w' => e = .returned (.bool (validR ⟨n0, x1, x2, x3⟩)) ∧ ∃ m, w' = w.drewN m := by
  have hin := inB_false (lo := 1) (hi := 8) (n := n0) hA
  have HNO := Lib.hid (validR_false (r := ⟨n0, x1, x2, x3⟩) (fun h => hA ⟨h.v1, h.v8⟩))
  clear hA
  have d0 : w.cell? ⟨bb, 0, none⟩ = some (.int .i64 n0) := HK.out.cell 0 rfl
  have d1 : w.cell? ⟨bb, 1, none⟩ = some (.slice a1 x1.length c1) := HK.out.cell 1 rfl
  have d2 : w.cell? ⟨bb, 2, none⟩ = some (.slice a2 x2.length c2) := HK.out.cell 2 rfl
  have d3 : w.cell? ⟨bb, 3, none⟩ = some (.slice a3 x3.length c3) := HK.out.cell 3 rfl
  go_enter Try.func71, Try.ntmps71
  go_wp2_with fail
  go_quiet ((go_at_call 114; exact quiet_same (in_any _ _ _ _)))
  go_wp2_with fail
  go_ret
  exact ⟨by rw [HNO.out]; rfl, _, rfl⟩

set_option maxHeartbeats 4000000 in
set_option maxRecDepth 4000 in
theorem LI_hB (bb : Nat) (n0 : Int) (x1 x2 x3 : List Nat) (a1 a2 a3 : Option Addr) (c1 c2 c3 : Nat) (w : World) (HK : Hid (Cels w bb #[.int .i64 n0, .slice a1 x1.length c1, .slice a2 x2.length c2, .slice a3 x3.length c3])) (P1 : Hid (RdF w (.slice a1 x1.length c1) x1)) (P2 : Hid (RdF w (.slice a2 x2.length c2) x2)) (P3 : Hid (RdF w (.slice a3 x3.length c3) x3)) (l1 : x1.length ≤ 9223372036854775807) (l2 : x2.length ≤ 9223372036854775807) (l3 : x3.length ≤ 9223372036854775807)
    (hA : 1 ≤ n0 ∧ n0 ≤ 8) (hB : ¬ (1 ≤ x2.length)) :
    Calls Try.prog 71 #[.pointer (some ⟨bb, 0, none⟩)] w fun e w' => e = .returned (.bool (validR ⟨n0, x1, x2, x3⟩)) ∧ ∃ m, w' = w.drewN m := by
  have hin := inB_true (lo := 1) (hi := 8) (n := n0) hA
  have hb1 : decide ((x2.length : Int) < 1) = true := by simp; omega
  have HNO := Lib.hid (validR_false (r := ⟨n0, x1, x2, x3⟩) (fun h => hB h.b1))
  clear hA hB
  have d0 : w.cell? ⟨bb, 0, none⟩ = some (.int .i64 n0) := HK.out.cell 0 rfl
  have d1 : w.cell? ⟨bb, 1, none⟩ = some (.slice a1 x1.length c1) := HK.out.cell 1 rfl
  have d2 : w.cell? ⟨bb, 2, none⟩ = some (.slice a2 x2.length c2) := HK.out.cell 2 rfl
  have d3 : w.cell? ⟨bb, 3, none⟩ = some (.slice a3 x3.length c3) := HK.out.cell 3 rfl
  go_enter Try.func71, Try.ntmps71
  go_wp2_with fail
  go_quiet ((go_at_call 114; exact quiet_same (in_any _ _ _ _)))
  go_wp2_with fail
  go_ret
  exact ⟨by rw [HNO.out]; rfl, _, rfl⟩

set_option maxHeartbeats 4000000 in
set_option maxRecDepth 4000 in
theorem LI_hE (bb : Nat) (n0 : Int) (x1 x2 x3 : List Nat) (a1 a2 a3 : Option Addr) (c1 c2 c3 : Nat) (w : World) (HK : Hid (Cels w bb #[.int .i64 n0, .slice a1 x1.length c1, .slice a2 x2.length c2, .slice a3 x3.length c3])) (P1 : Hid (RdF w (.slice a1 x1.length c1) x1)) (P2 : Hid (RdF w (.slice a2 x2.length c2) x2)) (P3 : Hid (RdF w (.slice a3 x3.length c3) x3)) (l1 : x1.length ≤ 9223372036854775807) (l2 : x2.length ≤ 9223372036854775807) (l3 : x3.length ≤ 9223372036854775807)
    (hA : 1 ≤ n0 ∧ n0 ≤ 8) (hB : 1 ≤ x2.length) (hE : ¬ (x2.length ≤ 8)) :
    Calls Try.prog 71 #[.pointer (some ⟨bb, 0, none⟩)] w fun e w' => e = .returned (.bool (validR ⟨n0, x1, x2, x3⟩)) ∧ ∃ m, w' = w.drewN m := by
  have hin := inB_true (lo := 1) (hi := 8) (n := n0) hA
  have hb1 : decide ((x2.length : Int) < 1) = false := by simp; omega
  have hb8 : decide ((8 : Int) < x2.length) = true := by simp; omega
  have HNO := Lib.hid (validR_false (r := ⟨n0, x1, x2, x3⟩) (fun h => hE h.b8))
  clear hA hE
  have d0 : w.cell? ⟨bb, 0, none⟩ = some (.int .i64 n0) := HK.out.cell 0 rfl
  have d1 : w.cell? ⟨bb, 1, none⟩ = some (.slice a1 x1.length c1) := HK.out.cell 1 rfl
  have d2 : w.cell? ⟨bb, 2, none⟩ = some (.slice a2 x2.length c2) := HK.out.cell 2 rfl
  have d3 : w.cell? ⟨bb, 3, none⟩ = some (.slice a3 x3.length c3) := HK.out.cell 3 rfl
  go_enter Try.func71, Try.ntmps71
  go_wp2_with fail
  go_quiet ((go_at_call 114; exact quiet_same (in_any _ _ _ _)))
  go_wp2_with fail
  go_ret
  exact ⟨by rw [HNO.out]; rfl, _, rfl⟩

set_option maxHeartbeats 4000000 in
set_option maxRecDepth 4000 in
theorem LI_hC (bb : Nat) (n0 : Int) (x1 x2 x3 : List Nat) (a1 a2 a3 : Option Addr) (c1 c2 c3 : Nat) (w : World) (HK : Hid (Cels w bb #[.int .i64 n0, .slice a1 x1.length c1, .slice a2 x2.length c2, .slice a3 x3.length c3])) (P1 : Hid (RdF w (.slice a1 x1.length c1) x1)) (P2 : Hid (RdF w (.slice a2 x2.length c2) x2)) (P3 : Hid (RdF w (.slice a3 x3.length c3) x3)) (l1 : x1.length ≤ 9223372036854775807) (l2 : x2.length ≤ 9223372036854775807) (l3 : x3.length ≤ 9223372036854775807)
    (hA : 1 ≤ n0 ∧ n0 ≤ 8) (hB : 1 ≤ x2.length) (hE : x2.length ≤ 8) (hC : ¬ ((x3.length : Int) = n0)) :
    Calls Try.prog 71 #[.pointer (some ⟨bb, 0, none⟩)] w fun e w' => e = .returned (.bool (validR ⟨n0, x1, x2, x3⟩)) ∧ ∃ m, w' = w.drewN m := by
  have hin := inB_true (lo := 1) (hi := 8) (n := n0) hA
  have hb1 : decide ((x2.length : Int) < 1) = false := by simp; omega
  have hb8 : decide ((8 : Int) < x2.length) = false := by simp; omega
  have hcb : ((x3.length : Int) != n0) = true := by simp [hC]
  have HNO := Lib.hid (validR_false (r := ⟨n0, x1, x2, x3⟩) (fun h => hC h.gl))
  clear hA hC
  have d0 : w.cell? ⟨bb, 0, none⟩ = some (.int .i64 n0) := HK.out.cell 0 rfl
  have d1 : w.cell? ⟨bb, 1, none⟩ = some (.slice a1 x1.length c1) := HK.out.cell 1 rfl
  have d2 : w.cell? ⟨bb, 2, none⟩ = some (.slice a2 x2.length c2) := HK.out.cell 2 rfl
  have d3 : w.cell? ⟨bb, 3, none⟩ = some (.slice a3 x3.length c3) := HK.out.cell 3 rfl
  go_enter Try.func71, Try.ntmps71
  go_wp2_with fail
  go_quiet ((go_at_call 114; exact quiet_same (in_any _ _ _ _)))
  go_wp2_with fail
  go_ret
  exact ⟨by rw [HNO.out]; rfl, _, rfl⟩

set_option maxHeartbeats 4000000 in
set_option maxRecDepth 4000 in
theorem LI_hD (bb : Nat) (n0 : Int) (x1 x2 x3 : List Nat) (a1 a2 a3 : Option Addr) (c1 c2 c3 : Nat) (w : World) (HK : Hid (Cels w bb #[.int .i64 n0, .slice a1 x1.length c1, .slice a2 x2.length c2, .slice a3 x3.length c3])) (P1 : Hid (RdF w (.slice a1 x1.length c1) x1)) (P2 : Hid (RdF w (.slice a2 x2.length c2) x2)) (P3 : Hid (RdF w (.slice a3 x3.length c3) x3)) (l1 : x1.length ≤ 9223372036854775807) (l2 : x2.length ≤ 9223372036854775807) (l3 : x3.length ≤ 9223372036854775807)
    (hA : 1 ≤ n0 ∧ n0 ≤ 8) (hB : 1 ≤ x2.length) (hE : x2.length ≤ 8) (hC : (x3.length : Int) = n0) (hD : ¬ ((x1.length : Int) = n0 * x2.length)) :
    Calls Try.prog 71 #[.pointer (some ⟨bb, 0, none⟩)] w fun e w' => e = .returned (.bool (validR ⟨n0, x1, x2, x3⟩)) ∧ ∃ m, w' = w.drewN m := by
  have hin := inB_true (lo := 1) (hi := 8) (n := n0) hA
  have hb1 : decide ((x2.length : Int) < 1) = false := by simp; omega
  have hb8 : decide ((8 : Int) < x2.length) = false := by simp; omega
  have hcb : ((x3.length : Int) != n0) = false := by simp [hC]
  obtain ⟨M, hM⟩ : ∃ M : Int, M = n0 * x2.length := ⟨_, rfl⟩
  have hM0 : 0 ≤ M ∧ M ≤ 64 := by have := mulR hA.1 hA.2 hE; omega
  have hmul : IntKind.i64.wrap (n0 * (x2.length : Int)) = M := by rw [IntWalk.i64_in _ (by omega), hM]
  have hdb : ((x1.length : Int) != M) = true := by rw [hM]; simp [hD]
  have HM := Lib.hid hM
  clear hM
  have HNO := Lib.hid (validR_false (r := ⟨n0, x1, x2, x3⟩) (fun h => hD h.nl))
  clear hA hC hD
  have d0 : w.cell? ⟨bb, 0, none⟩ = some (.int .i64 n0) := HK.out.cell 0 rfl
  have d1 : w.cell? ⟨bb, 1, none⟩ = some (.slice a1 x1.length c1) := HK.out.cell 1 rfl
  have d2 : w.cell? ⟨bb, 2, none⟩ = some (.slice a2 x2.length c2) := HK.out.cell 2 rfl
  have d3 : w.cell? ⟨bb, 3, none⟩ = some (.slice a3 x3.length c3) := HK.out.cell 3 rfl
  go_enter Try.func71, Try.ntmps71
  go_wp2_with fail
  go_quiet ((go_at_call 114; exact quiet_same (in_any _ _ _ _)))
  obtain ⟨W2, hW2⟩ : ∃ W2, W2 = w.drewN nq := ⟨_, rfl⟩
  rw [← hW2]
  have HK2 := Lib.hid (show Cels W2 bb #[.int .i64 n0, .slice a1 x1.length c1, .slice a2 x2.length c2, .slice a3 x3.length c3] by subst hW2; exact HK.out)
  have Q1 := Lib.hid (show RdF W2 _ x1 by subst hW2; exact P1.out.drewN _)
  have Q2 := Lib.hid (show RdF W2 _ x2 by subst hW2; exact P2.out.drewN _)
  have Q3 := Lib.hid (show RdF W2 _ x3 by subst hW2; exact P3.out.drewN _)
  have HD2 := Lib.hid (show ∃ m, W2 = w.drewN m from ⟨_, hW2⟩)
  clear hW2 d0 d1 d2 d3
  have d0 : W2.cell? ⟨bb, 0, none⟩ = some (.int .i64 n0) := HK2.out.cell 0 rfl
  have d1 : W2.cell? ⟨bb, 1, none⟩ = some (.slice a1 x1.length c1) := HK2.out.cell 1 rfl
  have d2 : W2.cell? ⟨bb, 2, none⟩ = some (.slice a2 x2.length c2) := HK2.out.cell 2 rfl
  have d3 : W2.cell? ⟨bb, 3, none⟩ = some (.slice a3 x3.length c3) := HK2.out.cell 3 rfl
  go_wp2_with fail
  go_quiet (first
    | (go_at_call 115; exact l02Finite_qs _ x1 _ _ Q1.out)
    | (go_at_call 115; exact l02Finite_qs _ x3 _ _ Q3.out))
  go_wp2_with fail
  go_ret
  exact ⟨by rw [HNO.out]; rfl, drewN_ex HD2.out _⟩

set_option maxHeartbeats 4000000 in
set_option maxRecDepth 4000 in
theorem LI_hF (bb : Nat) (n0 : Int) (x1 x2 x3 : List Nat) (a1 a2 a3 : Option Addr) (c1 c2 c3 : Nat) (w : World) (HK : Hid (Cels w bb #[.int .i64 n0, .slice a1 x1.length c1, .slice a2 x2.length c2, .slice a3 x3.length c3])) (P1 : Hid (RdF w (.slice a1 x1.length c1) x1)) (P2 : Hid (RdF w (.slice a2 x2.length c2) x2)) (P3 : Hid (RdF w (.slice a3 x3.length c3) x3)) (l1 : x1.length ≤ 9223372036854775807) (l2 : x2.length ≤ 9223372036854775807) (l3 : x3.length ≤ 9223372036854775807)
    (hA : 1 ≤ n0 ∧ n0 ≤ 8) (hB : 1 ≤ x2.length) (hE : x2.length ≤ 8) (hC : (x3.length : Int) = n0) (hD : (x1.length : Int) = n0 * x2.length) (hF : ¬ (allFin x1 = true)) :
    Calls Try.prog 71 #[.pointer (some ⟨bb, 0, none⟩)] w fun e w' => e = .returned (.bool (validR ⟨n0, x1, x2, x3⟩)) ∧ ∃ m, w' = w.drewN m := by
  have hin := inB_true (lo := 1) (hi := 8) (n := n0) hA
  have hb1 : decide ((x2.length : Int) < 1) = false := by simp; omega
  have hb8 : decide ((8 : Int) < x2.length) = false := by simp; omega
  have hcb : ((x3.length : Int) != n0) = false := by simp [hC]
  obtain ⟨M, hM⟩ : ∃ M : Int, M = n0 * x2.length := ⟨_, rfl⟩
  have hM0 : 0 ≤ M ∧ M ≤ 64 := by have := mulR hA.1 hA.2 hE; omega
  have hmul : IntKind.i64.wrap (n0 * (x2.length : Int)) = M := by rw [IntWalk.i64_in _ (by omega), hM]
  have hdb : ((x1.length : Int) != M) = false := by rw [hM]; simp [hD]
  have HM := Lib.hid hM
  clear hM
  have hfb : allFin x1 = false := by simpa using hF
  have HNO := Lib.hid (validR_false (r := ⟨n0, x1, x2, x3⟩) (fun h => hF h.fn))
  clear hA hC hD hF
  have d0 : w.cell? ⟨bb, 0, none⟩ = some (.int .i64 n0) := HK.out.cell 0 rfl
  have d1 : w.cell? ⟨bb, 1, none⟩ = some (.slice a1 x1.length c1) := HK.out.cell 1 rfl
  have d2 : w.cell? ⟨bb, 2, none⟩ = some (.slice a2 x2.length c2) := HK.out.cell 2 rfl
  have d3 : w.cell? ⟨bb, 3, none⟩ = some (.slice a3 x3.length c3) := HK.out.cell 3 rfl
  go_enter Try.func71, Try.ntmps71
  go_wp2_with fail
  go_quiet ((go_at_call 114; exact quiet_same (in_any _ _ _ _)))
  obtain ⟨W2, hW2⟩ : ∃ W2, W2 = w.drewN nq := ⟨_, rfl⟩
  rw [← hW2]
  have HK2 := Lib.hid (show Cels W2 bb #[.int .i64 n0, .slice a1 x1.length c1, .slice a2 x2.length c2, .slice a3 x3.length c3] by subst hW2; exact HK.out)
  have Q1 := Lib.hid (show RdF W2 _ x1 by subst hW2; exact P1.out.drewN _)
  have Q2 := Lib.hid (show RdF W2 _ x2 by subst hW2; exact P2.out.drewN _)
  have Q3 := Lib.hid (show RdF W2 _ x3 by subst hW2; exact P3.out.drewN _)
  have HD2 := Lib.hid (show ∃ m, W2 = w.drewN m from ⟨_, hW2⟩)
  clear hW2 d0 d1 d2 d3
  have d0 : W2.cell? ⟨bb, 0, none⟩ = some (.int .i64 n0) := HK2.out.cell 0 rfl
  have d1 : W2.cell? ⟨bb, 1, none⟩ = some (.slice a1 x1.length c1) := HK2.out.cell 1 rfl
  have d2 : W2.cell? ⟨bb, 2, none⟩ = some (.slice a2 x2.length c2) := HK2.out.cell 2 rfl
  have d3 : W2.cell? ⟨bb, 3, none⟩ = some (.slice a3 x3.length c3) := HK2.out.cell 3 rfl
  go_wp2_with fail
  go_quiet (first
    | (go_at_call 115; exact l02Finite_qs _ x1 _ _ Q1.out)
    | (go_at_call 115; exact l02Finite_qs _ x3 _ _ Q3.out))
  go_wp2_with fail
  go_ret
  exact ⟨by rw [HNO.out]; rfl, drewN_ex HD2.out _⟩

set_option maxHeartbeats 4000000 in
set_option maxRecDepth 4000 in
theorem LI_hG (bb : Nat) (n0 : Int) (x1 x2 x3 : List Nat) (a1 a2 a3 : Option Addr) (c1 c2 c3 : Nat) (w : World) (HK : Hid (Cels w bb #[.int .i64 n0, .slice a1 x1.length c1, .slice a2 x2.length c2, .slice a3 x3.length c3])) (P1 : Hid (RdF w (.slice a1 x1.length c1) x1)) (P2 : Hid (RdF w (.slice a2 x2.length c2) x2)) (P3 : Hid (RdF w (.slice a3 x3.length c3) x3)) (l1 : x1.length ≤ 9223372036854775807) (l2 : x2.length ≤ 9223372036854775807) (l3 : x3.length ≤ 9223372036854775807)
    (hA : 1 ≤ n0 ∧ n0 ≤ 8) (hB : 1 ≤ x2.length) (hE : x2.length ≤ 8) (hC : (x3.length : Int) = n0) (hD : (x1.length : Int) = n0 * x2.length) (hF : allFin x1 = true) (hG : ¬ (allFin x3 = true)) :
    Calls Try.prog 71 #[.pointer (some ⟨bb, 0, none⟩)] w fun e w' => e = .returned (.bool (validR ⟨n0, x1, x2, x3⟩)) ∧ ∃ m, w' = w.drewN m := by
  have hin := inB_true (lo := 1) (hi := 8) (n := n0) hA
  have hb1 : decide ((x2.length : Int) < 1) = false := by simp; omega
  have hb8 : decide ((8 : Int) < x2.length) = false := by simp; omega
  have hcb : ((x3.length : Int) != n0) = false := by simp [hC]
  obtain ⟨M, hM⟩ : ∃ M : Int, M = n0 * x2.length := ⟨_, rfl⟩
  have hM0 : 0 ≤ M ∧ M ≤ 64 := by have := mulR hA.1 hA.2 hE; omega
  have hmul : IntKind.i64.wrap (n0 * (x2.length : Int)) = M := by rw [IntWalk.i64_in _ (by omega), hM]
  have hdb : ((x1.length : Int) != M) = false := by rw [hM]; simp [hD]
  have HM := Lib.hid hM
  clear hM
  have hgb : allFin x3 = false := by simpa using hG
  have HNO := Lib.hid (validR_false (r := ⟨n0, x1, x2, x3⟩) (fun h => hG h.fg))
  clear hA hC hD hG
  have d0 : w.cell? ⟨bb, 0, none⟩ = some (.int .i64 n0) := HK.out.cell 0 rfl
  have d1 : w.cell? ⟨bb, 1, none⟩ = some (.slice a1 x1.length c1) := HK.out.cell 1 rfl
  have d2 : w.cell? ⟨bb, 2, none⟩ = some (.slice a2 x2.length c2) := HK.out.cell 2 rfl
  have d3 : w.cell? ⟨bb, 3, none⟩ = some (.slice a3 x3.length c3) := HK.out.cell 3 rfl
  go_enter Try.func71, Try.ntmps71
  go_wp2_with fail
  go_quiet ((go_at_call 114; exact quiet_same (in_any _ _ _ _)))
  obtain ⟨W2, hW2⟩ : ∃ W2, W2 = w.drewN nq := ⟨_, rfl⟩
  rw [← hW2]
  have HK2 := Lib.hid (show Cels W2 bb #[.int .i64 n0, .slice a1 x1.length c1, .slice a2 x2.length c2, .slice a3 x3.length c3] by subst hW2; exact HK.out)
  have Q1 := Lib.hid (show RdF W2 _ x1 by subst hW2; exact P1.out.drewN _)
  have Q2 := Lib.hid (show RdF W2 _ x2 by subst hW2; exact P2.out.drewN _)
  have Q3 := Lib.hid (show RdF W2 _ x3 by subst hW2; exact P3.out.drewN _)
  have HD2 := Lib.hid (show ∃ m, W2 = w.drewN m from ⟨_, hW2⟩)
  clear hW2 d0 d1 d2 d3
  have d0 : W2.cell? ⟨bb, 0, none⟩ = some (.int .i64 n0) := HK2.out.cell 0 rfl
  have d1 : W2.cell? ⟨bb, 1, none⟩ = some (.slice a1 x1.length c1) := HK2.out.cell 1 rfl
  have d2 : W2.cell? ⟨bb, 2, none⟩ = some (.slice a2 x2.length c2) := HK2.out.cell 2 rfl
  have d3 : W2.cell? ⟨bb, 3, none⟩ = some (.slice a3 x3.length c3) := HK2.out.cell 3 rfl
  go_wp2_with fail
  go_quiet (first
    | (go_at_call 115; exact l02Finite_qs _ x1 _ _ Q1.out)
    | (go_at_call 115; exact l02Finite_qs _ x3 _ _ Q3.out))
  go_wp2_with fail
  go_ret
  exact ⟨by rw [HNO.out]; rfl, drewN_ex HD2.out _⟩

set_option maxHeartbeats 4000000 in
set_option maxRecDepth 4000 in
theorem LI_yes (bb : Nat) (n0 : Int) (x1 x2 x3 : List Nat) (a1 a2 a3 : Option Addr) (c1 c2 c3 : Nat) (w : World) (HK : Hid (Cels w bb #[.int .i64 n0, .slice a1 x1.length c1, .slice a2 x2.length c2, .slice a3 x3.length c3])) (P1 : Hid (RdF w (.slice a1 x1.length c1) x1)) (P2 : Hid (RdF w (.slice a2 x2.length c2) x2)) (P3 : Hid (RdF w (.slice a3 x3.length c3) x3)) (l1 : x1.length ≤ 9223372036854775807) (l2 : x2.length ≤ 9223372036854775807) (l3 : x3.length ≤ 9223372036854775807)
    (hA : 1 ≤ n0 ∧ n0 ≤ 8) (hB : 1 ≤ x2.length) (hE : x2.length ≤ 8) (hC : (x3.length : Int) = n0) (hD : (x1.length : Int) = n0 * x2.length) (hF : allFin x1 = true) (hG : allFin x3 = true)  :
    Calls Try.prog 71 #[.pointer (some ⟨bb, 0, none⟩)] w fun e w' => e = .returned (.bool (validR ⟨n0, x1, x2, x3⟩)) ∧ ∃ m, w' = w.drewN m := by
  have hin := inB_true (lo := 1) (hi := 8) (n := n0) hA
  have hb1 : decide ((x2.length : Int) < 1) = false := by simp; omega
  have hb8 : decide ((8 : Int) < x2.length) = false := by simp; omega
  have hcb : ((x3.length : Int) != n0) = false := by simp [hC]
  obtain ⟨M, hM⟩ : ∃ M : Int, M = n0 * x2.length := ⟨_, rfl⟩
  have hM0 : 0 ≤ M ∧ M ≤ 64 := by have := mulR hA.1 hA.2 hE; omega
  have hmul : IntKind.i64.wrap (n0 * (x2.length : Int)) = M := by rw [IntWalk.i64_in _ (by omega), hM]
  have hdb : ((x1.length : Int) != M) = false := by rw [hM]; simp [hD]
  have HM := Lib.hid hM
  clear hM
  have HA := Lib.hid hA
  have HB := Lib.hid hB
  have HE := Lib.hid hE
  have HC := Lib.hid hC
  have HD := Lib.hid hD
  have HF := Lib.hid hF
  have HG := Lib.hid hG
  clear hA hC hD
  have d0 : w.cell? ⟨bb, 0, none⟩ = some (.int .i64 n0) := HK.out.cell 0 rfl
  have d1 : w.cell? ⟨bb, 1, none⟩ = some (.slice a1 x1.length c1) := HK.out.cell 1 rfl
  have d2 : w.cell? ⟨bb, 2, none⟩ = some (.slice a2 x2.length c2) := HK.out.cell 2 rfl
  have d3 : w.cell? ⟨bb, 3, none⟩ = some (.slice a3 x3.length c3) := HK.out.cell 3 rfl
  go_enter Try.func71, Try.ntmps71
  go_wp2_with fail
  go_quiet ((go_at_call 114; exact quiet_same (in_any _ _ _ _)))
  obtain ⟨W2, hW2⟩ : ∃ W2, W2 = w.drewN nq := ⟨_, rfl⟩
  rw [← hW2]
  have HK2 := Lib.hid (show Cels W2 bb #[.int .i64 n0, .slice a1 x1.length c1, .slice a2 x2.length c2, .slice a3 x3.length c3] by subst hW2; exact HK.out)
  have Q1 := Lib.hid (show RdF W2 _ x1 by subst hW2; exact P1.out.drewN _)
  have Q2 := Lib.hid (show RdF W2 _ x2 by subst hW2; exact P2.out.drewN _)
  have Q3 := Lib.hid (show RdF W2 _ x3 by subst hW2; exact P3.out.drewN _)
  have HD2 := Lib.hid (show ∃ m, W2 = w.drewN m from ⟨_, hW2⟩)
  clear hW2 d0 d1 d2 d3
  have d0 : W2.cell? ⟨bb, 0, none⟩ = some (.int .i64 n0) := HK2.out.cell 0 rfl
  have d1 : W2.cell? ⟨bb, 1, none⟩ = some (.slice a1 x1.length c1) := HK2.out.cell 1 rfl
  have d2 : W2.cell? ⟨bb, 2, none⟩ = some (.slice a2 x2.length c2) := HK2.out.cell 2 rfl
  have d3 : W2.cell? ⟨bb, 3, none⟩ = some (.slice a3 x3.length c3) := HK2.out.cell 3 rfl
  go_wp2_with fail
  go_quiet (first
    | (go_at_call 115; exact l02Finite_qs _ x1 _ _ Q1.out)
    | (go_at_call 115; exact l02Finite_qs _ x3 _ _ Q3.out))
  obtain ⟨W3, hW3⟩ : ∃ W3, W3 = W2.drewN nq := ⟨_, rfl⟩
  rw [← hW3]
  have HK3 := Lib.hid (show Cels W3 bb #[.int .i64 n0, .slice a1 x1.length c1, .slice a2 x2.length c2, .slice a3 x3.length c3] by subst hW3; exact HK2.out)
  have R2 := Lib.hid (show RdF W3 _ x2 by subst hW3; exact Q2.out.drewN _)
  have HD3 := Lib.hid (show ∃ m, W3 = w.drewN m by subst hW3; exact drewN_ex HD2.out _)
  clear hW3 d0 d1 d2 d3 hF hG hin hb1 hb8 hcb hdb hmul hM0
  go_wp2_with fail
  go_loopw [3] (fun i wr => ∃ k : Nat, i = .int .i64 k ∧ k ≤ x2.length ∧ Hid (∀ j, j < k → least (x2.getD j 0) = true) ∧ Hid (∃ m, wr = W3.drewN m)) (fun i _ => x2.length - (intOf i).toNat)
  case atStart => exact ⟨0, rfl, Nat.zero_le _, fun j hj => by omega, 0, rfl⟩
  case round =>
    obtain ⟨k, rfl, hk, hall, hd⟩ := hrel
    have d2 : wr.cell? ⟨bb, 2, none⟩ = some (.slice a2 x2.length c2) := by
      obtain ⟨m, rfl⟩ := hd.out
      exact HK3.out.cell 2 rfl
    by_cases hlt : k < x2.length
    · obtain ⟨b, off, rfl, _, hc⟩ := (rdF_drew R2.out hd.out).at hlt
      obtain ⟨x, hx⟩ : ∃ x, x = x2.getD k 0 := ⟨_, rfl⟩
      rw [← hx] at hc
      have HX := Lib.hid hx
      clear hx
      go_wp2_with fail
      refine (l02Least_any x wr).mono ?_
      rintro e w1 ⟨rfl, hd1⟩
      have HD4 := Lib.hid (drewN_then hd.out hd1)
      clear hd1 hc d2
      by_cases hf : least x = true
      · rw [hf]
        go_wp2_with fail
        go_roundw
        case rel => exact ⟨k + 1, by go_num, by omega, fun j hj => by
          rcases Nat.lt_succ_iff_lt_or_eq.1 hj with h | rfl
          · exact hall.out j h
          · rw [← HX.out]; exact hf, HD4.out⟩
        case measure => simp [intOf]; omega
      · rw [Bool.not_eq_true] at hf
        have HNO := Lib.hid (validR_false (r := ⟨n0, x1, x2, x3⟩) (fun h => by
          have h1 := h.lb k hlt
          simp only at h1
          rw [← HX.out, hf] at h1
          cases h1))
        rw [hf]
        go_wp2_with fail
        go_ret
        exact ⟨by rw [HNO.out]; rfl, drewN_then HD3.out HD4.out⟩
    · obtain rfl : k = x2.length := by omega
      have HV := Lib.hid (validR_true (r := ⟨n0, x1, x2, x3⟩) ⟨HA.out.1, HA.out.2, HB.out, HE.out, HC.out, HD.out, HF.out, HG.out, hall.out⟩)
      go_wp2_with fail
      go_ret
      exact ⟨by rw [HV.out]; rfl, drewN_then HD3.out hd.out⟩

theorem l02Is_cels (bb : Nat) (v0 v1 v2 v3 : Value) (r : RowsD) (w : World) (hk : Cels w bb #[v0, v1, v2, v3]) (h : RdR w (.agg #[v0, v1, v2, v3]) r) :
    Calls Try.prog 71 #[.pointer (some ⟨bb, 0, none⟩)] w fun e w' => e = .returned (.bool (validR r)) ∧ ∃ m, w' = w.drewN m := by
  obtain ⟨a1, c1, a2, c2, a3, c3, e⟩ := h.shape
  obtain ⟨p1, p2, p3⟩ := h.parts
  simp only [Value.agg.injEq, Array.mk.injEq, List.cons.injEq, and_true] at e
  obtain ⟨rfl, rfl, rfl, rfl⟩ := e
  obtain ⟨n0, x1, x2, x3⟩ := r
  simp only at p1 p2 p3 hk ⊢
  have l1 := p1.len
  have l2 := p2.len
  have l3 := p3.len
  unfold maxLen at l1 l2 l3
  have P1 := Lib.hid p1
  have P2 := Lib.hid p2
  have P3 := Lib.hid p3
  have HK := Lib.hid hk
  clear h p1 p2 p3
  by_cases hA : 1 ≤ n0 ∧ n0 ≤ 8
  case neg => exact LI_hA bb n0 x1 x2 x3 a1 a2 a3 c1 c2 c3 w HK P1 P2 P3 (by omega) (by omega) (by omega) hA
  by_cases hB : 1 ≤ x2.length
  case neg => exact LI_hB bb n0 x1 x2 x3 a1 a2 a3 c1 c2 c3 w HK P1 P2 P3 (by omega) (by omega) (by omega) hA hB
  by_cases hE : x2.length ≤ 8
  case neg => exact LI_hE bb n0 x1 x2 x3 a1 a2 a3 c1 c2 c3 w HK P1 P2 P3 (by omega) (by omega) (by omega) hA hB hE
  by_cases hC : (x3.length : Int) = n0
  case neg => exact LI_hC bb n0 x1 x2 x3 a1 a2 a3 c1 c2 c3 w HK P1 P2 P3 (by omega) (by omega) (by omega) hA hB hE hC
  by_cases hD : (x1.length : Int) = n0 * x2.length
  case neg => exact LI_hD bb n0 x1 x2 x3 a1 a2 a3 c1 c2 c3 w HK P1 P2 P3 (by omega) (by omega) (by omega) hA hB hE hC hD
  by_cases hF : allFin x1 = true
  case neg => exact LI_hF bb n0 x1 x2 x3 a1 a2 a3 c1 c2 c3 w HK P1 P2 P3 (by omega) (by omega) (by omega) hA hB hE hC hD hF
  by_cases hG : allFin x3 = true
  case neg => exact LI_hG bb n0 x1 x2 x3 a1 a2 a3 c1 c2 c3 w HK P1 P2 P3 (by omega) (by omega) (by omega) hA hB hE hC hD hF hG
  exact LI_yes bb n0 x1 x2 x3 a1 a2 a3 c1 c2 c3 w HK P1 P2 P3 (by omega) (by omega) (by omega) hA hB hE hC hD hF hG

theorem l02Is_any (bb : Nat) (v0 v1 v2 v3 : Value) (r : RowsD) (w : World) (hk : Blk w bb 50 #[v0, v1, v2, v3]) (h : RdR w (.agg #[v0, v1, v2, v3]) r) :
    Calls Try.prog 71 #[.pointer (some ⟨bb, 0, none⟩)] w fun e w' => e = .returned (.bool (validR r)) ∧ ∃ m, w' = w.drewN m := l02Is_cels bb v0 v1 v2 v3 r w hk.cels h

end Go.Proofs.Ytkkcgclliomocaa

namespace Go.Proofs.Ytkkcgclliomocaa
open Go.RowKit

/-- From 0 to a million. -/
def inR (x : Nat) : Bool := geq0 x && (FloatKind.f32.format.order x 1232348160 == some .lt || FloatKind.f32.format.order x 1232348160 == some .eq)
def toI (x : Nat) : Int := (floatToIntVal .f32 x .i64).getD 0

theorem read_mil : Ieee.single.read 1232348160 = .number false 16000000 (-4) := by decide +kernel
theorem read_zero : Ieee.single.read 0 = .number false 0 (-149) := by decide +kernel

theorem cmp_cases (a b : Int) : (compare a b = .lt ∧ a < b) ∨ (compare a b = .eq ∧ a = b) ∨ (compare a b = .gt ∧ b < a) := by
  simp only [compare, compareOfLessAndEq]
  by_cases h1 : a < b
  · rw [if_pos h1]; exact .inl ⟨rfl, h1⟩
  · rw [if_neg h1]
    by_cases h2 : a = b
    · rw [if_pos h2]; exact .inr (.inl ⟨rfl, h2⟩)
    · rw [if_neg h2]; exact .inr (.inr ⟨rfl, by omega⟩)
theorem cmp_gt {a b : Int} (h : compare a b = .gt) : b < a := by
  rcases cmp_cases a b with ⟨e, _⟩ | ⟨e, _⟩ | ⟨_, h2⟩
  · rw [e] at h; cases h
  · rw [e] at h; cases h
  · exact h2
theorem cmp_eq {a b : Int} (h : compare a b = .eq) : a = b := by
  rcases cmp_cases a b with ⟨e, _⟩ | ⟨_, h2⟩ | ⟨e, _⟩
  · rw [e] at h; cases h
  · exact h2
  · rw [e] at h; cases h
theorem cmp_lt {a b : Int} (h : compare a b = .lt) : a < b := by
  rcases cmp_cases a b with ⟨_, h2⟩ | ⟨e, _⟩ | ⟨e, _⟩
  · exact h2
  · rw [e] at h; cases h
  · rw [e] at h; cases h

theorem inR_number {x : Nat} (h : inR x = true) : ∃ s m e, Ieee.single.read x = .number s m e ∧ (s = true → m = 0) ∧ (0 ≤ e → m <<< (e + 4).toNat ≤ 16000000) := by
  unfold inR geq0 at h
  simp only [Bool.and_eq_true, Bool.or_eq_true, beq_iff_eq] at h
  obtain ⟨h1, h2⟩ := h
  have e1 : FloatKind.f32.format.order x 0 = (Ieee.single.read x).order (.number false 0 (-149)) := by show (Ieee.single.read x).order (Ieee.single.read 0) = _; rw [read_zero]
  have e2 : FloatKind.f32.format.order x 1232348160 = (Ieee.single.read x).order (.number false 16000000 (-4)) := by show (Ieee.single.read x).order (Ieee.single.read 1232348160) = _; rw [read_mil]
  rw [e1] at h1
  rw [e2] at h2
  cases hr : Ieee.single.read x with
  | nan a b => rw [hr] at h1; simp [Ieee.Datum.order] at h1
  | infinity s => rw [hr] at h1 h2; cases s <;> simp [Ieee.Datum.order] at h1 h2
  | number s m e =>
    rw [hr] at h1 h2
    refine ⟨s, m, e, rfl, ?_, ?_⟩
    · rintro rfl
      by_cases hm : m = 0
      · exact hm
      · exfalso
        simp only [Ieee.Datum.order, Option.some.injEq, Ieee.signed, Nat.zero_shiftLeft, if_true] at h1
        have hp : 0 < m <<< (e - min e (-149)).toNat := by rw [Nat.shiftLeft_eq]; exact Nat.mul_pos (by omega) (Nat.two_pow_pos _)
        generalize m <<< (e - min e (-149)).toNat = K at h1 hp
        have hlt : (-(K : Int)) < ((0 : Nat) : Int) := by omega
        rcases h1 with h1 | h1
        · have := cmp_gt h1; simp at this; omega
        · have := cmp_eq h1; simp at this; omega
    · intro he
      have hb : min e (-4) = -4 := by omega
      have hz : (e - -4).toNat = (e + 4).toNat := by omega
      simp only [Ieee.Datum.order, Option.some.injEq, hb, hz, Ieee.signed, Int.sub_self, Int.toNat_zero, Nat.shiftLeft_zero] at h2
      cases s with
      | true =>
        -- a negative number: its size is 0
        simp only [Ieee.Datum.order, Option.some.injEq, Ieee.signed, Nat.zero_shiftLeft, if_true] at h1
        have hm : m = 0 := by
          by_cases hm : m = 0
          · exact hm
          · exfalso
            have hp : 0 < m <<< (e - min e (-149)).toNat := by rw [Nat.shiftLeft_eq]; exact Nat.mul_pos (by omega) (Nat.two_pow_pos _)
            generalize m <<< (e - min e (-149)).toNat = K at h1 hp
            rcases h1 with h1 | h1
            · have := cmp_gt h1; simp at this; omega
            · have := cmp_eq h1; simp at this; omega
        subst hm; simp
      | false =>
        simp only [Bool.false_eq_true, if_false] at h2
        generalize m <<< (e + 4).toNat = K at h2 ⊢
        rcases h2 with h2 | h2
        · have := cmp_lt h2; omega
        · have := cmp_eq h2; omega

theorem inR_fin {x : Nat} (h : inR x = true) : fin32 x = true := by
  obtain ⟨s, m, e, hr, _⟩ := inR_number h
  unfold fin32; rw [hr]

theorem cut_zero (s : Bool) (n d : Nat) : Ieee.Toward.zero.cut s n d ≤ n := by
  unfold Ieee.Toward.cut
  simp only [Bool.toNat_false, Nat.add_zero]
  exact Nat.div_le_self _ _

theorem toI_some {x : Nat} (h : inR x = true) : floatToIntVal .f32 x .i64 = some (toI x) := by
  obtain ⟨s, m, e, hr, hs, hm⟩ := inR_number h
  have hb := read32_bound hr
  have key : ∃ z, floatToIntVal .f32 x .i64 = some z := by
    unfold floatToIntVal
    have e1 : FloatKind.f32.decode x = Ieee.single.read x := rfl
    rw [e1, hr]
    simp only [Ieee.Datum.toInt, Ieee.Datum.integral, Ieee.signed, Nat.shiftLeft_zero]
    have hcut : Ieee.Toward.zero.cut s (m <<< e.toNat) (-e).toNat ≤ 16777216 := by
      refine Nat.le_trans (cut_zero _ _ _) ?_
      by_cases he : 0 ≤ e
      · have h1 := hm he
        have h2 : m <<< e.toNat ≤ m <<< (e + 4).toNat := by
          rw [Nat.shiftLeft_eq, Nat.shiftLeft_eq]
          exact Nat.mul_le_mul_left _ (Nat.pow_le_pow_right (by decide) (by omega))
        omega
      · have : e.toNat = 0 := by omega
        rw [this, Nat.shiftLeft_zero]
        omega
    generalize Ieee.Toward.zero.cut s (m <<< e.toNat) (-e).toNat = K at hcut
    have c1 : IntKind.i64.min = -9223372036854775808 := rfl
    have c2 : IntKind.i64.max = 9223372036854775807 := rfl
    rw [c1, c2]
    refine ⟨_, if_pos ?_⟩
    cases s <;> simp <;> omega
  obtain ⟨z, hz⟩ := key
  unfold toI
  rw [hz]; rfl

structure OkP (r : RowsD) (x : List Nat) : Prop where
  v : ValR r
  l : (x.length : Int) = r.vars
  i : ∀ j, j < x.length → inR (x.getD j 0) = true
open Classical in
noncomputable def rpOk (r : RowsD) (x : List Nat) : Bool := decide (OkP r x)
open Classical in
noncomputable def rpL (r : RowsD) (x : List Nat) : List Int := if OkP r x then x.map toI else []
theorem rp_yes {r : RowsD} {x : List Nat} (h : OkP r x) : rpOk r x = true ∧ rpL r x = x.map toI := ⟨by simp [rpOk, h], if_pos h⟩
theorem rp_no {r : RowsD} {x : List Nat} (h : ¬ OkP r x) : rpOk r x = false ∧ rpL r x = [] := ⟨by simp [rpOk, h], if_neg h⟩
theorem rpL_cnt (r : RowsD) (x : List Nat) : cntI (rpL r x) ≤ 1048576 := by
  unfold cntI rpL
  split
  · next h =>
    have := h.l
    have := h.v.v8
    simp
    omega
  · simp
theorem map_take_succ {x : List Nat} {k : Nat} (hk : k < x.length) : (x.take (k + 1)).map toI = (x.take k).map toI ++ [toI (x.getD k 0)] := by
  rw [List.take_succ_eq_append_getElem hk, List.map_append, show x.getD k 0 = x[k] from by simp [hk]]; rfl

theorem inR_geq {x : Nat} (h : inR x = true) : (FloatKind.f32.format.order x 0 == some .gt || FloatKind.f32.format.order x 0 == some .eq) = true := by
  unfold inR geq0 at h; simp only [Bool.and_eq_true] at h; exact h.1
theorem inR_leq {x : Nat} (h : inR x = true) : (FloatKind.f32.format.order x 1232348160 == some .lt || FloatKind.f32.format.order x 1232348160 == some .eq) = true := by
  unfold inR geq0 at h; simp only [Bool.and_eq_true] at h; exact h.2

end Go.Proofs.Ytkkcgclliomocaa

namespace Go.Proofs.Ytkkcgclliomocaa
open Go.RowKit

def rowO (r : RowsD) (i : Nat) : List Nat := (r.nums.drop (i * r.gains.length)).take r.gains.length
def leftO (r : RowsD) (x : List Nat) (i : Nat) : Option Nat := (dotO (rowO r i) x r.gains.length).bind fun s => Ieee.single.sub (r.bnds.getD i 0) s
noncomputable def fitX (r : RowsD) (x : List Nat) : Bool := validR r && (((x.length : Int) == r.vars) && allFin x)
noncomputable def leftOk (r : RowsD) (x : List Nat) : Bool := fitX r x && (List.range r.bnds.length).all fun i => finO (leftO r x i)
def leftL (r : RowsD) (x : List Nat) : List Nat := (List.range r.bnds.length).map fun i => (leftO r x i).getD 0
noncomputable def leftR (r : RowsD) (x : List Nat) : List Nat := if leftOk r x = true then leftL r x else []
def gainO (r : RowsD) (x : List Nat) : Option Nat := dotO r.gains x r.gains.length
noncomputable def gainOk (r : RowsD) (x : List Nat) : Bool := fitX r x && finO (gainO r x)
noncomputable def gainV (r : RowsD) (x : List Nat) : Nat := if gainOk r x = true then (gainO r x).getD 0 else 0

theorem sub_nanR {x y : Nat} (h : nan32 y = true) : Ieee.single.sub x y = none := by
  unfold nan32 at h
  unfold Ieee.Format.sub
  cases hr : Ieee.single.read y with
  | nan a b => cases Ieee.single.read x <;> simp [Ieee.Datum.sum, Ieee.Datum.opposite]
  | infinity s => rw [hr] at h; simp [Ieee.Datum.isNaN] at h
  | number s m e => rw [hr] at h; simp [Ieee.Datum.isNaN] at h
theorem left_some {r : RowsD} {x : List Nat} {i s q : Nat} (h : Mt (dotO (rowO r i) x r.gains.length) s) (hq : Ieee.single.sub (r.bnds.getD i 0) s = some q) : Mt (leftO r x i) q := by
  unfold leftO
  cases hd : dotO (rowO r i) x r.gains.length with
  | none => rw [hd] at h; rw [sub_nanR (h.2 rfl)] at hq; cases hq
  | some s' =>
    rw [hd] at h
    rw [h.of_some] at hq
    simp only [Option.bind_some, hq]
    exact Mt.some' q
theorem left_none {r : RowsD} {x : List Nat} {i s : Nat} (h : Mt (dotO (rowO r i) x r.gains.length) s) (hq : Ieee.single.sub (r.bnds.getD i 0) s = none) (q : Nat) (hn : nan32 q = true) : Mt (leftO r x i) q := by
  have : leftO r x i = none := by
    unfold leftO
    cases hd : dotO (rowO r i) x r.gains.length with
    | none => rfl
    | some s' =>
      rw [hd] at h
      rw [h.of_some] at hq
      simp only [Option.bind_some, hq]
  rw [this]
  exact ⟨fun r h => by simp at h, fun _ => hn⟩

theorem rowO_len {r : RowsD} (hv : ValR r) {i : Nat} (hi : i < r.bnds.length) : (rowO r i).length = r.gains.length := by
  have h1 := hv.gl
  have h2 := hv.nl
  rw [← h1] at h2
  have h3 : r.nums.length = r.gains.length * r.bnds.length := by exact_mod_cast h2
  have h4 : (i + 1) * r.gains.length ≤ r.nums.length := by rw [h3, Nat.mul_comm]; exact Nat.mul_le_mul_left _ hi
  rw [Nat.add_mul] at h4
  unfold rowO
  rw [List.length_take, List.length_drop]
  omega
theorem rowO_fin {r : RowsD} (hv : ValR r) (i : Nat) : allFin (rowO r i) = true := by
  have h := hv.fn
  unfold allFin at h ⊢
  rw [List.all_eq_true] at h ⊢
  intro y hy
  unfold rowO at hy
  exact h y (List.mem_of_mem_drop (List.mem_of_mem_take hy))

/-- A piece of a slice of numbers reads. -/
theorem rdF_piece {w : World} {b off n cap : Nat} {xs : List Nat} (h : RdF w (.slice (some ⟨b, off, none⟩) n cap) xs) (m k : Nat) (hk : m + k ≤ xs.length) (c2 : Nat) (hc : k ≤ c2) (hc2 : c2 ≤ maxLen) : RdF w (.slice (some ⟨b, off + m, none⟩) k c2) ((xs.drop m).take k) := by
  have hl : ((xs.drop m).take k).length = k := by rw [List.length_take, List.length_drop]; omega
  refine .inr ⟨⟨b, off + m, none⟩, c2, by rw [List.length_map, hl], by rw [List.length_map, hl]; exact hc, hc2, fun i u hi => ?_⟩
  simp only [List.getElem?_map, Option.map_eq_some_iff] at hi
  obtain ⟨q, hq, rfl⟩ := hi
  have hlt : i < k := by have := (List.getElem?_eq_some_iff.1 hq).1; omega
  rw [List.getElem?_take_of_lt hlt, List.getElem?_drop] at hq
  obtain ⟨b', off', e, _, hcell⟩ := h.at (i := m + i) (by omega)
  simp only [Option.some.injEq, Addr.mk.injEq, and_true] at e
  obtain ⟨rfl, rfl⟩ := e
  have e2 : xs.getD (m + i) 0 = q := by rw [List.getD_eq_getElem?_getD, hq]; rfl
  rw [e2] at hcell
  have : (⟨b, off + m, none⟩ : Addr).add i = ⟨b, off + (m + i), none⟩ := by
    unfold Addr.add
    by_cases hz : i = 0
    · simp [hz]
    · simp [hz, Nat.add_assoc]
  rw [this]
  exact hcell

set_option maxHeartbeats 2000000 in
theorem row_any (v : Value) (r : RowsD) (i : Nat) (w : World) (h : RdR w v r) (hv : ValR r) (hi : i < r.bnds.length) :
    Calls Try.prog 78 #[v, .int .i64 i] w fun e w' => ∃ u, e = .returned u ∧ RdF w' u (rowO r i) ∧ Below w.heap.size w w' := by
  obtain ⟨a1, c1, a2, c2, a3, c3, rfl⟩ := h.shape
  obtain ⟨p1, p2, p3⟩ := h.parts
  have hlen := rowO_len hv hi
  have hb8 := hv.b8
  have hv8 := hv.v8
  have hv1 := hv.v1
  have hgl := hv.gl
  have hnl := hv.nl
  have l1 := p1.len
  obtain ⟨n0, x1, x2, x3⟩ := r
  simp only at p1 p2 p3 hlen hb8 hv8 hv1 hgl hnl hi l1 ⊢
  unfold maxLen at l1
  obtain rfl := hgl
  obtain ⟨V, hV⟩ : ∃ V, V = x3.length := ⟨_, rfl⟩
  have hnl2 : x1.length = V * x2.length := by rw [hV]; exact_mod_cast hnl
  obtain ⟨m, hm⟩ : ∃ m, m = i * V := ⟨_, rfl⟩
  have hmm : m + V ≤ x1.length := by
    rw [hm, hnl2, Nat.mul_comm V, ← Nat.succ_mul]
    exact Nat.mul_le_mul_right _ hi
  have hx64 : x1.length ≤ 64 := by rw [hnl2]; exact Nat.le_trans (Nat.mul_le_mul (by omega) hb8) (by decide : 8 * 8 ≤ 64)
  have e1 : (i : Int) * (V : Int) = (m : Int) := by rw [hm]; push_cast; rfl
  have e2 : ((i : Int) + 1) * (V : Int) = (m : Int) + (V : Int) := by rw [Int.add_mul, e1, Int.one_mul]
  have P1 := Lib.hid p1
  have hnz : 0 < x1.length := by omega
  obtain ⟨b, off, rfl, hb0, _⟩ := p1.at hnz
  have hc1 : x1.length ≤ c1 ∧ c1 ≤ maxLen := by
    rcases p1 with ⟨e, _⟩ | ⟨ad, cap', e, q1, q2, _⟩
    · cases e
    · simp only [Value.slice.injEq] at e
      obtain ⟨_, _, rfl⟩ := e
      simpa using And.intro q1 q2
  obtain ⟨hc1a, hc1b⟩ := hc1
  have HC := Lib.hid hc1b
  unfold maxLen at hc1b
  have HV := Lib.hid hV
  have HM := Lib.hid hm
  rw [← hV] at hv8 hv1 ⊢
  have hi8 : i < 8 := by omega
  clear h p1 p2 p3 hlen hnl hnl2 hm hV
  go_enter Try.func78, Try.ntmps78
  go_wp2_with fail
  go_ret
  refine ⟨_, rfl, ?_, by (repeat' first | exact Below.refl _ _ | assumption | refine Below.alloc ?_ ?_ _ | refine Below.setCell ?_ ?_ _ | refine Below.drew ?_ | (simp; done) | (simp; omega))⟩
  simp
  have hb : Below w.heap.size w (w.alloc (.cells #[.int .i64 V, .slice (some ⟨b, off, none⟩) x1.length c1, .slice a2 x2.length c2, .slice a3 V c3] 50)) := (Below.refl _ _).alloc (Nat.le_refl _) _
  have hp := rdF_piece (P1.out.up hb (Nat.le_refl _)) m V hmm (c1 - m) (by omega) (by have := HC.out; omega)
  unfold rowO
  simp only
  rw [← HV.out, ← HM.out]
  exact hp

/-- The post of what returns a number and whether it is one. -/
def NumPost (q : Bool) (s : Nat) (B : Nat) (w : World) (e : Ending) (w' : World) : Prop := e = .returned (.tuple #[.float .f32 s, .bool q]) ∧ Below B w w'

end Go.Proofs.Ytkkcgclliomocaa

namespace Go.Proofs.Ytkkcgclliomocaa
open Go.RowKit

/-- The post of what returns a list and whether there is one. -/
def ListPost (q : Bool) (L : List Nat) (B : Nat) (w : World) (e : Ending) (w' : World) : Prop := ∃ v, e = .returned (.tuple #[v, .bool q]) ∧ RdF w' v L ∧ Below B w w'

theorem left_all {r : RowsD} {x ys : List Nat} (hl : ys.length = r.bnds.length) (h : ∀ j, j < r.bnds.length → Mt (leftO r x j) (ys.getD j 0)) : allFin ys = (List.range r.bnds.length).all fun i => finO (leftO r x i) := by
  rw [Bool.eq_iff_iff]
  constructor
  · intro ha
    rw [List.all_eq_true]
    intro i hi
    have hi' := List.mem_range.1 hi
    rw [← (h i hi').fin]
    exact allFin_get ha (by omega)
  · intro ha
    rw [List.all_eq_true] at ha
    refine allFin_yes fun i hi => ?_
    rw [(h i (by omega)).fin]
    exact ha i (List.mem_range.2 (by omega))
theorem left_eq {r : RowsD} {x ys : List Nat} (hl : ys.length = r.bnds.length) (h : ∀ j, j < r.bnds.length → Mt (leftO r x j) (ys.getD j 0)) (ha : allFin ys = true) : ys = leftL r x := by
  apply List.ext_getElem?
  intro i
  unfold leftL
  by_cases hi : i < r.bnds.length
  · have h1 := h i hi
    have h2 := allFin_get ha (i := i) (by omega)
    rw [h1.fin] at h2
    have h3 : ys[i]? = some (ys.getD i 0) := by simp [show i < ys.length by omega]
    rw [h3]
    simp only [List.getElem?_map, List.getElem?_range hi, Option.map_some]
    cases ho : leftO r x i with
    | none => rw [ho] at h2; cases h2
    | some g => rw [ho] at h1; rw [h1.of_some]; rfl
  · rw [List.getElem?_eq_none (by omega), List.getElem?_eq_none (by simp; omega)]

theorem getD_snoc_lt (ys : List Nat) (q j : Nat) (h : j < ys.length) : (ys ++ [q]).getD j 0 = ys.getD j 0 := by
  rw [List.getD_eq_getElem?_getD, List.getD_eq_getElem?_getD, List.getElem?_append_left h]
theorem getD_snoc_eq (ys : List Nat) (q j : Nat) (h : j = ys.length) : (ys ++ [q]).getD j 0 = q := by
  subst h; rw [List.getD_eq_getElem?_getD]; simp

theorem run_sub_none' {P : Program} (t : TypeId) (x y : Nat) (h : Ieee.single.sub x y = none) (w : World) :
    (binOp .sub t (.float .f32 x) (.float .f32 y)).run P w = .ok (.float .f32 (tape32 (.nanBits .f32 x y) w)) w.drew := run_sub_none t x y h w

end Go.Proofs.Ytkkcgclliomocaa
