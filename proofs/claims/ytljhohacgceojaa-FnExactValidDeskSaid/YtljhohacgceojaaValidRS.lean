/-
  Rows: which are valid; by the reference.
-/
import Derived.Test.YtljhohacgceojaaValidR
namespace Go.Proofs.Ytljhohacgceojaa
open Go.RowKit

theorem l02Finite_qs (v : Value) (xs : List Nat) (w : World) (n : Nat) (h : RdF w v xs) :
    Calls Try.prog 135 #[v] (w.drewN n) fun e w'' => e = .returned (.bool (allFin xs)) ∧ ∃ m, w'' = w.drewN m := by
  refine (l02Finite_any v xs _ (h.drewN n)).mono ?_
  rintro e w' ⟨rfl, hd⟩
  exact ⟨rfl, drewN_then ⟨n, rfl⟩ hd⟩

/-- Cells that lie side by side. -/
def Cels (w : World) (b : Nat) (cs : Array Value) : Prop := ∀ (j : Nat) (u : Value), cs[j]? = some u → w.cell? ⟨b, j, none⟩ = some u
theorem Cels.cell {w : World} {b : Nat} {cs : Array Value} (h : Cels w b cs) (j : Nat) {u : Value} (hj : cs[j]? = some u) : w.cell? ⟨b, j, none⟩ = some u := h j u hj
theorem Blk.cels {w : World} {b : Nat} {t : TypeId} {cs : Array Value} (h : Blk w b t cs) : Cels w b cs := fun j _ hj => h.cell j hj

set_option maxHeartbeats 4000000 in
set_option maxRecDepth 4000 in
theorem LI_hA (bb : Nat) (n0 : Int) (x1 x2 x3 : List Nat) (a1 a2 a3 : Option Addr) (c1 c2 c3 : Nat) (w : World) (HK : Hid (Cels w bb #[.int .i64 n0, .slice a1 x1.length c1, .slice a2 x2.length c2, .slice a3 x3.length c3])) (P1 : Hid (RdF w (.slice a1 x1.length c1) x1)) (P2 : Hid (RdF w (.slice a2 x2.length c2) x2)) (P3 : Hid (RdF w (.slice a3 x3.length c3) x3)) (l1 : x1.length ≤ 9223372036854775807) (l2 : x2.length ≤ 9223372036854775807) (l3 : x3.length ≤ 9223372036854775807)
    (hA : ¬ (1 ≤ n0 ∧ n0 ≤ 8)) :
    Calls Try.prog 121 #[.pointer (some ⟨bb, 0, none⟩)] w fun e w' => e = .returned (.bool (validR ⟨n0, x1, x2, x3⟩)) ∧ ∃ m, w' = w.drewN m := by
  have hin := inB_false (lo := 1) (hi := 8) (n := n0) hA
  have HNO := Lib.hid (validR_false (r := ⟨n0, x1, x2, x3⟩) (fun h => hA ⟨h.v1, h.v8⟩))
  clear hA
  have d0 : w.cell? ⟨bb, 0, none⟩ = some (.int .i64 n0) := HK.out.cell 0 rfl
  have d1 : w.cell? ⟨bb, 1, none⟩ = some (.slice a1 x1.length c1) := HK.out.cell 1 rfl
  have d2 : w.cell? ⟨bb, 2, none⟩ = some (.slice a2 x2.length c2) := HK.out.cell 2 rfl
  have d3 : w.cell? ⟨bb, 3, none⟩ = some (.slice a3 x3.length c3) := HK.out.cell 3 rfl
  go_enter Try.func121, Try.ntmps121
  go_wp2_with fail
  go_quiet ((go_at_call 134; exact quiet_same (in_any _ _ _ _)))
  go_wp2_with fail
  go_ret
  exact ⟨by rw [HNO.out]; rfl, _, rfl⟩

set_option maxHeartbeats 4000000 in
set_option maxRecDepth 4000 in
theorem LI_hB (bb : Nat) (n0 : Int) (x1 x2 x3 : List Nat) (a1 a2 a3 : Option Addr) (c1 c2 c3 : Nat) (w : World) (HK : Hid (Cels w bb #[.int .i64 n0, .slice a1 x1.length c1, .slice a2 x2.length c2, .slice a3 x3.length c3])) (P1 : Hid (RdF w (.slice a1 x1.length c1) x1)) (P2 : Hid (RdF w (.slice a2 x2.length c2) x2)) (P3 : Hid (RdF w (.slice a3 x3.length c3) x3)) (l1 : x1.length ≤ 9223372036854775807) (l2 : x2.length ≤ 9223372036854775807) (l3 : x3.length ≤ 9223372036854775807)
    (hA : 1 ≤ n0 ∧ n0 ≤ 8) (hB : ¬ (1 ≤ x2.length)) :
    Calls Try.prog 121 #[.pointer (some ⟨bb, 0, none⟩)] w fun e w' => e = .returned (.bool (validR ⟨n0, x1, x2, x3⟩)) ∧ ∃ m, w' = w.drewN m := by
  have hin := inB_true (lo := 1) (hi := 8) (n := n0) hA
  have hb1 : decide ((x2.length : Int) < 1) = true := by simp; omega
  have HNO := Lib.hid (validR_false (r := ⟨n0, x1, x2, x3⟩) (fun h => hB h.b1))
  clear hA hB
  have d0 : w.cell? ⟨bb, 0, none⟩ = some (.int .i64 n0) := HK.out.cell 0 rfl
  have d1 : w.cell? ⟨bb, 1, none⟩ = some (.slice a1 x1.length c1) := HK.out.cell 1 rfl
  have d2 : w.cell? ⟨bb, 2, none⟩ = some (.slice a2 x2.length c2) := HK.out.cell 2 rfl
  have d3 : w.cell? ⟨bb, 3, none⟩ = some (.slice a3 x3.length c3) := HK.out.cell 3 rfl
  go_enter Try.func121, Try.ntmps121
  go_wp2_with fail
  go_quiet ((go_at_call 134; exact quiet_same (in_any _ _ _ _)))
  go_wp2_with fail
  go_ret
  exact ⟨by rw [HNO.out]; rfl, _, rfl⟩

set_option maxHeartbeats 4000000 in
set_option maxRecDepth 4000 in
theorem LI_hE (bb : Nat) (n0 : Int) (x1 x2 x3 : List Nat) (a1 a2 a3 : Option Addr) (c1 c2 c3 : Nat) (w : World) (HK : Hid (Cels w bb #[.int .i64 n0, .slice a1 x1.length c1, .slice a2 x2.length c2, .slice a3 x3.length c3])) (P1 : Hid (RdF w (.slice a1 x1.length c1) x1)) (P2 : Hid (RdF w (.slice a2 x2.length c2) x2)) (P3 : Hid (RdF w (.slice a3 x3.length c3) x3)) (l1 : x1.length ≤ 9223372036854775807) (l2 : x2.length ≤ 9223372036854775807) (l3 : x3.length ≤ 9223372036854775807)
    (hA : 1 ≤ n0 ∧ n0 ≤ 8) (hB : 1 ≤ x2.length) (hE : ¬ (x2.length ≤ 8)) :
    Calls Try.prog 121 #[.pointer (some ⟨bb, 0, none⟩)] w fun e w' => e = .returned (.bool (validR ⟨n0, x1, x2, x3⟩)) ∧ ∃ m, w' = w.drewN m := by
  have hin := inB_true (lo := 1) (hi := 8) (n := n0) hA
  have hb1 : decide ((x2.length : Int) < 1) = false := by simp; omega
  have hb8 : decide ((8 : Int) < x2.length) = true := by simp; omega
  have HNO := Lib.hid (validR_false (r := ⟨n0, x1, x2, x3⟩) (fun h => hE h.b8))
  clear hA hE
  have d0 : w.cell? ⟨bb, 0, none⟩ = some (.int .i64 n0) := HK.out.cell 0 rfl
  have d1 : w.cell? ⟨bb, 1, none⟩ = some (.slice a1 x1.length c1) := HK.out.cell 1 rfl
  have d2 : w.cell? ⟨bb, 2, none⟩ = some (.slice a2 x2.length c2) := HK.out.cell 2 rfl
  have d3 : w.cell? ⟨bb, 3, none⟩ = some (.slice a3 x3.length c3) := HK.out.cell 3 rfl
  go_enter Try.func121, Try.ntmps121
  go_wp2_with fail
  go_quiet ((go_at_call 134; exact quiet_same (in_any _ _ _ _)))
  go_wp2_with fail
  go_ret
  exact ⟨by rw [HNO.out]; rfl, _, rfl⟩

set_option maxHeartbeats 4000000 in
set_option maxRecDepth 4000 in
theorem LI_hC (bb : Nat) (n0 : Int) (x1 x2 x3 : List Nat) (a1 a2 a3 : Option Addr) (c1 c2 c3 : Nat) (w : World) (HK : Hid (Cels w bb #[.int .i64 n0, .slice a1 x1.length c1, .slice a2 x2.length c2, .slice a3 x3.length c3])) (P1 : Hid (RdF w (.slice a1 x1.length c1) x1)) (P2 : Hid (RdF w (.slice a2 x2.length c2) x2)) (P3 : Hid (RdF w (.slice a3 x3.length c3) x3)) (l1 : x1.length ≤ 9223372036854775807) (l2 : x2.length ≤ 9223372036854775807) (l3 : x3.length ≤ 9223372036854775807)
    (hA : 1 ≤ n0 ∧ n0 ≤ 8) (hB : 1 ≤ x2.length) (hE : x2.length ≤ 8) (hC : ¬ ((x3.length : Int) = n0)) :
    Calls Try.prog 121 #[.pointer (some ⟨bb, 0, none⟩)] w fun e w' => e = .returned (.bool (validR ⟨n0, x1, x2, x3⟩)) ∧ ∃ m, w' = w.drewN m := by
  have hin := inB_true (lo := 1) (hi := 8) (n := n0) hA
  have hb1 : decide ((x2.length : Int) < 1) = false := by simp; omega
  have hb8 : decide ((8 : Int) < x2.length) = false := by simp; omega
  have hcb : ((x3.length : Int) != n0) = true := by simp [hC]
  have HNO := Lib.hid (validR_false (r := ⟨n0, x1, x2, x3⟩) (fun h => hC h.gl))
  clear hA hC
  have d0 : w.cell? ⟨bb, 0, none⟩ = some (.int .i64 n0) := HK.out.cell 0 rfl
  have d1 : w.cell? ⟨bb, 1, none⟩ = some (.slice a1 x1.length c1) := HK.out.cell 1 rfl
  have d2 : w.cell? ⟨bb, 2, none⟩ = some (.slice a2 x2.length c2) := HK.out.cell 2 rfl
  have d3 : w.cell? ⟨bb, 3, none⟩ = some (.slice a3 x3.length c3) := HK.out.cell 3 rfl
  go_enter Try.func121, Try.ntmps121
  go_wp2_with fail
  go_quiet ((go_at_call 134; exact quiet_same (in_any _ _ _ _)))
  go_wp2_with fail
  go_ret
  exact ⟨by rw [HNO.out]; rfl, _, rfl⟩

set_option maxHeartbeats 4000000 in
set_option maxRecDepth 4000 in
theorem LI_hD (bb : Nat) (n0 : Int) (x1 x2 x3 : List Nat) (a1 a2 a3 : Option Addr) (c1 c2 c3 : Nat) (w : World) (HK : Hid (Cels w bb #[.int .i64 n0, .slice a1 x1.length c1, .slice a2 x2.length c2, .slice a3 x3.length c3])) (P1 : Hid (RdF w (.slice a1 x1.length c1) x1)) (P2 : Hid (RdF w (.slice a2 x2.length c2) x2)) (P3 : Hid (RdF w (.slice a3 x3.length c3) x3)) (l1 : x1.length ≤ 9223372036854775807) (l2 : x2.length ≤ 9223372036854775807) (l3 : x3.length ≤ 9223372036854775807)
    (hA : 1 ≤ n0 ∧ n0 ≤ 8) (hB : 1 ≤ x2.length) (hE : x2.length ≤ 8) (hC : (x3.length : Int) = n0) (hD : ¬ ((x1.length : Int) = n0 * x2.length)) :
    Calls Try.prog 121 #[.pointer (some ⟨bb, 0, none⟩)] w fun e w' => e = .returned (.bool (validR ⟨n0, x1, x2, x3⟩)) ∧ ∃ m, w' = w.drewN m := by
  have hin := inB_true (lo := 1) (hi := 8) (n := n0) hA
  have hb1 : decide ((x2.length : Int) < 1) = false := by simp; omega
  have hb8 : decide ((8 : Int) < x2.length) = false := by simp; omega
  have hcb : ((x3.length : Int) != n0) = false := by simp [hC]
  obtain ⟨M, hM⟩ : ∃ M : Int, M = n0 * x2.length := ⟨_, rfl⟩
  have hM0 : 0 ≤ M ∧ M ≤ 64 := by have := mulR hA.1 hA.2 hE; omega
  have hmul : IntKind.i64.wrap (n0 * (x2.length : Int)) = M := by rw [IntWalk.i64_in _ (by omega), hM]
  have hdb : ((x1.length : Int) != M) = true := by rw [hM]; simp [hD]
  have HM := Lib.hid hM
  clear hM
  have HNO := Lib.hid (validR_false (r := ⟨n0, x1, x2, x3⟩) (fun h => hD h.nl))
  clear hA hC hD
  have d0 : w.cell? ⟨bb, 0, none⟩ = some (.int .i64 n0) := HK.out.cell 0 rfl
  have d1 : w.cell? ⟨bb, 1, none⟩ = some (.slice a1 x1.length c1) := HK.out.cell 1 rfl
  have d2 : w.cell? ⟨bb, 2, none⟩ = some (.slice a2 x2.length c2) := HK.out.cell 2 rfl
  have d3 : w.cell? ⟨bb, 3, none⟩ = some (.slice a3 x3.length c3) := HK.out.cell 3 rfl
  go_enter Try.func121, Try.ntmps121
  go_wp2_with fail
  go_quiet ((go_at_call 134; exact quiet_same (in_any _ _ _ _)))
  obtain ⟨W2, hW2⟩ : ∃ W2, W2 = w.drewN nq := ⟨_, rfl⟩
  rw [← hW2]
  have HK2 := Lib.hid (show Cels W2 bb #[.int .i64 n0, .slice a1 x1.length c1, .slice a2 x2.length c2, .slice a3 x3.length c3] by subst hW2; exact HK.out)
  have Q1 := Lib.hid (show RdF W2 _ x1 by subst hW2; exact P1.out.drewN _)
  have Q2 := Lib.hid (show RdF W2 _ x2 by subst hW2; exact P2.out.drewN _)
  have Q3 := Lib.hid (show RdF W2 _ x3 by subst hW2; exact P3.out.drewN _)
  have HD2 := Lib.hid (show ∃ m, W2 = w.drewN m from ⟨_, hW2⟩)
  clear hW2 d0 d1 d2 d3
  have d0 : W2.cell? ⟨bb, 0, none⟩ = some (.int .i64 n0) := HK2.out.cell 0 rfl
  have d1 : W2.cell? ⟨bb, 1, none⟩ = some (.slice a1 x1.length c1) := HK2.out.cell 1 rfl
  have d2 : W2.cell? ⟨bb, 2, none⟩ = some (.slice a2 x2.length c2) := HK2.out.cell 2 rfl
  have d3 : W2.cell? ⟨bb, 3, none⟩ = some (.slice a3 x3.length c3) := HK2.out.cell 3 rfl
  go_wp2_with fail
  go_quiet (first
    | (go_at_call 135; exact l02Finite_qs _ x1 _ _ Q1.out)
    | (go_at_call 135; exact l02Finite_qs _ x3 _ _ Q3.out))
  go_wp2_with fail
  go_ret
  exact ⟨by rw [HNO.out]; rfl, drewN_ex HD2.out _⟩

set_option maxHeartbeats 4000000 in
set_option maxRecDepth 4000 in
theorem LI_hF (bb : Nat) (n0 : Int) (x1 x2 x3 : List Nat) (a1 a2 a3 : Option Addr) (c1 c2 c3 : Nat) (w : World) (HK : Hid (Cels w bb #[.int .i64 n0, .slice a1 x1.length c1, .slice a2 x2.length c2, .slice a3 x3.length c3])) (P1 : Hid (RdF w (.slice a1 x1.length c1) x1)) (P2 : Hid (RdF w (.slice a2 x2.length c2) x2)) (P3 : Hid (RdF w (.slice a3 x3.length c3) x3)) (l1 : x1.length ≤ 9223372036854775807) (l2 : x2.length ≤ 9223372036854775807) (l3 : x3.length ≤ 9223372036854775807)
    (hA : 1 ≤ n0 ∧ n0 ≤ 8) (hB : 1 ≤ x2.length) (hE : x2.length ≤ 8) (hC : (x3.length : Int) = n0) (hD : (x1.length : Int) = n0 * x2.length) (hF : ¬ (allFin x1 = true)) :
    Calls Try.prog 121 #[.pointer (some ⟨bb, 0, none⟩)] w fun e w' => e = .returned (.bool (validR ⟨n0, x1, x2, x3⟩)) ∧ ∃ m, w' = w.drewN m := by
  have hin := inB_true (lo := 1) (hi := 8) (n := n0) hA
  have hb1 : decide ((x2.length : Int) < 1) = false := by simp; omega
  have hb8 : decide ((8 : Int) < x2.length) = false := by simp; omega
  have hcb : ((x3.length : Int) != n0) = false := by simp [hC]
  obtain ⟨M, hM⟩ : ∃ M : Int, M = n0 * x2.length := ⟨_, rfl⟩
  have hM0 : 0 ≤ M ∧ M ≤ 64 := by have := mulR hA.1 hA.2 hE; omega
  have hmul : IntKind.i64.wrap (n0 * (x2.length : Int)) = M := by rw [IntWalk.i64_in _ (by omega), hM]
  have hdb : ((x1.length : Int) != M) = false := by rw [hM]; simp [hD]
  have HM := Lib.hid hM
  clear hM
  have hfb : allFin x1 = false := by simpa using hF
  have HNO := Lib.hid (validR_false (r := ⟨n0, x1, x2, x3⟩) (fun h => hF h.fn))
  clear hA hC hD hF
  have d0 : w.cell? ⟨bb, 0, none⟩ = some (.int .i64 n0) := HK.out.cell 0 rfl
  have d1 : w.cell? ⟨bb, 1, none⟩ = some (.slice a1 x1.length c1) := HK.out.cell 1 rfl
  have d2 : w.cell? ⟨bb, 2, none⟩ = some (.slice a2 x2.length c2) := HK.out.cell 2 rfl
  have d3 : w.cell? ⟨bb, 3, none⟩ = some (.slice a3 x3.length c3) := HK.out.cell 3 rfl
  go_enter Try.func121, Try.ntmps121
  go_wp2_with fail
  go_quiet ((go_at_call 134; exact quiet_same (in_any _ _ _ _)))
  obtain ⟨W2, hW2⟩ : ∃ W2, W2 = w.drewN nq := ⟨_, rfl⟩
  rw [← hW2]
  have HK2 := Lib.hid (show Cels W2 bb #[.int .i64 n0, .slice a1 x1.length c1, .slice a2 x2.length c2, .slice a3 x3.length c3] by subst hW2; exact HK.out)
  have Q1 := Lib.hid (show RdF W2 _ x1 by subst hW2; exact P1.out.drewN _)
  have Q2 := Lib.hid (show RdF W2 _ x2 by subst hW2; exact P2.out.drewN _)
  have Q3 := Lib.hid (show RdF W2 _ x3 by subst hW2; exact P3.out.drewN _)
  have HD2 := Lib.hid (show ∃ m, W2 = w.drewN m from ⟨_, hW2⟩)
  clear hW2 d0 d1 d2 d3
  have d0 : W2.cell? ⟨bb, 0, none⟩ = some (.int .i64 n0) := HK2.out.cell 0 rfl
  have d1 : W2.cell? ⟨bb, 1, none⟩ = some (.slice a1 x1.length c1) := HK2.out.cell 1 rfl
  have d2 : W2.cell? ⟨bb, 2, none⟩ = some (.slice a2 x2.length c2) := HK2.out.cell 2 rfl
  have d3 : W2.cell? ⟨bb, 3, none⟩ = some (.slice a3 x3.length c3) := HK2.out.cell 3 rfl
  go_wp2_with fail
  go_quiet (first
    | (go_at_call 135; exact l02Finite_qs _ x1 _ _ Q1.out)
    | (go_at_call 135; exact l02Finite_qs _ x3 _ _ Q3.out))
  go_wp2_with fail
  go_ret
  exact ⟨by rw [HNO.out]; rfl, drewN_ex HD2.out _⟩

set_option maxHeartbeats 4000000 in
set_option maxRecDepth 4000 in
theorem LI_hG (bb : Nat) (n0 : Int) (x1 x2 x3 : List Nat) (a1 a2 a3 : Option Addr) (c1 c2 c3 : Nat) (w : World) (HK : Hid (Cels w bb #[.int .i64 n0, .slice a1 x1.length c1, .slice a2 x2.length c2, .slice a3 x3.length c3])) (P1 : Hid (RdF w (.slice a1 x1.length c1) x1)) (P2 : Hid (RdF w (.slice a2 x2.length c2) x2)) (P3 : Hid (RdF w (.slice a3 x3.length c3) x3)) (l1 : x1.length ≤ 9223372036854775807) (l2 : x2.length ≤ 9223372036854775807) (l3 : x3.length ≤ 9223372036854775807)
    (hA : 1 ≤ n0 ∧ n0 ≤ 8) (hB : 1 ≤ x2.length) (hE : x2.length ≤ 8) (hC : (x3.length : Int) = n0) (hD : (x1.length : Int) = n0 * x2.length) (hF : allFin x1 = true) (hG : ¬ (allFin x3 = true)) :
    Calls Try.prog 121 #[.pointer (some ⟨bb, 0, none⟩)] w fun e w' => e = .returned (.bool (validR ⟨n0, x1, x2, x3⟩)) ∧ ∃ m, w' = w.drewN m := by
  have hin := inB_true (lo := 1) (hi := 8) (n := n0) hA
  have hb1 : decide ((x2.length : Int) < 1) = false := by simp; omega
  have hb8 : decide ((8 : Int) < x2.length) = false := by simp; omega
  have hcb : ((x3.length : Int) != n0) = false := by simp [hC]
  obtain ⟨M, hM⟩ : ∃ M : Int, M = n0 * x2.length := ⟨_, rfl⟩
  have hM0 : 0 ≤ M ∧ M ≤ 64 := by have := mulR hA.1 hA.2 hE; omega
  have hmul : IntKind.i64.wrap (n0 * (x2.length : Int)) = M := by rw [IntWalk.i64_in _ (by omega), hM]
  have hdb : ((x1.length : Int) != M) = false := by rw [hM]; simp [hD]
  have HM := Lib.hid hM
  clear hM
  have hgb : allFin x3 = false := by simpa using hG
  have HNO := Lib.hid (validR_false (r := ⟨n0, x1, x2, x3⟩) (fun h => hG h.fg))
  clear hA hC hD hG
  have d0 : w.cell? ⟨bb, 0, none⟩ = some (.int .i64 n0) := HK.out.cell 0 rfl
  have d1 : w.cell? ⟨bb, 1, none⟩ = some (.slice a1 x1.length c1) := HK.out.cell 1 rfl
  have d2 : w.cell? ⟨bb, 2, none⟩ = some (.slice a2 x2.length c2) := HK.out.cell 2 rfl
  have d3 : w.cell? ⟨bb, 3, none⟩ = some (.slice a3 x3.length c3) := HK.out.cell 3 rfl
  go_enter Try.func121, Try.ntmps121
  go_wp2_with fail
  go_quiet ((go_at_call 134; exact quiet_same (in_any _ _ _ _)))
  obtain ⟨W2, hW2⟩ : ∃ W2, W2 = w.drewN nq := ⟨_, rfl⟩
  rw [← hW2]
  have HK2 := Lib.hid (show Cels W2 bb #[.int .i64 n0, .slice a1 x1.length c1, .slice a2 x2.length c2, .slice a3 x3.length c3] by subst hW2; exact HK.out)
  have Q1 := Lib.hid (show RdF W2 _ x1 by subst hW2; exact P1.out.drewN _)
  have Q2 := Lib.hid (show RdF W2 _ x2 by subst hW2; exact P2.out.drewN _)
  have Q3 := Lib.hid (show RdF W2 _ x3 by subst hW2; exact P3.out.drewN _)
  have HD2 := Lib.hid (show ∃ m, W2 = w.drewN m from ⟨_, hW2⟩)
  clear hW2 d0 d1 d2 d3
  have d0 : W2.cell? ⟨bb, 0, none⟩ = some (.int .i64 n0) := HK2.out.cell 0 rfl
  have d1 : W2.cell? ⟨bb, 1, none⟩ = some (.slice a1 x1.length c1) := HK2.out.cell 1 rfl
  have d2 : W2.cell? ⟨bb, 2, none⟩ = some (.slice a2 x2.length c2) := HK2.out.cell 2 rfl
  have d3 : W2.cell? ⟨bb, 3, none⟩ = some (.slice a3 x3.length c3) := HK2.out.cell 3 rfl
  go_wp2_with fail
  go_quiet (first
    | (go_at_call 135; exact l02Finite_qs _ x1 _ _ Q1.out)
    | (go_at_call 135; exact l02Finite_qs _ x3 _ _ Q3.out))
  go_wp2_with fail
  go_ret
  exact ⟨by rw [HNO.out]; rfl, drewN_ex HD2.out _⟩

set_option maxHeartbeats 4000000 in
set_option maxRecDepth 4000 in
theorem LI_yes (bb : Nat) (n0 : Int) (x1 x2 x3 : List Nat) (a1 a2 a3 : Option Addr) (c1 c2 c3 : Nat) (w : World) (HK : Hid (Cels w bb #[.int .i64 n0, .slice a1 x1.length c1, .slice a2 x2.length c2, .slice a3 x3.length c3])) (P1 : Hid (RdF w (.slice a1 x1.length c1) x1)) (P2 : Hid (RdF w (.slice a2 x2.length c2) x2)) (P3 : Hid (RdF w (.slice a3 x3.length c3) x3)) (l1 : x1.length ≤ 9223372036854775807) (l2 : x2.length ≤ 9223372036854775807) (l3 : x3.length ≤ 9223372036854775807)
    (hA : 1 ≤ n0 ∧ n0 ≤ 8) (hB : 1 ≤ x2.length) (hE : x2.length ≤ 8) (hC : (x3.length : Int) = n0) (hD : (x1.length : Int) = n0 * x2.length) (hF : allFin x1 = true) (hG : allFin x3 = true)  :
    Calls Try.prog 121 #[.pointer (some ⟨bb, 0, none⟩)] w fun e w' => e = .returned (.bool (validR ⟨n0, x1, x2, x3⟩)) ∧ ∃ m, w' = w.drewN m := by
  have hin := inB_true (lo := 1) (hi := 8) (n := n0) hA
  have hb1 : decide ((x2.length : Int) < 1) = false := by simp; omega
  have hb8 : decide ((8 : Int) < x2.length) = false := by simp; omega
  have hcb : ((x3.length : Int) != n0) = false := by simp [hC]
  obtain ⟨M, hM⟩ : ∃ M : Int, M = n0 * x2.length := ⟨_, rfl⟩
  have hM0 : 0 ≤ M ∧ M ≤ 64 := by have := mulR hA.1 hA.2 hE; omega
  have hmul : IntKind.i64.wrap (n0 * (x2.length : Int)) = M := by rw [IntWalk.i64_in _ (by omega), hM]
  have hdb : ((x1.length : Int) != M) = false := by rw [hM]; simp [hD]
  have HM := Lib.hid hM
  clear hM
  have HA := Lib.hid hA
  have HB := Lib.hid hB
  have HE := Lib.hid hE
  have HC := Lib.hid hC
  have HD := Lib.hid hD
  have HF := Lib.hid hF
  have HG := Lib.hid hG
  clear hA hC hD
  have d0 : w.cell? ⟨bb, 0, none⟩ = some (.int .i64 n0) := HK.out.cell 0 rfl
  have d1 : w.cell? ⟨bb, 1, none⟩ = some (.slice a1 x1.length c1) := HK.out.cell 1 rfl
  have d2 : w.cell? ⟨bb, 2, none⟩ = some (.slice a2 x2.length c2) := HK.out.cell 2 rfl
  have d3 : w.cell? ⟨bb, 3, none⟩ = some (.slice a3 x3.length c3) := HK.out.cell 3 rfl
  go_enter Try.func121, Try.ntmps121
  go_wp2_with fail
  go_quiet ((go_at_call 134; exact quiet_same (in_any _ _ _ _)))
  obtain ⟨W2, hW2⟩ : ∃ W2, W2 = w.drewN nq := ⟨_, rfl⟩
  rw [← hW2]
  have HK2 := Lib.hid (show Cels W2 bb #[.int .i64 n0, .slice a1 x1.length c1, .slice a2 x2.length c2, .slice a3 x3.length c3] by subst hW2; exact HK.out)
  have Q1 := Lib.hid (show RdF W2 _ x1 by subst hW2; exact P1.out.drewN _)
  have Q2 := Lib.hid (show RdF W2 _ x2 by subst hW2; exact P2.out.drewN _)
  have Q3 := Lib.hid (show RdF W2 _ x3 by subst hW2; exact P3.out.drewN _)
  have HD2 := Lib.hid (show ∃ m, W2 = w.drewN m from ⟨_, hW2⟩)
  clear hW2 d0 d1 d2 d3
  have d0 : W2.cell? ⟨bb, 0, none⟩ = some (.int .i64 n0) := HK2.out.cell 0 rfl
  have d1 : W2.cell? ⟨bb, 1, none⟩ = some (.slice a1 x1.length c1) := HK2.out.cell 1 rfl
  have d2 : W2.cell? ⟨bb, 2, none⟩ = some (.slice a2 x2.length c2) := HK2.out.cell 2 rfl
  have d3 : W2.cell? ⟨bb, 3, none⟩ = some (.slice a3 x3.length c3) := HK2.out.cell 3 rfl
  go_wp2_with fail
  go_quiet (first
    | (go_at_call 135; exact l02Finite_qs _ x1 _ _ Q1.out)
    | (go_at_call 135; exact l02Finite_qs _ x3 _ _ Q3.out))
  obtain ⟨W3, hW3⟩ : ∃ W3, W3 = W2.drewN nq := ⟨_, rfl⟩
  rw [← hW3]
  have HK3 := Lib.hid (show Cels W3 bb #[.int .i64 n0, .slice a1 x1.length c1, .slice a2 x2.length c2, .slice a3 x3.length c3] by subst hW3; exact HK2.out)
  have R2 := Lib.hid (show RdF W3 _ x2 by subst hW3; exact Q2.out.drewN _)
  have HD3 := Lib.hid (show ∃ m, W3 = w.drewN m by subst hW3; exact drewN_ex HD2.out _)
  clear hW3 d0 d1 d2 d3 hF hG hin hb1 hb8 hcb hdb hmul hM0
  go_wp2_with fail
  go_loopw [3] (fun i wr => ∃ k : Nat, i = .int .i64 k ∧ k ≤ x2.length ∧ Hid (∀ j, j < k → least (x2.getD j 0) = true) ∧ Hid (∃ m, wr = W3.drewN m)) (fun i _ => x2.length - (intOf i).toNat)
  case atStart => exact ⟨0, rfl, Nat.zero_le _, fun j hj => by omega, 0, rfl⟩
  case round =>
    obtain ⟨k, rfl, hk, hall, hd⟩ := hrel
    have d2 : wr.cell? ⟨bb, 2, none⟩ = some (.slice a2 x2.length c2) := by
      obtain ⟨m, rfl⟩ := hd.out
      exact HK3.out.cell 2 rfl
    by_cases hlt : k < x2.length
    · obtain ⟨b, off, rfl, _, hc⟩ := (rdF_drew R2.out hd.out).at hlt
      obtain ⟨x, hx⟩ : ∃ x, x = x2.getD k 0 := ⟨_, rfl⟩
      rw [← hx] at hc
      have HX := Lib.hid hx
      clear hx
      go_wp2_with fail
      refine (l02Least_any x wr).mono ?_
      rintro e w1 ⟨rfl, hd1⟩
      have HD4 := Lib.hid (drewN_then hd.out hd1)
      clear hd1 hc d2
      by_cases hf : least x = true
      · rw [hf]
        go_wp2_with fail
        go_roundw
        case rel => exact ⟨k + 1, by go_num, by omega, fun j hj => by
          rcases Nat.lt_succ_iff_lt_or_eq.1 hj with h | rfl
          · exact hall.out j h
          · rw [← HX.out]; exact hf, HD4.out⟩
        case measure => simp [intOf]; omega
      · rw [Bool.not_eq_true] at hf
        have HNO := Lib.hid (validR_false (r := ⟨n0, x1, x2, x3⟩) (fun h => by
          have h1 := h.lb k hlt
          simp only at h1
          rw [← HX.out, hf] at h1
          cases h1))
        rw [hf]
        go_wp2_with fail
        go_ret
        exact ⟨by rw [HNO.out]; rfl, drewN_then HD3.out HD4.out⟩
    · obtain rfl : k = x2.length := by omega
      have HV := Lib.hid (validR_true (r := ⟨n0, x1, x2, x3⟩) ⟨HA.out.1, HA.out.2, HB.out, HE.out, HC.out, HD.out, HF.out, HG.out, hall.out⟩)
      go_wp2_with fail
      go_ret
      exact ⟨by rw [HV.out]; rfl, drewN_then HD3.out hd.out⟩

theorem l02Is_cels (bb : Nat) (v0 v1 v2 v3 : Value) (r : RowsD) (w : World) (hk : Cels w bb #[v0, v1, v2, v3]) (h : RdR w (.agg #[v0, v1, v2, v3]) r) :
    Calls Try.prog 121 #[.pointer (some ⟨bb, 0, none⟩)] w fun e w' => e = .returned (.bool (validR r)) ∧ ∃ m, w' = w.drewN m := by
  obtain ⟨a1, c1, a2, c2, a3, c3, e⟩ := h.shape
  obtain ⟨p1, p2, p3⟩ := h.parts
  simp only [Value.agg.injEq, Array.mk.injEq, List.cons.injEq, and_true] at e
  obtain ⟨rfl, rfl, rfl, rfl⟩ := e
  obtain ⟨n0, x1, x2, x3⟩ := r
  simp only at p1 p2 p3 hk ⊢
  have l1 := p1.len
  have l2 := p2.len
  have l3 := p3.len
  unfold maxLen at l1 l2 l3
  have P1 := Lib.hid p1
  have P2 := Lib.hid p2
  have P3 := Lib.hid p3
  have HK := Lib.hid hk
  clear h p1 p2 p3
  by_cases hA : 1 ≤ n0 ∧ n0 ≤ 8
  case neg => exact LI_hA bb n0 x1 x2 x3 a1 a2 a3 c1 c2 c3 w HK P1 P2 P3 (by omega) (by omega) (by omega) hA
  by_cases hB : 1 ≤ x2.length
  case neg => exact LI_hB bb n0 x1 x2 x3 a1 a2 a3 c1 c2 c3 w HK P1 P2 P3 (by omega) (by omega) (by omega) hA hB
  by_cases hE : x2.length ≤ 8
  case neg => exact LI_hE bb n0 x1 x2 x3 a1 a2 a3 c1 c2 c3 w HK P1 P2 P3 (by omega) (by omega) (by omega) hA hB hE
  by_cases hC : (x3.length : Int) = n0
  case neg => exact LI_hC bb n0 x1 x2 x3 a1 a2 a3 c1 c2 c3 w HK P1 P2 P3 (by omega) (by omega) (by omega) hA hB hE hC
  by_cases hD : (x1.length : Int) = n0 * x2.length
  case neg => exact LI_hD bb n0 x1 x2 x3 a1 a2 a3 c1 c2 c3 w HK P1 P2 P3 (by omega) (by omega) (by omega) hA hB hE hC hD
  by_cases hF : allFin x1 = true
  case neg => exact LI_hF bb n0 x1 x2 x3 a1 a2 a3 c1 c2 c3 w HK P1 P2 P3 (by omega) (by omega) (by omega) hA hB hE hC hD hF
  by_cases hG : allFin x3 = true
  case neg => exact LI_hG bb n0 x1 x2 x3 a1 a2 a3 c1 c2 c3 w HK P1 P2 P3 (by omega) (by omega) (by omega) hA hB hE hC hD hF hG
  exact LI_yes bb n0 x1 x2 x3 a1 a2 a3 c1 c2 c3 w HK P1 P2 P3 (by omega) (by omega) (by omega) hA hB hE hC hD hF hG

theorem l02Is_any (bb : Nat) (v0 v1 v2 v3 : Value) (r : RowsD) (w : World) (hk : Blk w bb 66 #[v0, v1, v2, v3]) (h : RdR w (.agg #[v0, v1, v2, v3]) r) :
    Calls Try.prog 121 #[.pointer (some ⟨bb, 0, none⟩)] w fun e w' => e = .returned (.bool (validR r)) ∧ ∃ m, w' = w.drewN m := l02Is_cels bb v0 v1 v2 v3 r w hk.cels h

end Go.Proofs.Ytljhohacgceojaa
