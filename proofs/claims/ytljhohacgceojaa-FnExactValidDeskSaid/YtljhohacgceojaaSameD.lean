/-
  Equal desks: the program.
-/
import Derived.Test.YtljhohacgceojaaSameRw
import Derived.Test.YtljhohacgceojaaSameL
namespace Go.Proofs.Ytljhohacgceojaa
open Go.RowKit

def sameD (d e : DeskD) : Bool := sameR d.rows e.rows && (decide (d.sizes = e.sizes) && (sameJs d.jobs e.jobs && decide (d.ways = e.ways)))

theorem sameNumbers_b (q : Bool) (v v' : Value) (xs ys : List Nat) (w : World) (h : RdF w v xs) (h' : RdF w v' ys) (hq : sameF xs ys = q) :
    Calls Try.prog 118 #[v, v'] w fun e w' => e = .returned (.bool q) ∧ Below w.heap.size w w' := by
  subst hq
  refine (sameNumbers_any v v' xs ys w h h').mono ?_
  rintro e w' ⟨rfl, n, rfl⟩
  exact ⟨rfl, below_drewN (Below.refl _ _) n⟩
theorem equalI_b (q : Bool) (v v' : Value) (xs ys : List Int) (w : World) (h : RdI w v xs) (h' : RdI w v' ys) (hq : decide (xs = ys) = q) :
    Calls Try.prog 83 #[v, v'] w fun e w' => e = .returned (.bool q) ∧ Below w.heap.size w w' := by
  subst hq
  refine (slicesEqual_rd v v' xs ys w h h').mono ?_
  rintro e w' ⟨rfl, n, rfl⟩
  exact ⟨rfl, below_drewN (Below.refl _ _) n⟩
theorem equalJ_b (q : Bool) (v v' : Value) (xs ys : List JobD) (w : World) (h : RdJ w v xs) (h' : RdJ w v' ys) (hq : sameJs xs ys = q) :
    Calls Try.prog 84 #[v, v'] w fun e w' => e = .returned (.bool q) ∧ Below w.heap.size w w' := by
  subst hq
  refine (equalJ_any v v' xs ys w h h').mono ?_
  rintro e w' ⟨rfl, n, rfl⟩
  exact ⟨rfl, below_drewN (Below.refl _ _) n⟩

set_option maxHeartbeats 4000000 in
set_option maxRecDepth 4000 in
theorem implSameRows_any (v v' : Value) (r s : RowsD) (w : World) (h : RdR w v r) (h' : RdR w v' s) :
    Calls Try.prog 82 #[v, v'] w fun e w' => e = .returned (.bool (sameR r s)) ∧ Below w.heap.size w w' := by
  obtain ⟨a1, c1, a2, c2, a3, c3, rfl⟩ := h.shape
  obtain ⟨b1, e1, b2, e2, b3, e3, rfl⟩ := h'.shape
  obtain ⟨f1, f2, f3⟩ := h.parts
  obtain ⟨g1, g2, g3⟩ := h'.parts
  have P1 := Lib.hid f1
  have P2 := Lib.hid f2
  have P3 := Lib.hid f3
  have Q1 := Lib.hid g1
  have Q2 := Lib.hid g2
  have Q3 := Lib.hid g3
  obtain ⟨k1, hk1⟩ : ∃ k, sameF r.nums s.nums = k := ⟨_, rfl⟩
  obtain ⟨k2, hk2⟩ : ∃ k, sameF r.bnds s.bnds = k := ⟨_, rfl⟩
  obtain ⟨k3, hk3⟩ : ∃ k, sameF r.gains s.gains = k := ⟨_, rfl⟩
  have K1 := Lib.hid hk1
  have K2 := Lib.hid hk2
  have K3 := Lib.hid hk3
  have HS := Lib.hid (show sameR r s = ((r.vars == s.vars) && (k1 && (k2 && k3))) by unfold sameR; rw [hk1, hk2, hk3])
  clear h h' f1 f2 f3 g1 g2 g3 hk1 hk2 hk3
  cases hv : (r.vars == s.vars)
  · have HN := Lib.hid (show sameR r s = false by rw [HS.out, hv]; rfl)
    go_enter Try.func82, Try.ntmps82
    go_wp2_with fail
    go_ret
    refine ⟨by rw [HN.out]; rfl, ?_⟩
    (repeat' first | exact Below.refl _ _ | assumption | refine Below.alloc ?_ ?_ _ | refine Below.setCell ?_ ?_ _ | refine Below.drew ?_ | (simp; done) | (simp; omega))
  go_enter Try.func82, Try.ntmps82
  go_wp2_with fail
  refine Calls.at fun W hW => ?_
  have HB := Lib.hid (show Below w.heap.size w W by subst hW; (repeat' first | exact Below.refl _ _ | assumption | refine Below.alloc ?_ ?_ _ | refine Below.setCell ?_ ?_ _ | refine Below.drew ?_ | (simp; done) | (simp; omega)))
  have HK := Lib.hid (show Blk W w.heap.size 66 #[.int .i64 r.vars, .slice a1 r.nums.length c1, .slice a2 r.bnds.length c2, .slice a3 r.gains.length c3] by subst hW; exact (Blk.new _ _ _).alloc _)
  have HM := Lib.hid (show Blk W (w.heap.size + 1) 66 #[.int .i64 s.vars, .slice b1 s.nums.length e1, .slice b2 s.bnds.length e2, .slice b3 s.gains.length e3] by subst hW; simpa using Blk.new (w.alloc (.cells #[.int .i64 r.vars, .slice a1 r.nums.length c1, .slice a2 r.bnds.length c2, .slice a3 r.gains.length c3] 66)) 66 #[.int .i64 s.vars, .slice b1 s.nums.length e1, .slice b2 s.bnds.length e2, .slice b3 s.gains.length e3])
  clear hW
  refine (sameNumbers_b _ _ _ r.nums s.nums W (P1.out.up HB.out (Nat.le_refl _)) (Q1.out.up HB.out (Nat.le_refl _)) K1.out).mono ?_
  rintro e w1 ⟨rfl, hb1⟩
  have HB1 := Lib.hid (HB.out.trans (hb1.mono HB.out.size))
  have HK1 := Lib.hid (HK.out.below hb1 HK.out.lt)
  have HM1 := Lib.hid (HM.out.below hb1 HM.out.lt)
  clear hb1
  cases k1
  · have HN := Lib.hid (show sameR r s = false by rw [HS.out, hv]; rfl)
    go_wp2_with fail
    go_ret
    exact ⟨by rw [HN.out]; rfl, HB1.out⟩
  have x2 : w1.cell? ⟨w.heap.size, 2, none⟩ = some (.slice a2 r.bnds.length c2) := HK1.out.cell 2 rfl
  have y2 : w1.cell? ⟨w.heap.size + 1, 2, none⟩ = some (.slice b2 s.bnds.length e2) := HM1.out.cell 2 rfl
  go_wp2_with fail
  refine (sameNumbers_b _ _ _ r.bnds s.bnds w1 (P2.out.up HB1.out (Nat.le_refl _)) (Q2.out.up HB1.out (Nat.le_refl _)) K2.out).mono ?_
  rintro e w2 ⟨rfl, hb2⟩
  have HB2 := Lib.hid (HB1.out.trans (hb2.mono HB1.out.size))
  have HK2 := Lib.hid (HK1.out.below hb2 HK1.out.lt)
  have HM2 := Lib.hid (HM1.out.below hb2 HM1.out.lt)
  clear hb2 x2 y2
  cases k2
  · have HN := Lib.hid (show sameR r s = false by rw [HS.out, hv]; rfl)
    go_wp2_with fail
    go_ret
    exact ⟨by rw [HN.out]; rfl, HB2.out⟩
  have HN := Lib.hid (show sameR r s = k3 by rw [HS.out, hv]; rfl)
  have x3 : w2.cell? ⟨w.heap.size, 3, none⟩ = some (.slice a3 r.gains.length c3) := HK2.out.cell 3 rfl
  have y3 : w2.cell? ⟨w.heap.size + 1, 3, none⟩ = some (.slice b3 s.gains.length e3) := HM2.out.cell 3 rfl
  go_wp2_with fail
  refine (sameNumbers_b _ _ _ r.gains s.gains w2 (P3.out.up HB2.out (Nat.le_refl _)) (Q3.out.up HB2.out (Nat.le_refl _)) K3.out).mono ?_
  rintro e w3 ⟨rfl, hb3⟩
  have HB3 := Lib.hid (HB2.out.trans (hb3.mono HB2.out.size))
  clear hb3 x3 y3
  go_wp2_with fail
  go_ret
  exact ⟨by rw [HN.out]; rfl, HB3.out⟩

end Go.Proofs.Ytljhohacgceojaa
