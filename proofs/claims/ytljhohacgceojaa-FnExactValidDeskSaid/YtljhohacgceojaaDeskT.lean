/-
  Desk, by value.  (Printed by genstruct.py.)
-/
import Derived.Test.YtljhohacgceojaaDeskO
import Derived.Test.YtljhohacgceojaaJobsT
namespace Go.Proofs.Ytljhohacgceojaa
open Go.RowKit

set_option maxHeartbeats 2000000 in
set_option maxRecDepth 4000 in
theorem szD_any (v : Value) (d : DeskD) (left : Int) (w : World) (h : RdD w v d) (h1 : left ≤ 1048576) (h0 : 0 ≤ left) :
    Calls Try.prog 37 #[v, .int .i64 left] w fun e w' => ∃ s : Int, e = .returned (.int .i64 s) ∧ -1 ≤ s ∧ s ≤ left ∧ (0 ≤ s → (bulkD d : Int) ≤ left - s) ∧ Below w.heap.size w w' := by
  obtain ⟨a1, c1, a2, c2, a3, c3, a4, c4, a5, c5, a6, c6, rfl⟩ := h.shape
  obtain ⟨p1, p2, p3, p4⟩ := h.parts
  obtain ⟨x1, x2, x3, x4⟩ := d
  unfold bulkD
  simp only at p1 p2 p3 p4 ⊢
  have P1 := Lib.hid p1
  have P2 := Lib.hid p2
  have P3 := Lib.hid p3
  have P4 := Lib.hid p4
  clear h p1 p2 p3 p4
  have hbk1 : bulkI x2 = x2.length := rfl
  have hbk2 : bulkJ x3 = x3.length := rfl
  have hbk3 : bulkI x4 = x4.length := rfl
  go_enter Try.func37, Try.ntmps37
  go_wp2_with fail
  refine Calls.at fun W hW => ?_
  have HB := Lib.hid (show Below w.heap.size w W by subst hW; (repeat' first | exact Below.refl _ _ | assumption | refine Below.alloc ?_ ?_ _ | refine Below.setCell ?_ ?_ _ | refine Below.drew ?_ | (simp; done) | (simp; omega)))
  have HK := Lib.hid (show Blk W w.heap.size 63 #[.int .i64 x1.vars, .slice a1 x1.nums.length c1, .slice a2 x1.bnds.length c2, .slice a3 x1.gains.length c3, .slice a4 x2.length c4, .slice a5 x3.length c5, .slice a6 x4.length c6] by subst hW; exact Blk.new _ _ _)
  clear hW
  refine (szR_any _ x1 left W (P1.out.up HB.out (Nat.le_refl _)) (by omega) (by omega)).mono ?_
  rintro e w1 ⟨s1, rfl, sa1, sb1, sc1, hb1⟩
  have HB1 := Lib.hid (HB.out.trans (hb1.mono HB.out.size))
  have HK1 := Lib.hid (HK.out.below hb1 HK.out.lt)
  clear hb1
  by_cases hn1 : s1 < 0
  · go_wp2_with fail
    go_ret
    exact ⟨-1, rfl, by omega, by omega, by omega, HB1.out⟩
  have d2_0 : w1.cell? ⟨w.heap.size, 4, none⟩ = some (.slice a4 x2.length c4) := HK1.out.cell 4 rfl
  go_wp2_with fail
  refine (szI_any _ x2 s1 w1 (P2.out.up HB1.out (Nat.le_refl _)) (by omega) (by omega)).mono ?_
  rintro e w2 ⟨s2, rfl, sa2, sb2, sc2, hb2⟩
  have HB2 := Lib.hid (HB1.out.trans (hb2.mono HB1.out.size))
  have HK2 := Lib.hid (HK1.out.below hb2 HK1.out.lt)
  clear hb2
  by_cases hn2 : s2 < 0
  · go_wp2_with fail
    go_ret
    exact ⟨-1, rfl, by omega, by omega, by omega, HB2.out⟩
  have d3_0 : w2.cell? ⟨w.heap.size, 5, none⟩ = some (.slice a5 x3.length c5) := HK2.out.cell 5 rfl
  go_wp2_with fail
  refine (szJ_any _ x3 s2 w2 (P3.out.up HB2.out (Nat.le_refl _)) (by omega) (by omega)).mono ?_
  rintro e w3 ⟨s3, rfl, sa3, sb3, sc3, hb3⟩
  have HB3 := Lib.hid (HB2.out.trans (hb3.mono HB2.out.size))
  have HK3 := Lib.hid (HK2.out.below hb3 HK2.out.lt)
  clear hb3
  by_cases hn3 : s3 < 0
  · go_wp2_with fail
    go_ret
    exact ⟨-1, rfl, by omega, by omega, by omega, HB3.out⟩
  have d4_0 : w3.cell? ⟨w.heap.size, 6, none⟩ = some (.slice a6 x4.length c6) := HK3.out.cell 6 rfl
  go_wp2_with fail
  refine (szI_any _ x4 s3 w3 (P4.out.up HB3.out (Nat.le_refl _)) (by omega) (by omega)).mono ?_
  rintro e w4 ⟨s4, rfl, sa4, sb4, sc4, hb4⟩
  have HB4 := Lib.hid (HB3.out.trans (hb4.mono HB3.out.size))
  have HK4 := Lib.hid (HK3.out.below hb4 HK3.out.lt)
  clear hb4
  by_cases hn4 : s4 < 0
  · go_wp2_with fail
    go_ret
    exact ⟨-1, rfl, by omega, by omega, by omega, HB4.out⟩
  go_wp2_with fail
  go_ret
  exact ⟨s4, rfl, by omega, by omega, by omega, HB4.out⟩

set_option maxHeartbeats 2000000 in
set_option maxRecDepth 4000 in
theorem toD_any (v : Value) (d : DeskD) (w : World) (h : RdD w v d) (hb : bulkD d ≤ 1048576) :
    Calls Try.prog 39 #[v] w fun e w' => ∃ v', e = .returned v' ∧ OwnD w.heap.size w'.heap.size w' v' d ∧ Below w.heap.size w w' := by
  obtain ⟨a1, c1, a2, c2, a3, c3, a4, c4, a5, c5, a6, c6, rfl⟩ := h.shape
  obtain ⟨p1, p2, p3, p4⟩ := h.parts
  obtain ⟨x1, x2, x3, x4⟩ := d
  unfold bulkD at hb
  simp only at p1 p2 p3 p4 hb ⊢
  have P1 := Lib.hid p1
  have L1 : Hid (bulkR x1 ≤ 1048576) := by show bulkR x1 ≤ _; omega
  have P2 := Lib.hid p2
  have L2 : Hid (bulkI x2 ≤ 1048576) := by show x2.length ≤ _; omega
  have P3 := Lib.hid p3
  have L3 : Hid (bulkJ x3 ≤ 1048576) := by show x3.length ≤ _; omega
  have P4 := Lib.hid p4
  have L4 : Hid (bulkI x4 ≤ 1048576) := by show x4.length ≤ _; omega
  clear h p1 p2 p3 p4 hb
  go_enter Try.func39, Try.ntmps39
  go_wp2_with fail
  refine Calls.at fun W1 hW => ?_
  have hb1 : Below w.heap.size w W1 := by subst hW; (repeat' first | exact Below.refl _ _ | assumption | refine Below.alloc ?_ ?_ _ | refine Below.setCell ?_ ?_ _ | refine Below.drew ?_ | (simp; done) | (simp; omega))
  have hk1 : Blk W1 (w.heap.size + 2) 69 #[.int .i64 0, .slice none 0 0, .slice none 0 0, .slice none 0 0, .slice none 0 0, .slice none 0 0, .slice none 0 0] := by subst hW; simpa using Blk.new ((w.alloc (.cells #[.int .i64 x1.vars, .slice a1 x1.nums.length c1, .slice a2 x1.bnds.length c2, .slice a3 x1.gains.length c3, .slice a4 x2.length c4, .slice a5 x3.length c5, .slice a6 x4.length c6] 63)).alloc (.cells #[.int .i64 0, .slice none 0 0, .slice none 0 0, .slice none 0 0, .slice none 0 0, .slice none 0 0, .slice none 0 0] 69)) 69 #[.int .i64 0, .slice none 0 0, .slice none 0 0, .slice none 0 0, .slice none 0 0, .slice none 0 0, .slice none 0 0]
  have hk2 : Blk W1 w.heap.size 63 #[.int .i64 x1.vars, .slice a1 x1.nums.length c1, .slice a2 x1.bnds.length c2, .slice a3 x1.gains.length c3, .slice a4 x2.length c4, .slice a5 x3.length c5, .slice a6 x4.length c6] := by subst hW; exact ((Blk.new w _ _).alloc _).alloc _
  have hk3 : Blk W1 (w.heap.size + 1) 69 #[.int .i64 0, .slice none 0 0, .slice none 0 0, .slice none 0 0, .slice none 0 0, .slice none 0 0, .slice none 0 0] := by subst hW; simpa using (Blk.new (w.alloc (.cells #[.int .i64 x1.vars, .slice a1 x1.nums.length c1, .slice a2 x1.bnds.length c2, .slice a3 x1.gains.length c3, .slice a4 x2.length c4, .slice a5 x3.length c5, .slice a6 x4.length c6] 63)) 69 #[.int .i64 0, .slice none 0 0, .slice none 0 0, .slice none 0 0, .slice none 0 0, .slice none 0 0, .slice none 0 0]).alloc (.cells #[.int .i64 0, .slice none 0 0, .slice none 0 0, .slice none 0 0, .slice none 0 0, .slice none 0 0, .slice none 0 0] 69)
  have hz1 := hk1.lt
  clear hW
  refine (toR_any _ x1 W1 (P1.out.up hb1 (Nat.le_refl _)) L1.out).mono ?_
  rintro e w1 ⟨y1, rfl, ho1, hbb⟩
  obtain ⟨b1, e1, b2, e2, b3, e3, rfl⟩ := ho1.rd.shape
  have zz1 := hbb.size
  have HB1 := Lib.hid (hb1.trans (hbb.mono hb1.size))
  have HK1 := Lib.hid (hk1.below hbb hk1.lt)
  have HK2 := Lib.hid (hk2.below hbb hk2.lt)
  have HK3 := Lib.hid (hk3.below hbb hk3.lt)
  have O1 := Lib.hid (ho1)
  have k1_0 : w1.cell? ⟨w.heap.size + 2, 0, none⟩ = some (.int .i64 0) := HK1.out.cell 0 rfl
  have f1_0 := HK1.out.free 0
  have k1_1 : w1.cell? ⟨w.heap.size + 2, 1, none⟩ = some (.slice none 0 0) := HK1.out.cell 1 rfl
  have f1_1 := HK1.out.free 1
  have k1_2 : w1.cell? ⟨w.heap.size + 2, 2, none⟩ = some (.slice none 0 0) := HK1.out.cell 2 rfl
  have f1_2 := HK1.out.free 2
  have k1_3 : w1.cell? ⟨w.heap.size + 2, 3, none⟩ = some (.slice none 0 0) := HK1.out.cell 3 rfl
  have f1_3 := HK1.out.free 3
  have d1_0 : w1.cell? ⟨w.heap.size, 4, none⟩ = some (.slice a4 x2.length c4) := HK2.out.cell 4 rfl
  clear hb1 hbb hk1 hk2 hk3 ho1
  go_wp2_with fail
  refine Calls.at fun W2 hW => ?_
  have z2 : W2.heap.size = w1.heap.size := by subst hW; simp
  have hb2 : Below w.heap.size w W2 := by subst hW; exact ((((HB1.out.setCell (by first | (simp; done) | (simp; omega)) _).setCell (by first | (simp; done) | (simp; omega)) _).setCell (by first | (simp; done) | (simp; omega)) _).setCell (by first | (simp; done) | (simp; omega)) _)
  have hk1 : Blk W2 (w.heap.size + 2) 69 #[.int .i64 x1.vars, .slice b1 x1.nums.length e1, .slice b2 x1.bnds.length e2, .slice b3 x1.gains.length e3, .slice none 0 0, .slice none 0 0, .slice none 0 0] := by subst hW; exact ((((HK1.out.set 0 _).set 1 _).set 2 _).set 3 _)
  have hk2 : Blk W2 w.heap.size 63 #[.int .i64 x1.vars, .slice a1 x1.nums.length c1, .slice a2 x1.bnds.length c2, .slice a3 x1.gains.length c3, .slice a4 x2.length c4, .slice a5 x3.length c5, .slice a6 x4.length c6] := by subst hW; exact ((((HK2.out.other (by first | (simp; done) | (simp; omega)) _).other (by first | (simp; done) | (simp; omega)) _).other (by first | (simp; done) | (simp; omega)) _).other (by first | (simp; done) | (simp; omega)) _)
  have hk3 : Blk W2 (w.heap.size + 1) 69 #[.int .i64 0, .slice none 0 0, .slice none 0 0, .slice none 0 0, .slice none 0 0, .slice none 0 0, .slice none 0 0] := by subst hW; exact ((((HK3.out.other (by first | (simp; done) | (simp; omega)) _).other (by first | (simp; done) | (simp; omega)) _).other (by first | (simp; done) | (simp; omega)) _).other (by first | (simp; done) | (simp; omega)) _)
  have hks : Kept (· = w.heap.size + 2) w1 W2 := by subst hW; exact (Kept.setCell (S := (· = w.heap.size + 2)) (p := ⟨w.heap.size + 1 + 1, 3, none⟩) (Kept.setCell (S := (· = w.heap.size + 2)) (p := ⟨w.heap.size + 1 + 1, 2, none⟩) (Kept.setCell (S := (· = w.heap.size + 2)) (p := ⟨w.heap.size + 1 + 1, 1, none⟩) (Kept.setCell (S := (· = w.heap.size + 2)) (p := ⟨w.heap.size + 1 + 1, 0, none⟩) (Kept.refl _ _) (.inr rfl) _) (.inr rfl) _) (.inr rfl) _) (.inr rfl) _)
  have ho1 := O1.out.kept hks (by intro b h1 h2 h3; omega)
  clear hW hks k1_0 f1_0 k1_1 f1_1 k1_2 f1_2 k1_3 f1_3 d1_0 HB1 HK1 HK2 HK3 O1
  refine (toI_any _ x2 W2 (P2.out.up hb2 (Nat.le_refl _)) L2.out).mono ?_
  rintro e w2 ⟨y2, rfl, ho2, hbb⟩
  obtain ⟨b4, e4, rfl⟩ := ho2.rd.shape
  have zz2 := hbb.size
  have HB2 := Lib.hid (hb2.trans (hbb.mono hb2.size))
  have HK1 := Lib.hid (hk1.below hbb hk1.lt)
  have HK2 := Lib.hid (hk2.below hbb hk2.lt)
  have HK3 := Lib.hid (hk3.below hbb hk3.lt)
  have O1 := Lib.hid (ho1.up hbb (Nat.le_refl _))
  have O2 := Lib.hid (ho2)
  have k2_0 : w2.cell? ⟨w.heap.size + 2, 4, none⟩ = some (.slice none 0 0) := HK1.out.cell 4 rfl
  have f2_0 := HK1.out.free 4
  have d2_0 : w2.cell? ⟨w.heap.size, 5, none⟩ = some (.slice a5 x3.length c5) := HK2.out.cell 5 rfl
  clear hb2 hbb hk1 hk2 hk3 ho1 ho2
  go_wp2_with fail
  refine Calls.at fun W3 hW => ?_
  have z3 : W3.heap.size = w2.heap.size := by subst hW; simp
  have hb3 : Below w.heap.size w W3 := by subst hW; exact (HB2.out.setCell (by first | (simp; done) | (simp; omega)) _)
  have hk1 : Blk W3 (w.heap.size + 2) 69 #[.int .i64 x1.vars, .slice b1 x1.nums.length e1, .slice b2 x1.bnds.length e2, .slice b3 x1.gains.length e3, .slice b4 x2.length e4, .slice none 0 0, .slice none 0 0] := by subst hW; exact (HK1.out.set 4 _)
  have hk2 : Blk W3 w.heap.size 63 #[.int .i64 x1.vars, .slice a1 x1.nums.length c1, .slice a2 x1.bnds.length c2, .slice a3 x1.gains.length c3, .slice a4 x2.length c4, .slice a5 x3.length c5, .slice a6 x4.length c6] := by subst hW; exact (HK2.out.other (by first | (simp; done) | (simp; omega)) _)
  have hk3 : Blk W3 (w.heap.size + 1) 69 #[.int .i64 0, .slice none 0 0, .slice none 0 0, .slice none 0 0, .slice none 0 0, .slice none 0 0, .slice none 0 0] := by subst hW; exact (HK3.out.other (by first | (simp; done) | (simp; omega)) _)
  have hks : Kept (· = w.heap.size + 2) w2 W3 := by subst hW; exact (Kept.setCell (S := (· = w.heap.size + 2)) (p := ⟨w.heap.size + 1 + 1, 4, none⟩) (Kept.refl _ _) (.inr rfl) _)
  have ho1 := O1.out.kept hks (by intro b h1 h2 h3; omega)
  have ho2 := O2.out.kept hks (by intro b h1 h2 h3; omega)
  clear hW hks k2_0 f2_0 d2_0 HB2 HK1 HK2 HK3 O1 O2
  refine (toJ_any _ x3 W3 (P3.out.up hb3 (Nat.le_refl _)) L3.out).mono ?_
  rintro e w3 ⟨y3, rfl, ho3, hbb⟩
  obtain ⟨b5, e5, rfl⟩ := ho3.rd.shape
  have zz3 := hbb.size
  have HB3 := Lib.hid (hb3.trans (hbb.mono hb3.size))
  have HK1 := Lib.hid (hk1.below hbb hk1.lt)
  have HK2 := Lib.hid (hk2.below hbb hk2.lt)
  have HK3 := Lib.hid (hk3.below hbb hk3.lt)
  have O1 := Lib.hid (ho1.up hbb (Nat.le_refl _))
  have O2 := Lib.hid (ho2.up hbb (Nat.le_refl _))
  have O3 := Lib.hid (ho3)
  have k3_0 : w3.cell? ⟨w.heap.size + 2, 5, none⟩ = some (.slice none 0 0) := HK1.out.cell 5 rfl
  have f3_0 := HK1.out.free 5
  have d3_0 : w3.cell? ⟨w.heap.size, 6, none⟩ = some (.slice a6 x4.length c6) := HK2.out.cell 6 rfl
  clear hb3 hbb hk1 hk2 hk3 ho1 ho2 ho3
  go_wp2_with fail
  refine Calls.at fun W4 hW => ?_
  have z4 : W4.heap.size = w3.heap.size := by subst hW; simp
  have hb4 : Below w.heap.size w W4 := by subst hW; exact (HB3.out.setCell (by first | (simp; done) | (simp; omega)) _)
  have hk1 : Blk W4 (w.heap.size + 2) 69 #[.int .i64 x1.vars, .slice b1 x1.nums.length e1, .slice b2 x1.bnds.length e2, .slice b3 x1.gains.length e3, .slice b4 x2.length e4, .slice b5 x3.length e5, .slice none 0 0] := by subst hW; exact (HK1.out.set 5 _)
  have hk2 : Blk W4 w.heap.size 63 #[.int .i64 x1.vars, .slice a1 x1.nums.length c1, .slice a2 x1.bnds.length c2, .slice a3 x1.gains.length c3, .slice a4 x2.length c4, .slice a5 x3.length c5, .slice a6 x4.length c6] := by subst hW; exact (HK2.out.other (by first | (simp; done) | (simp; omega)) _)
  have hk3 : Blk W4 (w.heap.size + 1) 69 #[.int .i64 0, .slice none 0 0, .slice none 0 0, .slice none 0 0, .slice none 0 0, .slice none 0 0, .slice none 0 0] := by subst hW; exact (HK3.out.other (by first | (simp; done) | (simp; omega)) _)
  have hks : Kept (· = w.heap.size + 2) w3 W4 := by subst hW; exact (Kept.setCell (S := (· = w.heap.size + 2)) (p := ⟨w.heap.size + 1 + 1, 5, none⟩) (Kept.refl _ _) (.inr rfl) _)
  have ho1 := O1.out.kept hks (by intro b h1 h2 h3; omega)
  have ho2 := O2.out.kept hks (by intro b h1 h2 h3; omega)
  have ho3 := O3.out.kept hks (by intro b h1 h2 h3; omega)
  clear hW hks k3_0 f3_0 d3_0 HB3 HK1 HK2 HK3 O1 O2 O3
  refine (toI_any _ x4 W4 (P4.out.up hb4 (Nat.le_refl _)) L4.out).mono ?_
  rintro e w4 ⟨y4, rfl, ho4, hbb⟩
  obtain ⟨b6, e6, rfl⟩ := ho4.rd.shape
  have zz4 := hbb.size
  have HB4 := Lib.hid (hb4.trans (hbb.mono hb4.size))
  have HK1 := Lib.hid (hk1.below hbb hk1.lt)
  have HK2 := Lib.hid (hk2.below hbb hk2.lt)
  have HK3 := Lib.hid (hk3.below hbb hk3.lt)
  have O1 := Lib.hid (ho1.up hbb (Nat.le_refl _))
  have O2 := Lib.hid (ho2.up hbb (Nat.le_refl _))
  have O3 := Lib.hid (ho3.up hbb (Nat.le_refl _))
  have O4 := Lib.hid (ho4)
  have k4_0 : w4.cell? ⟨w.heap.size + 2, 6, none⟩ = some (.slice none 0 0) := HK1.out.cell 6 rfl
  have f4_0 := HK1.out.free 6
  clear hb4 hbb hk1 hk2 hk3 ho1 ho2 ho3 ho4
  have g0 : w4.cell? ⟨w.heap.size + 2, 0, none⟩ = some (.int .i64 x1.vars) := HK1.out.cell 0 rfl
  have g1 : w4.cell? ⟨w.heap.size + 2, 1, none⟩ = some (.slice b1 x1.nums.length e1) := HK1.out.cell 1 rfl
  have g2 : w4.cell? ⟨w.heap.size + 2, 2, none⟩ = some (.slice b2 x1.bnds.length e2) := HK1.out.cell 2 rfl
  have g3 : w4.cell? ⟨w.heap.size + 2, 3, none⟩ = some (.slice b3 x1.gains.length e3) := HK1.out.cell 3 rfl
  have g4 : w4.cell? ⟨w.heap.size + 2, 4, none⟩ = some (.slice b4 x2.length e4) := HK1.out.cell 4 rfl
  have g5 : w4.cell? ⟨w.heap.size + 2, 5, none⟩ = some (.slice b5 x3.length e5) := HK1.out.cell 5 rfl
  have h0 : w4.cell? ⟨w.heap.size + 1, 0, none⟩ = some (.int .i64 0) := HK3.out.cell 0 rfl
  have i0 := HK3.out.free 0
  have h1 : w4.cell? ⟨w.heap.size + 1, 1, none⟩ = some (.slice none 0 0) := HK3.out.cell 1 rfl
  have i1 := HK3.out.free 1
  have h2 : w4.cell? ⟨w.heap.size + 1, 2, none⟩ = some (.slice none 0 0) := HK3.out.cell 2 rfl
  have i2 := HK3.out.free 2
  have h3 : w4.cell? ⟨w.heap.size + 1, 3, none⟩ = some (.slice none 0 0) := HK3.out.cell 3 rfl
  have i3 := HK3.out.free 3
  have h4 : w4.cell? ⟨w.heap.size + 1, 4, none⟩ = some (.slice none 0 0) := HK3.out.cell 4 rfl
  have i4 := HK3.out.free 4
  have h5 : w4.cell? ⟨w.heap.size + 1, 5, none⟩ = some (.slice none 0 0) := HK3.out.cell 5 rfl
  have i5 := HK3.out.free 5
  have h6 : w4.cell? ⟨w.heap.size + 1, 6, none⟩ = some (.slice none 0 0) := HK3.out.cell 6 rfl
  have i6 := HK3.out.free 6
  go_wp2_with fail
  refine bodyPost_ret (v := .agg #[.int .i64 x1.vars, .slice b1 x1.nums.length e1, .slice b2 x1.bnds.length e2, .slice b3 x1.gains.length e3, .slice b4 x2.length e4, .slice b5 x3.length e5, .slice b6 x4.length e6]) (by simp [results, Try.results39, go_sem, *]) rfl ?_
  have wx : ∀ Wf, Kept (fun b => b = w.heap.size + 1 ∨ b = w.heap.size + 2) w4 Wf → Wf.heap.size = w4.heap.size → ∃ v', Ending.returned (.agg #[.int .i64 x1.vars, .slice b1 x1.nums.length e1, .slice b2 x1.bnds.length e2, .slice b3 x1.gains.length e3, .slice b4 x2.length e4, .slice b5 x3.length e5, .slice b6 x4.length e6]) = Ending.returned v' ∧ OwnD w.heap.size Wf.heap.size Wf v' ⟨x1, x2, x3, x4⟩ ∧ Below w.heap.size w Wf := by
    intro Wf hk hz
    have k1 := O1.out.kept hk (by intro b h1 h2 h3; omega)
    have k2 := O2.out.kept hk (by intro b h1 h2 h3; omega)
    have k3 := O3.out.kept hk (by intro b h1 h2 h3; omega)
    have k4 := O4.out.kept hk (by intro b h1 h2 h3; omega)
    refine ⟨_, rfl, ⟨_, _, _, _, _, _, _, _, _, _, _, _, _, _, rfl, k1, k2, k3, k4, by omega, by omega, by omega, by omega, by omega, by omega, by omega, by omega, by omega, by omega⟩, HB4.out.trans (hk.toBelow HB4.out.size (by intro k h1 h2; omega))⟩
  refine wx _ ?_ (by simp)
  repeat' first | with_reducible exact Kept.refl _ _ | refine Kept.setCell ?_ (.inr (by simp)) _

end Go.Proofs.Ytljhohacgceojaa
