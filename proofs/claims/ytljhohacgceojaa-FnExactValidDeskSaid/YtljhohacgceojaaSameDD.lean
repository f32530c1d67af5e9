/-
  Equal desks: by the program and by the reference.
-/
import Derived.Test.YtljhohacgceojaaSameD
namespace Go.Proofs.Ytljhohacgceojaa
open Go.RowKit

theorem implSameRows_b (q : Bool) (v v' : Value) (r s : RowsD) (w : World) (h : RdR w v r) (h' : RdR w v' s) (hq : sameR r s = q) :
    Calls Try.prog 82 #[v, v'] w fun e w' => e = .returned (.bool q) ∧ Below w.heap.size w w' := by
  subst hq
  exact implSameRows_any v v' r s w h h'
theorem basis_b (q : Bool) (v v' : Value) (xs ys : List Int) (w : World) (h : RdI w v xs) (h' : RdI w v' ys) (hq : decide (xs = ys) = q) :
    Calls Try.prog 78 #[v, v'] w fun e w' => e = .returned (.bool q) ∧ Below w.heap.size w w' := by
  subst hq
  obtain ⟨a, c, rfl⟩ := h.shape
  obtain ⟨a', c', rfl⟩ := h'.shape
  refine (l02Basis_any _ _ _ _ _ _ xs ys w rfl rfl h h').mono ?_
  rintro e w' ⟨rfl, n, rfl⟩
  exact ⟨rfl, below_drewN (Below.refl _ _) n⟩
theorem l02Same_b (qq : Bool) (b1 b2 : Nat) (r s : RowsD) (p1 : Option Addr) (P1' : Nat) (p2 : Option Addr) (P2' : Nat) (p3 : Option Addr) (P3' : Nat) (q1 : Option Addr) (Q1' : Nat) (q2 : Option Addr) (Q2' : Nat) (q3 : Option Addr) (Q3' : Nat) (w : World) (c0 : w.cell? ⟨b1, 0, none⟩ = some (.int .i64 r.vars)) (c1 : w.cell? ⟨b1, 1, none⟩ = some (.slice p1 r.nums.length P1')) (c2 : w.cell? ⟨b1, 2, none⟩ = some (.slice p2 r.bnds.length P2')) (c3 : w.cell? ⟨b1, 3, none⟩ = some (.slice p3 r.gains.length P3')) (e0 : w.cell? ⟨b2, 0, none⟩ = some (.int .i64 s.vars)) (e1 : w.cell? ⟨b2, 1, none⟩ = some (.slice q1 s.nums.length Q1')) (e2 : w.cell? ⟨b2, 2, none⟩ = some (.slice q2 s.bnds.length Q2')) (e3 : w.cell? ⟨b2, 3, none⟩ = some (.slice q3 s.gains.length Q3'))
    (h : RdR w (.agg #[.int .i64 r.vars, .slice p1 r.nums.length P1', .slice p2 r.bnds.length P2', .slice p3 r.gains.length P3']) r) (h' : RdR w (.agg #[.int .i64 s.vars, .slice q1 s.nums.length Q1', .slice q2 s.bnds.length Q2', .slice q3 s.gains.length Q3']) s)
    (x1 : BitsF r.nums) (x2 : BitsF r.bnds) (x3 : BitsF r.gains) (y1 : BitsF s.nums) (y2 : BitsF s.bnds) (y3 : BitsF s.gains) (hqq : sameR r s = qq) :
    Calls Try.prog 77 #[.pointer (some ⟨b1, 0, none⟩), .pointer (some ⟨b2, 0, none⟩)] w fun e w' => e = .returned (.bool qq) ∧ Below w.heap.size w w' := by
  subst hqq
  refine (l02Same_any b1 b2 r s p1 P1' p2 P2' p3 P3' q1 Q1' q2 Q2' q3 Q3' w c0 c1 c2 c3 e0 e1 e2 e3 h h' x1 x2 x3 y1 y2 y3).mono ?_
  rintro e w' ⟨rfl, n, rfl⟩
  exact ⟨rfl, below_drewN (Below.refl _ _) n⟩

set_option maxHeartbeats 4000000 in
set_option maxRecDepth 4000 in
theorem implSameDesk_any (v v' : Value) (x y : DeskD) (w : World) (h : RdD w v x) (h' : RdD w v' y) :
    Calls Try.prog 40 #[v, v'] w fun e w' => e = .returned (.bool (sameD x y)) ∧ Below w.heap.size w w' := by
  obtain ⟨a1, c1, a2, c2, a3, c3, a4, c4, a5, c5, a6, c6, rfl⟩ := h.shape
  obtain ⟨b1, e1, b2, e2, b3, e3, b4, e4, b5, e5, b6, e6, rfl⟩ := h'.shape
  obtain ⟨f1, f2, f3, f4⟩ := h.parts
  obtain ⟨g1, g2, g3, g4⟩ := h'.parts
  have hmj := f3.len
  simp only [maxLen] at hmj
  have P1 := Lib.hid f1
  have P2 := Lib.hid f2
  have P3 := Lib.hid f3
  have P4 := Lib.hid f4
  have Q1 := Lib.hid g1
  have Q2 := Lib.hid g2
  have Q3 := Lib.hid g3
  have Q4 := Lib.hid g4
  obtain ⟨k1, hk1⟩ : ∃ k, sameR x.rows y.rows = k := ⟨_, rfl⟩
  obtain ⟨k2, hk2⟩ : ∃ k, decide (x.sizes = y.sizes) = k := ⟨_, rfl⟩
  obtain ⟨k3, hk3⟩ : ∃ k, sameJs x.jobs y.jobs = k := ⟨_, rfl⟩
  obtain ⟨k4, hk4⟩ : ∃ k, decide (x.ways = y.ways) = k := ⟨_, rfl⟩
  have K1 := Lib.hid hk1
  have K2 := Lib.hid hk2
  have K3 := Lib.hid hk3
  have K4 := Lib.hid hk4
  have HS := Lib.hid (show sameD x y = (k1 && (k2 && (k3 && k4))) by unfold sameD; rw [hk1, hk2, hk3, hk4])
  clear h h' f1 f2 f3 f4 g1 g2 g3 g4 hk1 hk2 hk3 hk4
  go_enter Try.func40, Try.ntmps40
  go_wp2_with fail
  refine Calls.at fun W hW => ?_
  have HB0 := Lib.hid (show Below w.heap.size w W by subst hW; (repeat' first | exact Below.refl _ _ | assumption | refine Below.alloc ?_ ?_ _ | refine Below.setCell ?_ ?_ _ | refine Below.drew ?_ | (simp; done) | (simp; omega)))
  have HK0 := Lib.hid (show Blk W w.heap.size 69 #[.int .i64 x.rows.vars, .slice a1 x.rows.nums.length c1, .slice a2 x.rows.bnds.length c2, .slice a3 x.rows.gains.length c3, .slice a4 x.sizes.length c4, .slice a5 x.jobs.length c5, .slice a6 x.ways.length c6] by subst hW; exact (Blk.new _ _ _).alloc _)
  have HM0 := Lib.hid (show Blk W (w.heap.size + 1) 69 #[.int .i64 y.rows.vars, .slice b1 y.rows.nums.length e1, .slice b2 y.rows.bnds.length e2, .slice b3 y.rows.gains.length e3, .slice b4 y.sizes.length e4, .slice b5 y.jobs.length e5, .slice b6 y.ways.length e6] by subst hW; simpa using Blk.new (w.alloc (.cells #[.int .i64 x.rows.vars, .slice a1 x.rows.nums.length c1, .slice a2 x.rows.bnds.length c2, .slice a3 x.rows.gains.length c3, .slice a4 x.sizes.length c4, .slice a5 x.jobs.length c5, .slice a6 x.ways.length c6] 69)) 69 #[.int .i64 y.rows.vars, .slice b1 y.rows.nums.length e1, .slice b2 y.rows.bnds.length e2, .slice b3 y.rows.gains.length e3, .slice b4 y.sizes.length e4, .slice b5 y.jobs.length e5, .slice b6 y.ways.length e6])
  clear hW
  refine (implSameRows_b _ _ _ x.rows y.rows W (P1.out.up HB0.out (Nat.le_refl _)) (Q1.out.up HB0.out (Nat.le_refl _)) K1.out).mono ?_
  rintro e w1 ⟨rfl, hb1⟩
  have HB1 := Lib.hid (HB0.out.trans (hb1.mono HB0.out.size))
  have HK1 := Lib.hid (HK0.out.below hb1 HK0.out.lt)
  have HM1 := Lib.hid (HM0.out.below hb1 HM0.out.lt)
  clear hb1
  cases k1
  · have HN := Lib.hid (show sameD x y = false by rw [HS.out]; simp)
    go_wp2_with fail
    go_ret
    exact ⟨by rw [HN.out]; rfl, HB1.out⟩
  have x2 : w1.cell? ⟨w.heap.size, 4, none⟩ = some (.slice a4 x.sizes.length c4) := HK1.out.cell 4 rfl
  have y2 : w1.cell? ⟨w.heap.size + 1, 4, none⟩ = some (.slice b4 y.sizes.length e4) := HM1.out.cell 4 rfl
  go_wp2_with fail
  refine (equalI_b _ _ _ x.sizes y.sizes w1 (P2.out.up HB1.out (Nat.le_refl _)) (Q2.out.up HB1.out (Nat.le_refl _)) K2.out).mono ?_
  rintro e w2 ⟨rfl, hb2⟩
  have HB2 := Lib.hid (HB1.out.trans (hb2.mono HB1.out.size))
  have HK2 := Lib.hid (HK1.out.below hb2 HK1.out.lt)
  have HM2 := Lib.hid (HM1.out.below hb2 HM1.out.lt)
  clear hb2 x2 y2
  cases k2
  · have HN := Lib.hid (show sameD x y = false by rw [HS.out]; simp)
    go_wp2_with fail
    go_ret
    exact ⟨by rw [HN.out]; rfl, HB2.out⟩
  have x3 : w2.cell? ⟨w.heap.size, 5, none⟩ = some (.slice a5 x.jobs.length c5) := HK2.out.cell 5 rfl
  have y3 : w2.cell? ⟨w.heap.size + 1, 5, none⟩ = some (.slice b5 y.jobs.length e5) := HM2.out.cell 5 rfl
  go_wp2_with fail
  refine (equalJ_b _ _ _ x.jobs y.jobs w2 (P3.out.up HB2.out (Nat.le_refl _)) (Q3.out.up HB2.out (Nat.le_refl _)) K3.out).mono ?_
  rintro e w3 ⟨rfl, hb3⟩
  have HB3 := Lib.hid (HB2.out.trans (hb3.mono HB2.out.size))
  have HK3 := Lib.hid (HK2.out.below hb3 HK2.out.lt)
  have HM3 := Lib.hid (HM2.out.below hb3 HM2.out.lt)
  clear hb3 x3 y3
  cases k3
  · have HN := Lib.hid (show sameD x y = false by rw [HS.out]; simp)
    go_wp2_with fail
    go_ret
    exact ⟨by rw [HN.out]; rfl, HB3.out⟩
  have x4 : w3.cell? ⟨w.heap.size, 6, none⟩ = some (.slice a6 x.ways.length c6) := HK3.out.cell 6 rfl
  have y4 : w3.cell? ⟨w.heap.size + 1, 6, none⟩ = some (.slice b6 y.ways.length e6) := HM3.out.cell 6 rfl
  go_wp2_with fail
  refine (equalI_b _ _ _ x.ways y.ways w3 (P4.out.up HB3.out (Nat.le_refl _)) (Q4.out.up HB3.out (Nat.le_refl _)) K4.out).mono ?_
  rintro e w4 ⟨rfl, hb4⟩
  have HB4 := Lib.hid (HB3.out.trans (hb4.mono HB3.out.size))
  have HK4 := Lib.hid (HK3.out.below hb4 HK3.out.lt)
  have HM4 := Lib.hid (HM3.out.below hb4 HM3.out.lt)
  clear hb4 x4 y4
  have HN := Lib.hid (show sameD x y = k4 by rw [HS.out]; simp)
  go_wp2_with fail
  go_ret
  exact ⟨by rw [HN.out]; rfl, HB4.out⟩

set_option maxHeartbeats 4000000 in
set_option maxRecDepth 4000 in
theorem specSameDesk_any (v v' : Value) (x y : DeskD) (w : World) (h : RdD w v x) (h' : RdD w v' y) (hx0 : WfD x) (hy0 : WfD y) :
    Calls Try.prog 38 #[v, v'] w fun e w' => e = .returned (.bool (sameD x y)) ∧ Below w.heap.size w w' := by
  obtain ⟨a1, c1, a2, c2, a3, c3, a4, c4, a5, c5, a6, c6, rfl⟩ := h.shape
  obtain ⟨b1, e1, b2, e2, b3, e3, b4, e4, b5, e5, b6, e6, rfl⟩ := h'.shape
  obtain ⟨f1, f2, f3, f4⟩ := h.parts
  obtain ⟨g1, g2, g3, g4⟩ := h'.parts
  have hmj := f3.len
  simp only [maxLen] at hmj
  have P1 := Lib.hid f1
  have P2 := Lib.hid f2
  have P3 := Lib.hid f3
  have P4 := Lib.hid f4
  have Q1 := Lib.hid g1
  have Q2 := Lib.hid g2
  have Q3 := Lib.hid g3
  have Q4 := Lib.hid g4
  obtain ⟨k1, hk1⟩ : ∃ k, sameR x.rows y.rows = k := ⟨_, rfl⟩
  obtain ⟨k2, hk2⟩ : ∃ k, decide (x.sizes = y.sizes) = k := ⟨_, rfl⟩
  obtain ⟨k3, hk3⟩ : ∃ k, sameJs x.jobs y.jobs = k := ⟨_, rfl⟩
  obtain ⟨k4, hk4⟩ : ∃ k, decide (x.ways = y.ways) = k := ⟨_, rfl⟩
  have K1 := Lib.hid hk1
  have K2 := Lib.hid hk2
  have K3 := Lib.hid hk3
  have K4 := Lib.hid hk4
  have HS := Lib.hid (show sameD x y = (k1 && (k2 && (k3 && k4))) by unfold sameD; rw [hk1, hk2, hk3, hk4])
  have HX0 := Lib.hid hx0
  have HY0 := Lib.hid hy0
  clear hx0 hy0 h h' f1 f2 f3 f4 g1 g2 g3 g4 hk1 hk2 hk3 hk4
  go_enter Try.func38, Try.ntmps38
  go_wp2_with fail
  refine Calls.at fun W hW => ?_
  have HB0 := Lib.hid (show Below w.heap.size w W by subst hW; (repeat' first | exact Below.refl _ _ | assumption | refine Below.alloc ?_ ?_ _ | refine Below.setCell ?_ ?_ _ | refine Below.drew ?_ | (simp; done) | (simp; omega)))
  have HK0 := Lib.hid (show Blk W w.heap.size 69 #[.int .i64 x.rows.vars, .slice a1 x.rows.nums.length c1, .slice a2 x.rows.bnds.length c2, .slice a3 x.rows.gains.length c3, .slice a4 x.sizes.length c4, .slice a5 x.jobs.length c5, .slice a6 x.ways.length c6] by subst hW; exact (Blk.new _ _ _).alloc _)
  have HM0 := Lib.hid (show Blk W (w.heap.size + 1) 69 #[.int .i64 y.rows.vars, .slice b1 y.rows.nums.length e1, .slice b2 y.rows.bnds.length e2, .slice b3 y.rows.gains.length e3, .slice b4 y.sizes.length e4, .slice b5 y.jobs.length e5, .slice b6 y.ways.length e6] by subst hW; simpa using Blk.new (w.alloc (.cells #[.int .i64 x.rows.vars, .slice a1 x.rows.nums.length c1, .slice a2 x.rows.bnds.length c2, .slice a3 x.rows.gains.length c3, .slice a4 x.sizes.length c4, .slice a5 x.jobs.length c5, .slice a6 x.ways.length c6] 69)) 69 #[.int .i64 y.rows.vars, .slice b1 y.rows.nums.length e1, .slice b2 y.rows.bnds.length e2, .slice b3 y.rows.gains.length e3, .slice b4 y.sizes.length e4, .slice b5 y.jobs.length e5, .slice b6 y.ways.length e6])
  clear hW
  refine (l02Same_b _ w.heap.size (w.heap.size + 1) x.rows y.rows a1 c1 a2 c2 a3 c3 b1 e1 b2 e2 b3 e3 W (HK0.out.cell 0 rfl) (HK0.out.cell 1 rfl) (HK0.out.cell 2 rfl) (HK0.out.cell 3 rfl) (HM0.out.cell 0 rfl) (HM0.out.cell 1 rfl) (HM0.out.cell 2 rfl) (HM0.out.cell 3 rfl) (P1.out.up HB0.out (Nat.le_refl _)) (Q1.out.up HB0.out (Nat.le_refl _)) HX0.out.1 HX0.out.2.1 HX0.out.2.2 HY0.out.1 HY0.out.2.1 HY0.out.2.2 K1.out).mono ?_
  rintro e w1 ⟨rfl, hb1⟩
  have HB1 := Lib.hid (HB0.out.trans (hb1.mono HB0.out.size))
  have HK1 := Lib.hid (HK0.out.below hb1 HK0.out.lt)
  have HM1 := Lib.hid (HM0.out.below hb1 HM0.out.lt)
  clear hb1
  cases k1
  · have HN := Lib.hid (show sameD x y = false by rw [HS.out]; simp)
    go_wp2_with fail
    go_ret
    exact ⟨by rw [HN.out]; rfl, HB1.out⟩
  have x2 : w1.cell? ⟨w.heap.size, 4, none⟩ = some (.slice a4 x.sizes.length c4) := HK1.out.cell 4 rfl
  have y2 : w1.cell? ⟨w.heap.size + 1, 4, none⟩ = some (.slice b4 y.sizes.length e4) := HM1.out.cell 4 rfl
  go_wp2_with fail
  refine (basis_b _ _ _ x.sizes y.sizes w1 (P2.out.up HB1.out (Nat.le_refl _)) (Q2.out.up HB1.out (Nat.le_refl _)) K2.out).mono ?_
  rintro e w2 ⟨rfl, hb2⟩
  have HB2 := Lib.hid (HB1.out.trans (hb2.mono HB1.out.size))
  have HK2 := Lib.hid (HK1.out.below hb2 HK1.out.lt)
  have HM2 := Lib.hid (HM1.out.below hb2 HM1.out.lt)
  clear hb2 x2 y2
  cases k2
  · have HN := Lib.hid (show sameD x y = false by rw [HS.out]; simp)
    go_wp2_with fail
    go_ret
    exact ⟨by rw [HN.out]; rfl, HB2.out⟩
  have x3 : w2.cell? ⟨w.heap.size, 6, none⟩ = some (.slice a6 x.ways.length c6) := HK2.out.cell 6 rfl
  have y3 : w2.cell? ⟨w.heap.size + 1, 6, none⟩ = some (.slice b6 y.ways.length e6) := HM2.out.cell 6 rfl
  go_wp2_with fail
  refine (basis_b _ _ _ x.ways y.ways w2 (P4.out.up HB2.out (Nat.le_refl _)) (Q4.out.up HB2.out (Nat.le_refl _)) K4.out).mono ?_
  rintro e w3 ⟨rfl, hb3⟩
  have HB3 := Lib.hid (HB2.out.trans (hb3.mono HB2.out.size))
  have HK3 := Lib.hid (HK2.out.below hb3 HK2.out.lt)
  have HM3 := Lib.hid (HM2.out.below hb3 HM2.out.lt)
  clear hb3 x3 y3
  cases k4
  · have HN := Lib.hid (show sameD x y = false by rw [HS.out]; simp)
    go_wp2_with fail
    go_ret
    exact ⟨by rw [HN.out]; rfl, HB3.out⟩
  have HN := Lib.hid (show sameD x y = k3 by rw [HS.out]; simp)
  have x5 : w3.cell? ⟨w.heap.size, 5, none⟩ = some (.slice a5 x.jobs.length c5) := HK3.out.cell 5 rfl
  have y5 : w3.cell? ⟨w.heap.size + 1, 5, none⟩ = some (.slice b5 y.jobs.length e5) := HM3.out.cell 5 rfl
  obtain ⟨xs, hxs⟩ : ∃ xs, xs = x.jobs := ⟨_, rfl⟩
  obtain ⟨ys, hys⟩ : ∃ ys, ys = y.jobs := ⟨_, rfl⟩
  rw [← hxs] at P3 K3 x5 hmj
  rw [← hys] at Q3 K3 y5
  have HXS := Lib.hid hxs
  have HYS := Lib.hid hys
  clear hxs hys
  by_cases hl : xs.length = ys.length
  · have hne : ((xs.length : Int) != (ys.length : Int)) = false := by simp [hl]
    have HL := Lib.hid hl
    clear hl
    go_wp2_with fail
    go_loopw [5] (fun i wr => ∃ k : Nat, i = .int .i64 k ∧ k ≤ xs.length ∧ Hid (∀ j, j < k → sameJ (xs.getD j J0) (ys.getD j J0) = true) ∧ Hid (∃ n, wr = w3.drewN n)) (fun i _ => xs.length - (intOf i).toNat)
    case atStart => exact ⟨0, rfl, Nat.zero_le _, fun j hj => by omega, Lib.hid ⟨0, rfl⟩⟩
    case round =>
      obtain ⟨k, rfl, hk, hall, hdr⟩ := hrel
      have X5 : wr.cell? ⟨w.heap.size, 5, none⟩ = some (.slice a5 xs.length c5) := by obtain ⟨n, rfl⟩ := hdr.out; exact x5
      have Y5 : wr.cell? ⟨w.heap.size + 1, 5, none⟩ = some (.slice b5 ys.length e5) := by obtain ⟨n, rfl⟩ := hdr.out; exact y5
      have HBr := Lib.hid (show Below w.heap.size w wr by obtain ⟨n, rfl⟩ := hdr.out; exact below_drewN HB3.out n)
      by_cases hlt : k < xs.length
      · have hlt2 : k < ys.length := by have := HL.out; omega
        obtain ⟨b, off, rfl, hb, z0, z1, z2, z3⟩ := (P3.out.up HBr.out (Nat.le_refl _)).at hlt
        obtain ⟨b', off', rfl, hb', u0, u1, u2, u3⟩ := (Q3.out.up HBr.out (Nat.le_refl _)).at hlt2
        obtain ⟨p, hp⟩ : ∃ p, p = xs.getD k J0 := ⟨_, rfl⟩
        obtain ⟨q, hq⟩ : ∃ q, q = ys.getD k J0 := ⟨_, rfl⟩
        rw [← hp] at z0 z1 z2 z3
        rw [← hq] at u0 u1 u2 u3
        have HX := Lib.hid hp
        have HY := Lib.hid hq
        clear hp hq x5 y5
        have hlt2' : (k : Int) < ys.length := by omega
        rcases jobs_five p q with ⟨h0, h1, h2, h3, HSq⟩ | ⟨h0, HSq⟩ | ⟨h0, h1, HSq⟩ | ⟨h0, h1, h2, HSq⟩ | ⟨h0, h1, h2, h3, HSq⟩
        · have HQ := Lib.hid HSq
          clear HSq
          go_wp2_with fail
          go_quiet (fail)
          go_wp2_with fail
          go_roundw
          case rel =>
            refine ⟨k + 1, by go_num, by omega, fun j hj => ?_, Lib.hid (by obtain ⟨n, rfl⟩ := hdr.out; exact drewN_ex ⟨n, rfl⟩ _)⟩
            by_cases hjk : j < k
            · exact hall.out j hjk
            · obtain rfl : j = k := by omega
              rw [← HX.out, ← HY.out]; exact HQ.out
          case measure => simp [intOf]; omega
        · have HQ := Lib.hid HSq
          clear HSq
          go_wp2_with fail
          go_quiet (fail)
          go_wp2_with fail
          go_ret
          exact ⟨by rw [HN.out, ← K3.out, show sameJs xs ys = false from eqBy_ne sameJ J0 xs ys k hlt hlt2 (by rw [← HX.out, ← HY.out]; exact HQ.out)]; rfl, below_drewN HBr.out _⟩
        · have HQ := Lib.hid HSq
          clear HSq
          go_wp2_with fail
          go_quiet (fail)
          go_wp2_with fail
          go_ret
          exact ⟨by rw [HN.out, ← K3.out, show sameJs xs ys = false from eqBy_ne sameJ J0 xs ys k hlt hlt2 (by rw [← HX.out, ← HY.out]; exact HQ.out)]; rfl, below_drewN HBr.out _⟩
        · have HQ := Lib.hid HSq
          clear HSq
          go_wp2_with fail
          go_quiet (fail)
          go_wp2_with fail
          go_ret
          exact ⟨by rw [HN.out, ← K3.out, show sameJs xs ys = false from eqBy_ne sameJ J0 xs ys k hlt hlt2 (by rw [← HX.out, ← HY.out]; exact HQ.out)]; rfl, below_drewN HBr.out _⟩
        · have HQ := Lib.hid HSq
          clear HSq
          go_wp2_with fail
          go_quiet (fail)
          go_wp2_with fail
          go_ret
          exact ⟨by rw [HN.out, ← K3.out, show sameJs xs ys = false from eqBy_ne sameJ J0 xs ys k hlt hlt2 (by rw [← HX.out, ← HY.out]; exact HQ.out)]; rfl, below_drewN HBr.out _⟩
      · obtain rfl : k = xs.length := by omega
        clear x5 y5
        go_wp2_with fail
        go_ret
        exact ⟨by rw [HN.out, ← K3.out, show sameJs xs ys = true from eqBy_all sameJ J0 xs ys HL.out hall.out]; rfl, HBr.out⟩
  · have hne : ((xs.length : Int) != (ys.length : Int)) = true := by simp; omega
    have HNO := Lib.hid (show sameJs xs ys = false from eqBy_len sameJ xs ys hl)
    go_wp2_with fail
    go_ret
    exact ⟨by rw [HN.out, ← K3.out, HNO.out]; rfl, HB3.out⟩

theorem specSameDesk_o (v : Value) (x : DeskD) (v' : Value) (y : DeskD) (w : World) (h : RdD w v x) (h' : RdD w v' y) (hx : WfD x) (hy : WfD y) :
    Calls Try.prog 38 #[v, v'] w fun e w' => e = .returned (.bool (sameD x y)) ∧ Below w.heap.size w w' := specSameDesk_any v v' x y w h h' hx hy
theorem implSameDesk_o (v : Value) (x : DeskD) (v' : Value) (y : DeskD) (w : World) (h : RdD w v x) (h' : RdD w v' y) :
    Calls Try.prog 40 #[v, v'] w fun e w' => e = .returned (.bool (sameD x y)) ∧ Below w.heap.size w w' := implSameDesk_any v v' x y w h h'

end Go.Proofs.Ytljhohacgceojaa
