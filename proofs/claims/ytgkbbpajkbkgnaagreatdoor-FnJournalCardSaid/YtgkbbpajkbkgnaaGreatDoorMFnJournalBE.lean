/-
  FnJournal: texts joined: DkTel.
-/
import Derived.Test.YtgkbbpajkbkgnaaGreatDoorMFnJournalBB
set_option linter.unusedVariables false
set_option linter.unusedSimpArgs false
namespace Go.Proofs.YtgkbbpajkbkgnaaGreatDoor
open Go.RowKit Go.Sort
set_option maxHeartbeats 1000000 in
set_option maxRecDepth 4000 in
theorem telRows_any (v : Value) (d : DeskD) (w : World) (h : RdD w v d) (hv : validDk d = true) (hbt : BitsD d) (hp : HasPow w) :
    Calls Tryz.prog 173 #[v, .string ⟨#[114, 111, 119, 115]⟩] w fun e w' => e = .returned (.tuple #[.string (rowT d.rows), .bool (validR d.rows), .bool true]) ∧ Below w.heap.size w w' := by
  obtain ⟨a1, c1, a2, c2, a3, c3, a4, c4, a5, c5, a6, c6, rfl⟩ := h.shape
  obtain ⟨p1, p2, p3, p4⟩ := h.parts
  have P1 := Lib.hid p1
  have P2 := Lib.hid p2
  have P3 := Lib.hid p3
  have P4 := Lib.hid p4
  have HPW := Lib.hid hp
  obtain ⟨y1, y2, y3, y4⟩ := valid_parts hv
  have HS := Lib.hid (fun X (hb : Below w.heap.size w X) => solS_any _ d.rows X (P1.out.up hb (Nat.le_refl _)))
  have HC := Lib.hid (fun X (hb : Below w.heap.size w X) => rowsTextI_any _ d.rows X (P1.out.up hb (Nat.le_refl _)) hbt.1 hbt.2.1 hbt.2.2 (HPW.out.up hb (Nat.le_refl _)))
  obtain ⟨m, hm⟩ : ∃ m, m = rowT d.rows := ⟨_, rfl⟩
  obtain ⟨q, hq⟩ : ∃ q, q = validR d.rows := ⟨_, rfl⟩
  rw [← hm, ← hq] at HC ⊢
  clear hm hq
  clear h p1 p2 p3 p4 y1 y2 y3 y4 hv hbt hp
  go_enter Tryz.func173, Tryz.ntmps173
  go_upto_region 1 with fail
  refine wp_at fun W0 hW0 => ?_
  have HB0 := Lib.hid (show Below w.heap.size w W0 by subst hW0; (repeat' first | exact Below.refl _ _ | assumption | refine Below.alloc ?_ ?_ _ | refine Below.setCell ?_ ?_ _ | refine Below.drew ?_ | (simp; done) | (simp; omega)))
  have HK0 := Lib.hid (show Blk W0 w.heap.size 30 #[.int .i64 d.rows.vars, .slice a1 d.rows.nums.length c1, .slice a2 d.rows.bnds.length c2, .slice a3 d.rows.gains.length c3, .slice a4 d.sizes.length c4, .slice a5 d.jobs.length c5, .slice a6 d.ways.length c6] by subst hW0; exact Blk.new _ _ _)
  clear hW0
  have d0 := HK0.out.cell 0 rfl
  have d1 := HK0.out.cell 1 rfl
  have d2 := HK0.out.cell 2 rfl
  have d3 := HK0.out.cell 3 rfl
  go_upto_region 2 with (go_at_call 230; refine (HS.out W0 HB0.out).mono ?_; rintro e w1 ⟨va, vb, rfl, ra, rb, hb1⟩)
  have HB1 := Lib.hid (HB0.out.trans (hb1.mono HB0.out.size))
  have HK1 := Lib.hid (HK0.out.below hb1 HK0.out.lt)
  have RA := Lib.hid ra
  have RB := Lib.hid rb
  clear HS hb1 HB0 HK0 d0 d1 d2 d3 ra rb
  have d0 := HK1.out.cell 0 rfl
  have d1 := HK1.out.cell 1 rfl
  have d2 := HK1.out.cell 2 rfl
  have d3 := HK1.out.cell 3 rfl
  go_wp2_with (go_at_call 11; refine (HC.out w1 HB1.out).mono ?_; rintro e w2 ⟨rfl, hb2⟩)
  go_ret3
  exact ⟨rfl, HB1.out.trans (hb2.mono HB1.out.size)⟩
set_option maxHeartbeats 1000000 in
set_option maxRecDepth 4000 in
theorem telJobs_any (v : Value) (d : DeskD) (w : World) (h : RdD w v d) (hv : validDk d = true) (_hbt : BitsD d) (hp : HasPow w) :
    Calls Tryz.prog 173 #[v, .string ⟨#[106, 111, 98, 115]⟩] w fun e w' => e = .returned (.tuple #[.string (jobT d.jobs), .bool (areJobsB d.jobs), .bool true]) ∧ Below w.heap.size w w' := by
  obtain ⟨a1, c1, a2, c2, a3, c3, a4, c4, a5, c5, a6, c6, rfl⟩ := h.shape
  obtain ⟨p1, p2, p3, p4⟩ := h.parts
  have P1 := Lib.hid p1
  have P2 := Lib.hid p2
  have P3 := Lib.hid p3
  have P4 := Lib.hid p4
  have HPW := Lib.hid hp
  obtain ⟨y1, y2, y3, y4⟩ := valid_parts hv
  have HS := Lib.hid (fun X (hb : Below w.heap.size w X) => solS_any _ d.rows X (P1.out.up hb (Nat.le_refl _)))
  have HC := Lib.hid (fun X (hb : Below w.heap.size w X) => jobsTextI_any _ d.jobs X (P3.out.up hb (Nat.le_refl _)) (HPW.out.up hb (Nat.le_refl _)))
  obtain ⟨m, hm⟩ : ∃ m, m = jobT d.jobs := ⟨_, rfl⟩
  obtain ⟨q, hq⟩ : ∃ q, q = areJobsB d.jobs := ⟨_, rfl⟩
  rw [← hm, ← hq] at HC ⊢
  clear hm hq
  clear h p1 p2 p3 p4 y1 y2 y3 y4 hv _hbt hp
  go_enter Tryz.func173, Tryz.ntmps173
  go_upto_region 1 with fail
  refine wp_at fun W0 hW0 => ?_
  have HB0 := Lib.hid (show Below w.heap.size w W0 by subst hW0; (repeat' first | exact Below.refl _ _ | assumption | refine Below.alloc ?_ ?_ _ | refine Below.setCell ?_ ?_ _ | refine Below.drew ?_ | (simp; done) | (simp; omega)))
  have HK0 := Lib.hid (show Blk W0 w.heap.size 30 #[.int .i64 d.rows.vars, .slice a1 d.rows.nums.length c1, .slice a2 d.rows.bnds.length c2, .slice a3 d.rows.gains.length c3, .slice a4 d.sizes.length c4, .slice a5 d.jobs.length c5, .slice a6 d.ways.length c6] by subst hW0; exact Blk.new _ _ _)
  clear hW0
  have d0 := HK0.out.cell 0 rfl
  have d1 := HK0.out.cell 1 rfl
  have d2 := HK0.out.cell 2 rfl
  have d3 := HK0.out.cell 3 rfl
  go_upto_region 2 with (go_at_call 230; refine (HS.out W0 HB0.out).mono ?_; rintro e w1 ⟨va, vb, rfl, ra, rb, hb1⟩)
  have HB1 := Lib.hid (HB0.out.trans (hb1.mono HB0.out.size))
  have HK1 := Lib.hid (HK0.out.below hb1 HK0.out.lt)
  have RA := Lib.hid ra
  have RB := Lib.hid rb
  clear HS hb1 HB0 HK0 d0 d1 d2 d3 ra rb
  have d5 := HK1.out.cell 5 rfl
  go_wp2_with (go_at_call 13; refine (HC.out w1 HB1.out).mono ?_; rintro e w2 ⟨rfl, hb2⟩)
  go_ret3
  exact ⟨rfl, HB1.out.trans (hb2.mono HB1.out.size)⟩
set_option maxHeartbeats 1000000 in
set_option maxRecDepth 4000 in
theorem telSizes_any (v : Value) (d : DeskD) (w : World) (h : RdD w v d) (hv : validDk d = true) (_hbt : BitsD d) (hp : HasPow w) :
    Calls Tryz.prog 173 #[v, .string ⟨#[115, 105, 122, 101, 115]⟩] w fun e w' => e = .returned (.tuple #[.string (listT d.sizes), .bool true, .bool true]) ∧ Below w.heap.size w w' := by
  obtain ⟨a1, c1, a2, c2, a3, c3, a4, c4, a5, c5, a6, c6, rfl⟩ := h.shape
  obtain ⟨p1, p2, p3, p4⟩ := h.parts
  have P1 := Lib.hid p1
  have P2 := Lib.hid p2
  have P3 := Lib.hid p3
  have P4 := Lib.hid p4
  have HPW := Lib.hid hp
  obtain ⟨y1, y2, y3, y4⟩ := valid_parts hv
  have HS := Lib.hid (fun X (hb : Below w.heap.size w X) => solS_any _ d.rows X (P1.out.up hb (Nat.le_refl _)))
  have HC := Lib.hid (fun X (hb : Below w.heap.size w X) => listTextI_any _ d.sizes X (P2.out.up hb (Nat.le_refl _)) (short_sizes y2).1 (short_sizes y2).2 (HPW.out.up hb (Nat.le_refl _)))
  obtain ⟨m, hm⟩ : ∃ m, m = listT d.sizes := ⟨_, rfl⟩
  rw [← hm] at HC ⊢
  clear hm
  clear h p1 p2 p3 p4 y1 y2 y3 y4 hv _hbt hp
  go_enter Tryz.func173, Tryz.ntmps173
  go_upto_region 1 with fail
  refine wp_at fun W0 hW0 => ?_
  have HB0 := Lib.hid (show Below w.heap.size w W0 by subst hW0; (repeat' first | exact Below.refl _ _ | assumption | refine Below.alloc ?_ ?_ _ | refine Below.setCell ?_ ?_ _ | refine Below.drew ?_ | (simp; done) | (simp; omega)))
  have HK0 := Lib.hid (show Blk W0 w.heap.size 30 #[.int .i64 d.rows.vars, .slice a1 d.rows.nums.length c1, .slice a2 d.rows.bnds.length c2, .slice a3 d.rows.gains.length c3, .slice a4 d.sizes.length c4, .slice a5 d.jobs.length c5, .slice a6 d.ways.length c6] by subst hW0; exact Blk.new _ _ _)
  clear hW0
  have d0 := HK0.out.cell 0 rfl
  have d1 := HK0.out.cell 1 rfl
  have d2 := HK0.out.cell 2 rfl
  have d3 := HK0.out.cell 3 rfl
  go_upto_region 2 with (go_at_call 230; refine (HS.out W0 HB0.out).mono ?_; rintro e w1 ⟨va, vb, rfl, ra, rb, hb1⟩)
  have HB1 := Lib.hid (HB0.out.trans (hb1.mono HB0.out.size))
  have HK1 := Lib.hid (HK0.out.below hb1 HK0.out.lt)
  have RA := Lib.hid ra
  have RB := Lib.hid rb
  clear HS hb1 HB0 HK0 d0 d1 d2 d3 ra rb
  have d4 := HK1.out.cell 4 rfl
  go_wp2_with (go_at_call 50; refine (HC.out w1 HB1.out).mono ?_; rintro e w2 ⟨rfl, hb2⟩)
  go_ret3
  exact ⟨rfl, HB1.out.trans (hb2.mono HB1.out.size)⟩
set_option maxHeartbeats 1000000 in
set_option maxRecDepth 4000 in
theorem telWays_any (v : Value) (d : DeskD) (w : World) (h : RdD w v d) (hv : validDk d = true) (_hbt : BitsD d) (hp : HasPow w) :
    Calls Tryz.prog 173 #[v, .string ⟨#[119, 97, 121, 115]⟩] w fun e w' => e = .returned (.tuple #[.string (listT d.ways), .bool true, .bool true]) ∧ Below w.heap.size w w' := by
  obtain ⟨a1, c1, a2, c2, a3, c3, a4, c4, a5, c5, a6, c6, rfl⟩ := h.shape
  obtain ⟨p1, p2, p3, p4⟩ := h.parts
  have P1 := Lib.hid p1
  have P2 := Lib.hid p2
  have P3 := Lib.hid p3
  have P4 := Lib.hid p4
  have HPW := Lib.hid hp
  obtain ⟨y1, y2, y3, y4⟩ := valid_parts hv
  have HS := Lib.hid (fun X (hb : Below w.heap.size w X) => solS_any _ d.rows X (P1.out.up hb (Nat.le_refl _)))
  have HC := Lib.hid (fun X (hb : Below w.heap.size w X) => listTextI_any _ d.ways X (P4.out.up hb (Nat.le_refl _)) (short_ways y4).1 (short_ways y4).2 (HPW.out.up hb (Nat.le_refl _)))
  obtain ⟨m, hm⟩ : ∃ m, m = listT d.ways := ⟨_, rfl⟩
  rw [← hm] at HC ⊢
  clear hm
  clear h p1 p2 p3 p4 y1 y2 y3 y4 hv _hbt hp
  go_enter Tryz.func173, Tryz.ntmps173
  go_upto_region 1 with fail
  refine wp_at fun W0 hW0 => ?_
  have HB0 := Lib.hid (show Below w.heap.size w W0 by subst hW0; (repeat' first | exact Below.refl _ _ | assumption | refine Below.alloc ?_ ?_ _ | refine Below.setCell ?_ ?_ _ | refine Below.drew ?_ | (simp; done) | (simp; omega)))
  have HK0 := Lib.hid (show Blk W0 w.heap.size 30 #[.int .i64 d.rows.vars, .slice a1 d.rows.nums.length c1, .slice a2 d.rows.bnds.length c2, .slice a3 d.rows.gains.length c3, .slice a4 d.sizes.length c4, .slice a5 d.jobs.length c5, .slice a6 d.ways.length c6] by subst hW0; exact Blk.new _ _ _)
  clear hW0
  have d0 := HK0.out.cell 0 rfl
  have d1 := HK0.out.cell 1 rfl
  have d2 := HK0.out.cell 2 rfl
  have d3 := HK0.out.cell 3 rfl
  go_upto_region 2 with (go_at_call 230; refine (HS.out W0 HB0.out).mono ?_; rintro e w1 ⟨va, vb, rfl, ra, rb, hb1⟩)
  have HB1 := Lib.hid (HB0.out.trans (hb1.mono HB0.out.size))
  have HK1 := Lib.hid (HK0.out.below hb1 HK0.out.lt)
  have RA := Lib.hid ra
  have RB := Lib.hid rb
  clear HS hb1 HB0 HK0 d0 d1 d2 d3 ra rb
  have d6 := HK1.out.cell 6 rfl
  go_wp2_with (go_at_call 50; refine (HC.out w1 HB1.out).mono ?_; rintro e w2 ⟨rfl, hb2⟩)
  go_ret3
  exact ⟨rfl, HB1.out.trans (hb2.mono HB1.out.size)⟩
set_option maxHeartbeats 1000000 in
set_option maxRecDepth 4000 in
theorem telSolve_any (v : Value) (d : DeskD) (w : World) (h : RdD w v d) (hv : validDk d = true) (hbt : BitsD d) (hp : HasPow w) :
    Calls Tryz.prog 173 #[v, .string ⟨#[115, 111, 108, 118, 101]⟩] w fun e w' => e = .returned (.tuple #[.string (numT (planS d.rows)), .bool (solvS d.rows).isSome, .bool true]) ∧ Below w.heap.size w w' := by
  obtain ⟨a1, c1, a2, c2, a3, c3, a4, c4, a5, c5, a6, c6, rfl⟩ := h.shape
  obtain ⟨p1, p2, p3, p4⟩ := h.parts
  have P1 := Lib.hid p1
  have P2 := Lib.hid p2
  have P3 := Lib.hid p3
  have P4 := Lib.hid p4
  have HPW := Lib.hid hp
  obtain ⟨y1, y2, y3, y4⟩ := valid_parts hv
  have HS := Lib.hid (fun X (hb : Below w.heap.size w X) => solS_any _ d.rows X (P1.out.up hb (Nat.le_refl _)))
  have HX := Lib.hid (plan_ok hbt)
  obtain ⟨q, hq⟩ : ∃ q, q = (solvS d.rows).isSome := ⟨_, rfl⟩
  rw [← hq] at HS ⊢
  clear hq
  clear h p1 p2 p3 p4 y1 y2 y3 y4 hv hbt hp
  go_enter Tryz.func173, Tryz.ntmps173
  go_upto_region 1 with fail
  refine wp_at fun W0 hW0 => ?_
  have HB0 := Lib.hid (show Below w.heap.size w W0 by subst hW0; (repeat' first | exact Below.refl _ _ | assumption | refine Below.alloc ?_ ?_ _ | refine Below.setCell ?_ ?_ _ | refine Below.drew ?_ | (simp; done) | (simp; omega)))
  have HK0 := Lib.hid (show Blk W0 w.heap.size 30 #[.int .i64 d.rows.vars, .slice a1 d.rows.nums.length c1, .slice a2 d.rows.bnds.length c2, .slice a3 d.rows.gains.length c3, .slice a4 d.sizes.length c4, .slice a5 d.jobs.length c5, .slice a6 d.ways.length c6] by subst hW0; exact Blk.new _ _ _)
  clear hW0
  have d0 := HK0.out.cell 0 rfl
  have d1 := HK0.out.cell 1 rfl
  have d2 := HK0.out.cell 2 rfl
  have d3 := HK0.out.cell 3 rfl
  go_upto_region 2 with (go_at_call 230; refine (HS.out W0 HB0.out).mono ?_; rintro e w1 ⟨va, vb, rfl, ra, rb, hb1⟩)
  have HB1 := Lib.hid (HB0.out.trans (hb1.mono HB0.out.size))
  have HK1 := Lib.hid (HK0.out.below hb1 HK0.out.lt)
  have RA := Lib.hid ra
  have RB := Lib.hid rb
  clear HS hb1 HB0 HK0 d0 d1 d2 d3 ra rb
  go_wp2_with (go_at_call 47; refine (NumbersText_any _ _ w1 RA.out HX.out.1 HX.out.2).mono ?_; rintro e w2 ⟨rfl, hb2⟩)
  go_ret3
  exact ⟨rfl, HB1.out.trans (hb2.mono HB1.out.size)⟩
set_option maxHeartbeats 1000000 in
set_option maxRecDepth 4000 in
theorem telPrices_any (v : Value) (d : DeskD) (w : World) (h : RdD w v d) (hv : validDk d = true) (hbt : BitsD d) (hp : HasPow w) :
    Calls Tryz.prog 173 #[v, .string ⟨#[112, 114, 105, 99, 101, 115]⟩] w fun e w' => e = .returned (.tuple #[.string (numT (priceS d.rows)), .bool (solvS d.rows).isSome, .bool true]) ∧ Below w.heap.size w w' := by
  obtain ⟨a1, c1, a2, c2, a3, c3, a4, c4, a5, c5, a6, c6, rfl⟩ := h.shape
  obtain ⟨p1, p2, p3, p4⟩ := h.parts
  have P1 := Lib.hid p1
  have P2 := Lib.hid p2
  have P3 := Lib.hid p3
  have P4 := Lib.hid p4
  have HPW := Lib.hid hp
  obtain ⟨y1, y2, y3, y4⟩ := valid_parts hv
  have HS := Lib.hid (fun X (hb : Below w.heap.size w X) => solS_any _ d.rows X (P1.out.up hb (Nat.le_refl _)))
  have HX := Lib.hid (price_ok hbt)
  obtain ⟨q, hq⟩ : ∃ q, q = (solvS d.rows).isSome := ⟨_, rfl⟩
  rw [← hq] at HS ⊢
  clear hq
  clear h p1 p2 p3 p4 y1 y2 y3 y4 hv hbt hp
  go_enter Tryz.func173, Tryz.ntmps173
  go_upto_region 1 with fail
  refine wp_at fun W0 hW0 => ?_
  have HB0 := Lib.hid (show Below w.heap.size w W0 by subst hW0; (repeat' first | exact Below.refl _ _ | assumption | refine Below.alloc ?_ ?_ _ | refine Below.setCell ?_ ?_ _ | refine Below.drew ?_ | (simp; done) | (simp; omega)))
  have HK0 := Lib.hid (show Blk W0 w.heap.size 30 #[.int .i64 d.rows.vars, .slice a1 d.rows.nums.length c1, .slice a2 d.rows.bnds.length c2, .slice a3 d.rows.gains.length c3, .slice a4 d.sizes.length c4, .slice a5 d.jobs.length c5, .slice a6 d.ways.length c6] by subst hW0; exact Blk.new _ _ _)
  clear hW0
  have d0 := HK0.out.cell 0 rfl
  have d1 := HK0.out.cell 1 rfl
  have d2 := HK0.out.cell 2 rfl
  have d3 := HK0.out.cell 3 rfl
  go_upto_region 2 with (go_at_call 230; refine (HS.out W0 HB0.out).mono ?_; rintro e w1 ⟨va, vb, rfl, ra, rb, hb1⟩)
  have HB1 := Lib.hid (HB0.out.trans (hb1.mono HB0.out.size))
  have HK1 := Lib.hid (HK0.out.below hb1 HK0.out.lt)
  have RA := Lib.hid ra
  have RB := Lib.hid rb
  clear HS hb1 HB0 HK0 d0 d1 d2 d3 ra rb
  go_wp2_with (go_at_call 47; refine (NumbersText_any _ _ w1 RB.out HX.out.1 HX.out.2).mono ?_; rintro e w2 ⟨rfl, hb2⟩)
  go_ret3
  exact ⟨rfl, HB1.out.trans (hb2.mono HB1.out.size)⟩
set_option maxHeartbeats 1000000 in
set_option maxRecDepth 4000 in
theorem telGain_any (v : Value) (d : DeskD) (w : World) (h : RdD w v d) (hv : validDk d = true) (_hbt : BitsD d) (hp : HasPow w) :
    Calls Tryz.prog 173 #[v, .string ⟨#[103, 97, 105, 110]⟩] w fun e w' => e = .returned (.tuple #[.string (numT [gainV d.rows (planS d.rows)]), .bool ((solvS d.rows).isSome && gainOk d.rows (planS d.rows)), .bool true]) ∧ Below w.heap.size w w' := by
  obtain ⟨a1, c1, a2, c2, a3, c3, a4, c4, a5, c5, a6, c6, rfl⟩ := h.shape
  obtain ⟨p1, p2, p3, p4⟩ := h.parts
  have P1 := Lib.hid p1
  have P2 := Lib.hid p2
  have P3 := Lib.hid p3
  have P4 := Lib.hid p4
  have HPW := Lib.hid hp
  obtain ⟨y1, y2, y3, y4⟩ := valid_parts hv
  have HS := Lib.hid (fun X (hb : Below w.heap.size w X) => solS_any _ d.rows X (P1.out.up hb (Nat.le_refl _)))
  have HX := Lib.hid (gain_ok d.rows (planS d.rows))
  have HC := Lib.hid (fun X (hb : Below w.heap.size w X) u (hu : RdF X u (planS d.rows)) => implGain_any _ d.rows u (planS d.rows) X (P1.out.up hb (Nat.le_refl _)) hu)
  obtain ⟨q, hq⟩ : ∃ q, q = (solvS d.rows).isSome := ⟨_, rfl⟩
  obtain ⟨q2, hq2⟩ : ∃ q, q = gainOk d.rows (planS d.rows) := ⟨_, rfl⟩
  obtain ⟨m, hm⟩ : ∃ q, q = gainV d.rows (planS d.rows) := ⟨_, rfl⟩
  rw [← hm] at HX
  rw [← hq2, ← hm] at HC
  rw [← hq] at HS
  rw [← hq, ← hq2, ← hm]
  clear hq hq2 hm
  clear h p1 p2 p3 p4 y1 y2 y3 y4 hv _hbt hp
  go_enter Tryz.func173, Tryz.ntmps173
  go_upto_region 1 with fail
  refine wp_at fun W0 hW0 => ?_
  have HB0 := Lib.hid (show Below w.heap.size w W0 by subst hW0; (repeat' first | exact Below.refl _ _ | assumption | refine Below.alloc ?_ ?_ _ | refine Below.setCell ?_ ?_ _ | refine Below.drew ?_ | (simp; done) | (simp; omega)))
  have HK0 := Lib.hid (show Blk W0 w.heap.size 30 #[.int .i64 d.rows.vars, .slice a1 d.rows.nums.length c1, .slice a2 d.rows.bnds.length c2, .slice a3 d.rows.gains.length c3, .slice a4 d.sizes.length c4, .slice a5 d.jobs.length c5, .slice a6 d.ways.length c6] by subst hW0; exact Blk.new _ _ _)
  clear hW0
  have d0 := HK0.out.cell 0 rfl
  have d1 := HK0.out.cell 1 rfl
  have d2 := HK0.out.cell 2 rfl
  have d3 := HK0.out.cell 3 rfl
  go_upto_region 2 with (go_at_call 230; refine (HS.out W0 HB0.out).mono ?_; rintro e w1 ⟨va, vb, rfl, ra, rb, hb1⟩)
  have HB1 := Lib.hid (HB0.out.trans (hb1.mono HB0.out.size))
  have HK1 := Lib.hid (HK0.out.below hb1 HK0.out.lt)
  have RA := Lib.hid ra
  have RB := Lib.hid rb
  clear HS hb1 HB0 HK0 d0 d1 d2 d3 ra rb
  have d0 := HK1.out.cell 0 rfl
  have d1 := HK1.out.cell 1 rfl
  have d2 := HK1.out.cell 2 rfl
  have d3 := HK1.out.cell 3 rfl
  go_wp2_with (first
    | (go_at_call 231; refine (HC.out w1 HB1.out _ RA.out).mono ?_; rintro e w2 ⟨rfl, hb2⟩)
    | (go_at_call 47; refine (NumbersText_any _ [m] _ (slcF_one w2 m) HX.out.1 HX.out.2).mono ?_; rintro e w3 ⟨rfl, hb3⟩))
  all_goals go_ret3
  all_goals (have HB2 := HB1.out.trans (hb2.mono HB1.out.size); exact ⟨by simp [*], (HB2.alloc HB2.size _).trans (hb3.mono (HB2.alloc HB2.size _).size)⟩)
set_option maxHeartbeats 1000000 in
set_option maxRecDepth 4000 in
theorem telHalves_any (v : Value) (d : DeskD) (w : World) (h : RdD w v d) (hv : validDk d = true) (_hbt : BitsD d) (hp : HasPow w) :
    Calls Tryz.prog 173 #[v, .string ⟨#[104, 97, 108, 118, 101, 115]⟩] w fun e w' => e = .returned (.tuple #[.string (itoaB (halfN d.sizes)), .bool (areSizesB d.sizes), .bool true]) ∧ Below w.heap.size w w' := by
  obtain ⟨a1, c1, a2, c2, a3, c3, a4, c4, a5, c5, a6, c6, rfl⟩ := h.shape
  obtain ⟨p1, p2, p3, p4⟩ := h.parts
  have P1 := Lib.hid p1
  have P2 := Lib.hid p2
  have P3 := Lib.hid p3
  have P4 := Lib.hid p4
  have HPW := Lib.hid hp
  obtain ⟨y1, y2, y3, y4⟩ := valid_parts hv
  have HS := Lib.hid (fun X (hb : Below w.heap.size w X) => solS_any _ d.rows X (P1.out.up hb (Nat.le_refl _)))
  have HC := Lib.hid (fun X (hb : Below w.heap.size w X) => bhI_any _ d.sizes X (P2.out.up hb (Nat.le_refl _)))
  have NN := Lib.hid (halfN_rng d.sizes)
  obtain ⟨m, hm⟩ : ∃ m, m = (halfN d.sizes) := ⟨_, rfl⟩
  obtain ⟨q, hq⟩ : ∃ q, q = (areSizesB d.sizes) := ⟨_, rfl⟩
  rw [← hm] at NN
  rw [← hm, ← hq] at HC ⊢
  clear hm hq
  clear h p1 p2 p3 p4 y1 y2 y3 y4 hv _hbt hp
  go_enter Tryz.func173, Tryz.ntmps173
  go_upto_region 1 with fail
  refine wp_at fun W0 hW0 => ?_
  have HB0 := Lib.hid (show Below w.heap.size w W0 by subst hW0; (repeat' first | exact Below.refl _ _ | assumption | refine Below.alloc ?_ ?_ _ | refine Below.setCell ?_ ?_ _ | refine Below.drew ?_ | (simp; done) | (simp; omega)))
  have HK0 := Lib.hid (show Blk W0 w.heap.size 30 #[.int .i64 d.rows.vars, .slice a1 d.rows.nums.length c1, .slice a2 d.rows.bnds.length c2, .slice a3 d.rows.gains.length c3, .slice a4 d.sizes.length c4, .slice a5 d.jobs.length c5, .slice a6 d.ways.length c6] by subst hW0; exact Blk.new _ _ _)
  clear hW0
  have d0 := HK0.out.cell 0 rfl
  have d1 := HK0.out.cell 1 rfl
  have d2 := HK0.out.cell 2 rfl
  have d3 := HK0.out.cell 3 rfl
  go_upto_region 2 with (go_at_call 230; refine (HS.out W0 HB0.out).mono ?_; rintro e w1 ⟨va, vb, rfl, ra, rb, hb1⟩)
  have HB1 := Lib.hid (HB0.out.trans (hb1.mono HB0.out.size))
  have HK1 := Lib.hid (HK0.out.below hb1 HK0.out.lt)
  have RA := Lib.hid ra
  have RB := Lib.hid rb
  clear HS hb1 HB0 HK0 d0 d1 d2 d3 ra rb
  have d4 := HK1.out.cell 4 rfl
  go_wp2_with (first
    | (go_at_call 232; refine (HC.out w1 HB1.out).mono ?_; rintro e w2 ⟨u, rfl, ho, hb2⟩; have HB2 := Lib.hid (HB1.out.trans (hb2.mono HB1.out.size)))
    | (go_at_call 15; refine (DecimalZ_any _ NN.out.1 NN.out.2 w2 (HPW.out.up HB2.out (Nat.le_refl _))).mono ?_; rintro e w3 ⟨rfl, hb3⟩))
  go_ret3
  exact ⟨rfl, HB2.out.trans (hb3.mono HB2.out.size)⟩
set_option maxHeartbeats 1000000 in
set_option maxRecDepth 4000 in
theorem telLong_any (v : Value) (d : DeskD) (w : World) (h : RdD w v d) (hv : validDk d = true) (_hbt : BitsD d) (hp : HasPow w) :
    Calls Tryz.prog 173 #[v, .string ⟨#[108, 111, 110, 103]⟩] w fun e w' => e = .returned (.tuple #[.string (itoaB (tourLng d.ways)), .bool (areCitiesB d.ways), .bool true]) ∧ Below w.heap.size w w' := by
  obtain ⟨a1, c1, a2, c2, a3, c3, a4, c4, a5, c5, a6, c6, rfl⟩ := h.shape
  obtain ⟨p1, p2, p3, p4⟩ := h.parts
  have P1 := Lib.hid p1
  have P2 := Lib.hid p2
  have P3 := Lib.hid p3
  have P4 := Lib.hid p4
  have HPW := Lib.hid hp
  obtain ⟨y1, y2, y3, y4⟩ := valid_parts hv
  have HS := Lib.hid (fun X (hb : Below w.heap.size w X) => solS_any _ d.rows X (P1.out.up hb (Nat.le_refl _)))
  have HC := Lib.hid (fun X (hb : Below w.heap.size w X) => bestTourI_any _ d.ways X (P4.out.up hb (Nat.le_refl _)))
  have NN := Lib.hid (tourLng_rng d.ways)
  obtain ⟨m, hm⟩ : ∃ m, m = (tourLng d.ways) := ⟨_, rfl⟩
  obtain ⟨q, hq⟩ : ∃ q, q = (areCitiesB d.ways) := ⟨_, rfl⟩
  rw [← hm] at NN
  rw [← hm, ← hq] at HC ⊢
  clear hm hq
  clear h p1 p2 p3 p4 y1 y2 y3 y4 hv _hbt hp
  go_enter Tryz.func173, Tryz.ntmps173
  go_upto_region 1 with fail
  refine wp_at fun W0 hW0 => ?_
  have HB0 := Lib.hid (show Below w.heap.size w W0 by subst hW0; (repeat' first | exact Below.refl _ _ | assumption | refine Below.alloc ?_ ?_ _ | refine Below.setCell ?_ ?_ _ | refine Below.drew ?_ | (simp; done) | (simp; omega)))
  have HK0 := Lib.hid (show Blk W0 w.heap.size 30 #[.int .i64 d.rows.vars, .slice a1 d.rows.nums.length c1, .slice a2 d.rows.bnds.length c2, .slice a3 d.rows.gains.length c3, .slice a4 d.sizes.length c4, .slice a5 d.jobs.length c5, .slice a6 d.ways.length c6] by subst hW0; exact Blk.new _ _ _)
  clear hW0
  have d0 := HK0.out.cell 0 rfl
  have d1 := HK0.out.cell 1 rfl
  have d2 := HK0.out.cell 2 rfl
  have d3 := HK0.out.cell 3 rfl
  go_upto_region 2 with (go_at_call 230; refine (HS.out W0 HB0.out).mono ?_; rintro e w1 ⟨va, vb, rfl, ra, rb, hb1⟩)
  have HB1 := Lib.hid (HB0.out.trans (hb1.mono HB0.out.size))
  have HK1 := Lib.hid (HK0.out.below hb1 HK0.out.lt)
  have RA := Lib.hid ra
  have RB := Lib.hid rb
  clear HS hb1 HB0 HK0 d0 d1 d2 d3 ra rb
  have d6 := HK1.out.cell 6 rfl
  go_wp2_with (first
    | (go_at_call 21; refine (HC.out w1 HB1.out).mono ?_; rintro e w2 ⟨u, rfl, ho, hb2⟩; have HB2 := Lib.hid (HB1.out.trans (hb2.mono HB1.out.size)))
    | (go_at_call 15; refine (DecimalZ_any _ NN.out.1 NN.out.2 w2 (HPW.out.up HB2.out (Nat.le_refl _))).mono ?_; rintro e w3 ⟨rfl, hb3⟩))
  go_ret3
  exact ⟨rfl, HB2.out.trans (hb3.mono HB2.out.size)⟩
set_option maxHeartbeats 1000000 in
set_option maxRecDepth 4000 in
theorem telBound_any (v : Value) (d : DeskD) (w : World) (h : RdD w v d) (hv : validDk d = true) (_hbt : BitsD d) (hp : HasPow w) :
    Calls Tryz.prog 173 #[v, .string ⟨#[98, 111, 117, 110, 100]⟩] w fun e w' => e = .returned (.tuple #[.string (itoaB (tbN d.ways)), .bool (tbB d.ways), .bool true]) ∧ Below w.heap.size w w' := by
  obtain ⟨a1, c1, a2, c2, a3, c3, a4, c4, a5, c5, a6, c6, rfl⟩ := h.shape
  obtain ⟨p1, p2, p3, p4⟩ := h.parts
  have P1 := Lib.hid p1
  have P2 := Lib.hid p2
  have P3 := Lib.hid p3
  have P4 := Lib.hid p4
  have HPW := Lib.hid hp
  obtain ⟨y1, y2, y3, y4⟩ := valid_parts hv
  have HS := Lib.hid (fun X (hb : Below w.heap.size w X) => solS_any _ d.rows X (P1.out.up hb (Nat.le_refl _)))
  have HC := Lib.hid (fun X (hb : Below w.heap.size w X) => tbI_any _ d.ways X (P4.out.up hb (Nat.le_refl _)))
  have NN := Lib.hid (tbN_rng d.ways)
  obtain ⟨m, hm⟩ : ∃ m, m = (tbN d.ways) := ⟨_, rfl⟩
  obtain ⟨q, hq⟩ : ∃ q, q = (tbB d.ways) := ⟨_, rfl⟩
  rw [← hm] at NN
  rw [← hm, ← hq] at HC ⊢
  clear hm hq
  clear h p1 p2 p3 p4 y1 y2 y3 y4 hv _hbt hp
  go_enter Tryz.func173, Tryz.ntmps173
  go_upto_region 1 with fail
  refine wp_at fun W0 hW0 => ?_
  have HB0 := Lib.hid (show Below w.heap.size w W0 by subst hW0; (repeat' first | exact Below.refl _ _ | assumption | refine Below.alloc ?_ ?_ _ | refine Below.setCell ?_ ?_ _ | refine Below.drew ?_ | (simp; done) | (simp; omega)))
  have HK0 := Lib.hid (show Blk W0 w.heap.size 30 #[.int .i64 d.rows.vars, .slice a1 d.rows.nums.length c1, .slice a2 d.rows.bnds.length c2, .slice a3 d.rows.gains.length c3, .slice a4 d.sizes.length c4, .slice a5 d.jobs.length c5, .slice a6 d.ways.length c6] by subst hW0; exact Blk.new _ _ _)
  clear hW0
  have d0 := HK0.out.cell 0 rfl
  have d1 := HK0.out.cell 1 rfl
  have d2 := HK0.out.cell 2 rfl
  have d3 := HK0.out.cell 3 rfl
  go_upto_region 2 with (go_at_call 230; refine (HS.out W0 HB0.out).mono ?_; rintro e w1 ⟨va, vb, rfl, ra, rb, hb1⟩)
  have HB1 := Lib.hid (HB0.out.trans (hb1.mono HB0.out.size))
  have HK1 := Lib.hid (HK0.out.below hb1 HK0.out.lt)
  have RA := Lib.hid ra
  have RB := Lib.hid rb
  clear HS hb1 HB0 HK0 d0 d1 d2 d3 ra rb
  have d6 := HK1.out.cell 6 rfl
  go_wp2_with (first
    | (go_at_call 233; refine (HC.out w1 HB1.out).mono ?_; rintro e w2 ⟨rfl, hb2⟩; have HB2 := Lib.hid (HB1.out.trans (hb2.mono HB1.out.size)))
    | (go_at_call 15; refine (DecimalZ_any _ NN.out.1 NN.out.2 w2 (HPW.out.up HB2.out (Nat.le_refl _))).mono ?_; rintro e w3 ⟨rfl, hb3⟩))
  go_ret3
  exact ⟨rfl, HB2.out.trans (hb3.mono HB2.out.size)⟩
set_option maxHeartbeats 1000000 in
set_option maxRecDepth 4000 in
theorem telLate_any (v : Value) (d : DeskD) (w : World) (h : RdD w v d) (hv : validDk d = true) (_hbt : BitsD d) (hp : HasPow w) :
    Calls Tryz.prog 173 #[v, .string ⟨#[108, 97, 116, 101]⟩] w fun e w' => e = .returned (.tuple #[.string (itoaB (lateN d.jobs)), .bool (areJobsB d.jobs), .bool true]) ∧ Below w.heap.size w w' := by
  obtain ⟨a1, c1, a2, c2, a3, c3, a4, c4, a5, c5, a6, c6, rfl⟩ := h.shape
  obtain ⟨p1, p2, p3, p4⟩ := h.parts
  have P1 := Lib.hid p1
  have P2 := Lib.hid p2
  have P3 := Lib.hid p3
  have P4 := Lib.hid p4
  have HPW := Lib.hid hp
  obtain ⟨y1, y2, y3, y4⟩ := valid_parts hv
  have HS := Lib.hid (fun X (hb : Below w.heap.size w X) => solS_any _ d.rows X (P1.out.up hb (Nat.le_refl _)))
  have HC := Lib.hid (fun X (hb : Below w.heap.size w X) => lateI_any _ d.jobs X (P3.out.up hb (Nat.le_refl _)))
  have NN := Lib.hid (lateN_rng d.jobs)
  obtain ⟨m, hm⟩ : ∃ m, m = (lateN d.jobs) := ⟨_, rfl⟩
  obtain ⟨q, hq⟩ : ∃ q, q = (areJobsB d.jobs) := ⟨_, rfl⟩
  rw [← hm] at NN
  rw [← hm, ← hq] at HC ⊢
  clear hm hq
  clear h p1 p2 p3 p4 y1 y2 y3 y4 hv _hbt hp
  go_enter Tryz.func173, Tryz.ntmps173
  go_upto_region 1 with fail
  refine wp_at fun W0 hW0 => ?_
  have HB0 := Lib.hid (show Below w.heap.size w W0 by subst hW0; (repeat' first | exact Below.refl _ _ | assumption | refine Below.alloc ?_ ?_ _ | refine Below.setCell ?_ ?_ _ | refine Below.drew ?_ | (simp; done) | (simp; omega)))
  have HK0 := Lib.hid (show Blk W0 w.heap.size 30 #[.int .i64 d.rows.vars, .slice a1 d.rows.nums.length c1, .slice a2 d.rows.bnds.length c2, .slice a3 d.rows.gains.length c3, .slice a4 d.sizes.length c4, .slice a5 d.jobs.length c5, .slice a6 d.ways.length c6] by subst hW0; exact Blk.new _ _ _)
  clear hW0
  have d0 := HK0.out.cell 0 rfl
  have d1 := HK0.out.cell 1 rfl
  have d2 := HK0.out.cell 2 rfl
  have d3 := HK0.out.cell 3 rfl
  go_upto_region 2 with (go_at_call 230; refine (HS.out W0 HB0.out).mono ?_; rintro e w1 ⟨va, vb, rfl, ra, rb, hb1⟩)
  have HB1 := Lib.hid (HB0.out.trans (hb1.mono HB0.out.size))
  have HK1 := Lib.hid (HK0.out.below hb1 HK0.out.lt)
  have RA := Lib.hid ra
  have RB := Lib.hid rb
  clear HS hb1 HB0 HK0 d0 d1 d2 d3 ra rb
  have d5 := HK1.out.cell 5 rfl
  go_wp2_with (first
    | (go_at_call 23; refine (HC.out w1 HB1.out).mono ?_; rintro e w2 ⟨u, rfl, ho, hb2⟩; have HB2 := Lib.hid (HB1.out.trans (hb2.mono HB1.out.size)))
    | (go_at_call 15; refine (DecimalZ_any _ NN.out.1 NN.out.2 w2 (HPW.out.up HB2.out (Nat.le_refl _))).mono ?_; rintro e w3 ⟨rfl, hb3⟩))
  go_ret3
  exact ⟨rfl, HB2.out.trans (hb3.mono HB2.out.size)⟩
set_option maxHeartbeats 1000000 in
set_option maxRecDepth 4000 in
theorem telHeads_any (v : Value) (d : DeskD) (w : World) (h : RdD w v d) (hv : validDk d = true) (_hbt : BitsD d) (hp : HasPow w) :
    Calls Tryz.prog 173 #[v, .string ⟨#[104, 101, 97, 100, 115]⟩] w fun e w' => e = .returned (.tuple #[.string (itoaB (headsN d.jobs)), .bool (areJobsB d.jobs), .bool true]) ∧ Below w.heap.size w w' := by
  obtain ⟨a1, c1, a2, c2, a3, c3, a4, c4, a5, c5, a6, c6, rfl⟩ := h.shape
  obtain ⟨p1, p2, p3, p4⟩ := h.parts
  have P1 := Lib.hid p1
  have P2 := Lib.hid p2
  have P3 := Lib.hid p3
  have P4 := Lib.hid p4
  have HPW := Lib.hid hp
  obtain ⟨y1, y2, y3, y4⟩ := valid_parts hv
  have HS := Lib.hid (fun X (hb : Below w.heap.size w X) => solS_any _ d.rows X (P1.out.up hb (Nat.le_refl _)))
  have HC := Lib.hid (fun X (hb : Below w.heap.size w X) => headsI_any _ d.jobs X (P3.out.up hb (Nat.le_refl _)))
  have NN := Lib.hid (headsN_rng d.jobs)
  obtain ⟨m, hm⟩ : ∃ m, m = (headsN d.jobs) := ⟨_, rfl⟩
  obtain ⟨q, hq⟩ : ∃ q, q = (areJobsB d.jobs) := ⟨_, rfl⟩
  rw [← hm] at NN
  rw [← hm, ← hq] at HC ⊢
  clear hm hq
  clear h p1 p2 p3 p4 y1 y2 y3 y4 hv _hbt hp
  go_enter Tryz.func173, Tryz.ntmps173
  go_upto_region 1 with fail
  refine wp_at fun W0 hW0 => ?_
  have HB0 := Lib.hid (show Below w.heap.size w W0 by subst hW0; (repeat' first | exact Below.refl _ _ | assumption | refine Below.alloc ?_ ?_ _ | refine Below.setCell ?_ ?_ _ | refine Below.drew ?_ | (simp; done) | (simp; omega)))
  have HK0 := Lib.hid (show Blk W0 w.heap.size 30 #[.int .i64 d.rows.vars, .slice a1 d.rows.nums.length c1, .slice a2 d.rows.bnds.length c2, .slice a3 d.rows.gains.length c3, .slice a4 d.sizes.length c4, .slice a5 d.jobs.length c5, .slice a6 d.ways.length c6] by subst hW0; exact Blk.new _ _ _)
  clear hW0
  have d0 := HK0.out.cell 0 rfl
  have d1 := HK0.out.cell 1 rfl
  have d2 := HK0.out.cell 2 rfl
  have d3 := HK0.out.cell 3 rfl
  go_upto_region 2 with (go_at_call 230; refine (HS.out W0 HB0.out).mono ?_; rintro e w1 ⟨va, vb, rfl, ra, rb, hb1⟩)
  have HB1 := Lib.hid (HB0.out.trans (hb1.mono HB0.out.size))
  have HK1 := Lib.hid (HK0.out.below hb1 HK0.out.lt)
  have RA := Lib.hid ra
  have RB := Lib.hid rb
  clear HS hb1 HB0 HK0 d0 d1 d2 d3 ra rb
  have d5 := HK1.out.cell 5 rfl
  go_wp2_with (first
    | (go_at_call 236; refine (HC.out w1 HB1.out).mono ?_; rintro e w2 ⟨rfl, hb2⟩; have HB2 := Lib.hid (HB1.out.trans (hb2.mono HB1.out.size)))
    | (go_at_call 15; refine (DecimalZ_any _ NN.out.1 NN.out.2 w2 (HPW.out.up HB2.out (Nat.le_refl _))).mono ?_; rintro e w3 ⟨rfl, hb3⟩))
  go_ret3
  exact ⟨rfl, HB2.out.trans (hb3.mono HB2.out.size)⟩
set_option maxHeartbeats 1000000 in
set_option maxRecDepth 4000 in
theorem telTour_any (v : Value) (d : DeskD) (w : World) (h : RdD w v d) (hv : validDk d = true) (_hbt : BitsD d) (hp : HasPow w) :
    Calls Tryz.prog 173 #[v, .string ⟨#[116, 111, 117, 114]⟩] w fun e w' => e = .returned (.tuple #[.string (listT (idxs (tourLst d.ways))), .bool (areCitiesB d.ways), .bool true]) ∧ Below w.heap.size w w' := by
  obtain ⟨a1, c1, a2, c2, a3, c3, a4, c4, a5, c5, a6, c6, rfl⟩ := h.shape
  obtain ⟨p1, p2, p3, p4⟩ := h.parts
  have P1 := Lib.hid p1
  have P2 := Lib.hid p2
  have P3 := Lib.hid p3
  have P4 := Lib.hid p4
  have HPW := Lib.hid hp
  obtain ⟨y1, y2, y3, y4⟩ := valid_parts hv
  have HS := Lib.hid (fun X (hb : Below w.heap.size w X) => solS_any _ d.rows X (P1.out.up hb (Nat.le_refl _)))
  have HC := Lib.hid (fun X (hb : Below w.heap.size w X) => bestTourI_any _ d.ways X (P4.out.up hb (Nat.le_refl _)))
  have SH := Lib.hid (short_tour d.ways)
  obtain ⟨m, hm⟩ : ∃ m, m = (idxs (tourLst d.ways)) := ⟨_, rfl⟩
  obtain ⟨q, hq⟩ : ∃ q, q = (areCitiesB d.ways) := ⟨_, rfl⟩
  rw [← hm] at SH
  rw [← hm] at HC
  rw [← hm]
  rw [← hq] at HC ⊢
  clear hm hq
  clear h p1 p2 p3 p4 y1 y2 y3 y4 hv _hbt hp
  go_enter Tryz.func173, Tryz.ntmps173
  go_upto_region 1 with fail
  refine wp_at fun W0 hW0 => ?_
  have HB0 := Lib.hid (show Below w.heap.size w W0 by subst hW0; (repeat' first | exact Below.refl _ _ | assumption | refine Below.alloc ?_ ?_ _ | refine Below.setCell ?_ ?_ _ | refine Below.drew ?_ | (simp; done) | (simp; omega)))
  have HK0 := Lib.hid (show Blk W0 w.heap.size 30 #[.int .i64 d.rows.vars, .slice a1 d.rows.nums.length c1, .slice a2 d.rows.bnds.length c2, .slice a3 d.rows.gains.length c3, .slice a4 d.sizes.length c4, .slice a5 d.jobs.length c5, .slice a6 d.ways.length c6] by subst hW0; exact Blk.new _ _ _)
  clear hW0
  have d0 := HK0.out.cell 0 rfl
  have d1 := HK0.out.cell 1 rfl
  have d2 := HK0.out.cell 2 rfl
  have d3 := HK0.out.cell 3 rfl
  go_upto_region 2 with (go_at_call 230; refine (HS.out W0 HB0.out).mono ?_; rintro e w1 ⟨va, vb, rfl, ra, rb, hb1⟩)
  have HB1 := Lib.hid (HB0.out.trans (hb1.mono HB0.out.size))
  have HK1 := Lib.hid (HK0.out.below hb1 HK0.out.lt)
  have RA := Lib.hid ra
  have RB := Lib.hid rb
  clear HS hb1 HB0 HK0 d0 d1 d2 d3 ra rb
  have d6 := HK1.out.cell 6 rfl
  go_wp2_with (first
    | (go_at_call 21; refine (HC.out w1 HB1.out).mono ?_; rintro e w2 ⟨u, rfl, ho, hb2⟩; have HB2 := Lib.hid (HB1.out.trans (hb2.mono HB1.out.size)))
    | (go_at_call 50; refine (listTextI_any _ _ w2 ho SH.out.1 SH.out.2 (HPW.out.up HB2.out (Nat.le_refl _))).mono ?_; rintro e w3 ⟨rfl, hb3⟩))
  go_ret3
  exact ⟨rfl, HB2.out.trans (hb3.mono HB2.out.size)⟩
set_option maxHeartbeats 1000000 in
set_option maxRecDepth 4000 in
theorem telDue_any (v : Value) (d : DeskD) (w : World) (h : RdD w v d) (hv : validDk d = true) (_hbt : BitsD d) (hp : HasPow w) :
    Calls Tryz.prog 173 #[v, .string ⟨#[100, 117, 101]⟩] w fun e w' => e = .returned (.tuple #[.string (listT (dueL d.jobs)), .bool (areJobsB d.jobs), .bool true]) ∧ Below w.heap.size w w' := by
  obtain ⟨a1, c1, a2, c2, a3, c3, a4, c4, a5, c5, a6, c6, rfl⟩ := h.shape
  obtain ⟨p1, p2, p3, p4⟩ := h.parts
  have P1 := Lib.hid p1
  have P2 := Lib.hid p2
  have P3 := Lib.hid p3
  have P4 := Lib.hid p4
  have HPW := Lib.hid hp
  obtain ⟨y1, y2, y3, y4⟩ := valid_parts hv
  have HS := Lib.hid (fun X (hb : Below w.heap.size w X) => solS_any _ d.rows X (P1.out.up hb (Nat.le_refl _)))
  have HC := Lib.hid (fun X (hb : Below w.heap.size w X) => dueI_any _ d.jobs X (P3.out.up hb (Nat.le_refl _)))
  have SH := Lib.hid (short_due d.jobs)
  obtain ⟨m, hm⟩ : ∃ m, m = (dueL d.jobs) := ⟨_, rfl⟩
  obtain ⟨q, hq⟩ : ∃ q, q = (areJobsB d.jobs) := ⟨_, rfl⟩
  rw [← hm] at SH
  rw [← hm] at HC
  rw [← hm]
  rw [← hq] at HC ⊢
  clear hm hq
  clear h p1 p2 p3 p4 y1 y2 y3 y4 hv _hbt hp
  go_enter Tryz.func173, Tryz.ntmps173
  go_upto_region 1 with fail
  refine wp_at fun W0 hW0 => ?_
  have HB0 := Lib.hid (show Below w.heap.size w W0 by subst hW0; (repeat' first | exact Below.refl _ _ | assumption | refine Below.alloc ?_ ?_ _ | refine Below.setCell ?_ ?_ _ | refine Below.drew ?_ | (simp; done) | (simp; omega)))
  have HK0 := Lib.hid (show Blk W0 w.heap.size 30 #[.int .i64 d.rows.vars, .slice a1 d.rows.nums.length c1, .slice a2 d.rows.bnds.length c2, .slice a3 d.rows.gains.length c3, .slice a4 d.sizes.length c4, .slice a5 d.jobs.length c5, .slice a6 d.ways.length c6] by subst hW0; exact Blk.new _ _ _)
  clear hW0
  have d0 := HK0.out.cell 0 rfl
  have d1 := HK0.out.cell 1 rfl
  have d2 := HK0.out.cell 2 rfl
  have d3 := HK0.out.cell 3 rfl
  go_upto_region 2 with (go_at_call 230; refine (HS.out W0 HB0.out).mono ?_; rintro e w1 ⟨va, vb, rfl, ra, rb, hb1⟩)
  have HB1 := Lib.hid (HB0.out.trans (hb1.mono HB0.out.size))
  have HK1 := Lib.hid (HK0.out.below hb1 HK0.out.lt)
  have RA := Lib.hid ra
  have RB := Lib.hid rb
  clear HS hb1 HB0 HK0 d0 d1 d2 d3 ra rb
  have d5 := HK1.out.cell 5 rfl
  go_wp2_with (first
    | (go_at_call 22; refine (HC.out w1 HB1.out).mono ?_; rintro e w2 ⟨u, rfl, ho, hb2⟩; have HB2 := Lib.hid (HB1.out.trans (hb2.mono HB1.out.size)))
    | (go_at_call 50; refine (listTextI_any _ _ w2 ho.rd SH.out.1 SH.out.2 (HPW.out.up HB2.out (Nat.le_refl _))).mono ?_; rintro e w3 ⟨rfl, hb3⟩))
  go_ret3
  exact ⟨rfl, HB2.out.trans (hb3.mono HB2.out.size)⟩
set_option maxHeartbeats 1000000 in
set_option maxRecDepth 4000 in
theorem telSmith_any (v : Value) (d : DeskD) (w : World) (h : RdD w v d) (hv : validDk d = true) (_hbt : BitsD d) (hp : HasPow w) :
    Calls Tryz.prog 173 #[v, .string ⟨#[115, 109, 105, 116, 104]⟩] w fun e w' => e = .returned (.tuple #[.string (listT (smithL d.jobs)), .bool (areJobsB d.jobs), .bool true]) ∧ Below w.heap.size w w' := by
  obtain ⟨a1, c1, a2, c2, a3, c3, a4, c4, a5, c5, a6, c6, rfl⟩ := h.shape
  obtain ⟨p1, p2, p3, p4⟩ := h.parts
  have P1 := Lib.hid p1
  have P2 := Lib.hid p2
  have P3 := Lib.hid p3
  have P4 := Lib.hid p4
  have HPW := Lib.hid hp
  obtain ⟨y1, y2, y3, y4⟩ := valid_parts hv
  have HS := Lib.hid (fun X (hb : Below w.heap.size w X) => solS_any _ d.rows X (P1.out.up hb (Nat.le_refl _)))
  have HC := Lib.hid (fun X (hb : Below w.heap.size w X) => smithI_any _ d.jobs X (P3.out.up hb (Nat.le_refl _)))
  have SH := Lib.hid (short_smith d.jobs)
  obtain ⟨m, hm⟩ : ∃ m, m = (smithL d.jobs) := ⟨_, rfl⟩
  obtain ⟨q, hq⟩ : ∃ q, q = (areJobsB d.jobs) := ⟨_, rfl⟩
  rw [← hm] at SH
  rw [← hm] at HC
  rw [← hm]
  rw [← hq] at HC ⊢
  clear hm hq
  clear h p1 p2 p3 p4 y1 y2 y3 y4 hv _hbt hp
  go_enter Tryz.func173, Tryz.ntmps173
  go_upto_region 1 with fail
  refine wp_at fun W0 hW0 => ?_
  have HB0 := Lib.hid (show Below w.heap.size w W0 by subst hW0; (repeat' first | exact Below.refl _ _ | assumption | refine Below.alloc ?_ ?_ _ | refine Below.setCell ?_ ?_ _ | refine Below.drew ?_ | (simp; done) | (simp; omega)))
  have HK0 := Lib.hid (show Blk W0 w.heap.size 30 #[.int .i64 d.rows.vars, .slice a1 d.rows.nums.length c1, .slice a2 d.rows.bnds.length c2, .slice a3 d.rows.gains.length c3, .slice a4 d.sizes.length c4, .slice a5 d.jobs.length c5, .slice a6 d.ways.length c6] by subst hW0; exact Blk.new _ _ _)
  clear hW0
  have d0 := HK0.out.cell 0 rfl
  have d1 := HK0.out.cell 1 rfl
  have d2 := HK0.out.cell 2 rfl
  have d3 := HK0.out.cell 3 rfl
  go_upto_region 2 with (go_at_call 230; refine (HS.out W0 HB0.out).mono ?_; rintro e w1 ⟨va, vb, rfl, ra, rb, hb1⟩)
  have HB1 := Lib.hid (HB0.out.trans (hb1.mono HB0.out.size))
  have HK1 := Lib.hid (HK0.out.below hb1 HK0.out.lt)
  have RA := Lib.hid ra
  have RB := Lib.hid rb
  clear HS hb1 HB0 HK0 d0 d1 d2 d3 ra rb
  have d5 := HK1.out.cell 5 rfl
  go_wp2_with (first
    | (go_at_call 234; refine (HC.out w1 HB1.out).mono ?_; rintro e w2 ⟨u, rfl, ho, hb2⟩; have HB2 := Lib.hid (HB1.out.trans (hb2.mono HB1.out.size)))
    | (go_at_call 50; refine (listTextI_any _ _ w2 ho.rd SH.out.1 SH.out.2 (HPW.out.up HB2.out (Nat.le_refl _))).mono ?_; rintro e w3 ⟨rfl, hb3⟩))
  go_ret3
  exact ⟨rfl, HB2.out.trans (hb3.mono HB2.out.size)⟩
set_option maxHeartbeats 1000000 in
set_option maxRecDepth 4000 in
theorem telOntime_any (v : Value) (d : DeskD) (w : World) (h : RdD w v d) (hv : validDk d = true) (_hbt : BitsD d) (hp : HasPow w) :
    Calls Tryz.prog 173 #[v, .string ⟨#[111, 110, 116, 105, 109, 101]⟩] w fun e w' => e = .returned (.tuple #[.string (listT (otL d.jobs)), .bool (areJobsB d.jobs), .bool true]) ∧ Below w.heap.size w w' := by
  obtain ⟨a1, c1, a2, c2, a3, c3, a4, c4, a5, c5, a6, c6, rfl⟩ := h.shape
  obtain ⟨p1, p2, p3, p4⟩ := h.parts
  have P1 := Lib.hid p1
  have P2 := Lib.hid p2
  have P3 := Lib.hid p3
  have P4 := Lib.hid p4
  have HPW := Lib.hid hp
  obtain ⟨y1, y2, y3, y4⟩ := valid_parts hv
  have HS := Lib.hid (fun X (hb : Below w.heap.size w X) => solS_any _ d.rows X (P1.out.up hb (Nat.le_refl _)))
  have HC := Lib.hid (fun X (hb : Below w.heap.size w X) => otI_any _ d.jobs X (P3.out.up hb (Nat.le_refl _)))
  have SH := Lib.hid (short_ot d.jobs)
  obtain ⟨m, hm⟩ : ∃ m, m = (otL d.jobs) := ⟨_, rfl⟩
  obtain ⟨q, hq⟩ : ∃ q, q = (areJobsB d.jobs) := ⟨_, rfl⟩
  rw [← hm] at SH
  rw [← hm] at HC
  rw [← hm]
  rw [← hq] at HC ⊢
  clear hm hq
  clear h p1 p2 p3 p4 y1 y2 y3 y4 hv _hbt hp
  go_enter Tryz.func173, Tryz.ntmps173
  go_upto_region 1 with fail
  refine wp_at fun W0 hW0 => ?_
  have HB0 := Lib.hid (show Below w.heap.size w W0 by subst hW0; (repeat' first | exact Below.refl _ _ | assumption | refine Below.alloc ?_ ?_ _ | refine Below.setCell ?_ ?_ _ | refine Below.drew ?_ | (simp; done) | (simp; omega)))
  have HK0 := Lib.hid (show Blk W0 w.heap.size 30 #[.int .i64 d.rows.vars, .slice a1 d.rows.nums.length c1, .slice a2 d.rows.bnds.length c2, .slice a3 d.rows.gains.length c3, .slice a4 d.sizes.length c4, .slice a5 d.jobs.length c5, .slice a6 d.ways.length c6] by subst hW0; exact Blk.new _ _ _)
  clear hW0
  have d0 := HK0.out.cell 0 rfl
  have d1 := HK0.out.cell 1 rfl
  have d2 := HK0.out.cell 2 rfl
  have d3 := HK0.out.cell 3 rfl
  go_upto_region 2 with (go_at_call 230; refine (HS.out W0 HB0.out).mono ?_; rintro e w1 ⟨va, vb, rfl, ra, rb, hb1⟩)
  have HB1 := Lib.hid (HB0.out.trans (hb1.mono HB0.out.size))
  have HK1 := Lib.hid (HK0.out.below hb1 HK0.out.lt)
  have RA := Lib.hid ra
  have RB := Lib.hid rb
  clear HS hb1 HB0 HK0 d0 d1 d2 d3 ra rb
  have d5 := HK1.out.cell 5 rfl
  go_wp2_with (first
    | (go_at_call 235; refine (HC.out w1 HB1.out).mono ?_; rintro e w2 ⟨u, rfl, ho, hb2⟩; have HB2 := Lib.hid (HB1.out.trans (hb2.mono HB1.out.size)))
    | (go_at_call 50; refine (listTextI_any _ _ w2 ho.rd SH.out.1 SH.out.2 (HPW.out.up HB2.out (Nat.le_refl _))).mono ?_; rintro e w3 ⟨rfl, hb3⟩))
  go_ret3
  exact ⟨rfl, HB2.out.trans (hb3.mono HB2.out.size)⟩
set_option maxHeartbeats 1000000 in
set_option maxRecDepth 4000 in
theorem telNone_any (v : Value) (d : DeskD) (s : ByteArray) (w : World) (h : RdD w v d) (hRows : s ≠ kwRows) (hSizes : s ≠ kwSizes) (hJobs : s ≠ kwJobs) (hWays : s ≠ kwWays) (hSolve : s ≠ kwSolve) (hPrices : s ≠ kwPrices) (hGain : s ≠ kwGain) (hHalves : s ≠ kwHalves) (hTour : s ≠ kwTour) (hLong : s ≠ kwLong) (hBound : s ≠ kwBound) (hDue : s ≠ kwDue) (hSmith : s ≠ kwSmith) (hOntime : s ≠ kwOntime) (hLate : s ≠ kwLate) (hHeads : s ≠ kwHeads) :
    Calls Tryz.prog 173 #[v, .string s] w fun e w' => e = .returned (.tuple #[.string E0, .bool false, .bool false]) ∧ Below w.heap.size w w' := by
  obtain ⟨a1, c1, a2, c2, a3, c3, a4, c4, a5, c5, a6, c6, rfl⟩ := h.shape
  obtain ⟨p1, p2, p3, p4⟩ := h.parts
  have P1 := Lib.hid p1
  have P2 := Lib.hid p2
  have P3 := Lib.hid p3
  have P4 := Lib.hid p4
  have HS := Lib.hid (fun X (hb : Below w.heap.size w X) => solS_any _ d.rows X (P1.out.up hb (Nat.le_refl _)))
  have nRows := str_neL (a := #[114, 111, 119, 115]) (l := [114, 111, 119, 115]) hRows rfl
  have nSizes := str_neL (a := #[115, 105, 122, 101, 115]) (l := [115, 105, 122, 101, 115]) hSizes rfl
  have nJobs := str_neL (a := #[106, 111, 98, 115]) (l := [106, 111, 98, 115]) hJobs rfl
  have nWays := str_neL (a := #[119, 97, 121, 115]) (l := [119, 97, 121, 115]) hWays rfl
  have nSolve := str_neL (a := #[115, 111, 108, 118, 101]) (l := [115, 111, 108, 118, 101]) hSolve rfl
  have nPrices := str_neL (a := #[112, 114, 105, 99, 101, 115]) (l := [112, 114, 105, 99, 101, 115]) hPrices rfl
  have nGain := str_neL (a := #[103, 97, 105, 110]) (l := [103, 97, 105, 110]) hGain rfl
  have nHalves := str_neL (a := #[104, 97, 108, 118, 101, 115]) (l := [104, 97, 108, 118, 101, 115]) hHalves rfl
  have nTour := str_neL (a := #[116, 111, 117, 114]) (l := [116, 111, 117, 114]) hTour rfl
  have nLong := str_neL (a := #[108, 111, 110, 103]) (l := [108, 111, 110, 103]) hLong rfl
  have nBound := str_neL (a := #[98, 111, 117, 110, 100]) (l := [98, 111, 117, 110, 100]) hBound rfl
  have nDue := str_neL (a := #[100, 117, 101]) (l := [100, 117, 101]) hDue rfl
  have nSmith := str_neL (a := #[115, 109, 105, 116, 104]) (l := [115, 109, 105, 116, 104]) hSmith rfl
  have nOntime := str_neL (a := #[111, 110, 116, 105, 109, 101]) (l := [111, 110, 116, 105, 109, 101]) hOntime rfl
  have nLate := str_neL (a := #[108, 97, 116, 101]) (l := [108, 97, 116, 101]) hLate rfl
  have nHeads := str_neL (a := #[104, 101, 97, 100, 115]) (l := [104, 101, 97, 100, 115]) hHeads rfl
  clear h p1 p2 p3 p4 hRows hSizes hJobs hWays hSolve hPrices hGain hHalves hTour hLong hBound hDue hSmith hOntime hLate hHeads
  go_enter Tryz.func173, Tryz.ntmps173
  go_upto_region 1 with fail
  refine wp_at fun W0 hW0 => ?_
  have HB0 := Lib.hid (show Below w.heap.size w W0 by subst hW0; (repeat' first | exact Below.refl _ _ | assumption | refine Below.alloc ?_ ?_ _ | refine Below.setCell ?_ ?_ _ | refine Below.drew ?_ | (simp; done) | (simp; omega)))
  have HK0 := Lib.hid (show Blk W0 w.heap.size 30 #[.int .i64 d.rows.vars, .slice a1 d.rows.nums.length c1, .slice a2 d.rows.bnds.length c2, .slice a3 d.rows.gains.length c3, .slice a4 d.sizes.length c4, .slice a5 d.jobs.length c5, .slice a6 d.ways.length c6] by subst hW0; exact Blk.new _ _ _)
  clear hW0
  have d0 := HK0.out.cell 0 rfl
  have d1 := HK0.out.cell 1 rfl
  have d2 := HK0.out.cell 2 rfl
  have d3 := HK0.out.cell 3 rfl
  go_upto_region 2 with (go_at_call 230; refine (HS.out W0 HB0.out).mono ?_; rintro e w1 ⟨va, vb, rfl, ra, rb, hb1⟩)
  have HB1 := Lib.hid (HB0.out.trans (hb1.mono HB0.out.size))
  clear HS hb1 HB0 HK0 d0 d1 d2 d3 ra rb
  go_wp2_with fail
  go_ret3
  exact ⟨rfl, HB1.out⟩
theorem tell_any (v : Value) (d : DeskD) (s : ByteArray) (w : World) (h : RdD w v d) (hv : validDk d = true) (hbt : BitsD d) (hp : HasPow w) :
    Calls Tryz.prog 173 #[v, .string s] w fun e w' => e = .returned (.tuple #[.string (((tellK d s).map (fun p => p.1)).getD E0), .bool (((tellK d s).map (fun p => p.2)).getD false), .bool (tellK d s).isSome]) ∧ Below w.heap.size w w' := by
  unfold tellK
  by_cases hRows : s = kwRows
  · rw [if_pos hRows]
    subst hRows
    exact telRows_any v d w h hv hbt hp
  rw [if_neg hRows]
  by_cases hSizes : s = kwSizes
  · rw [if_pos hSizes]
    subst hSizes
    exact telSizes_any v d w h hv hbt hp
  rw [if_neg hSizes]
  by_cases hJobs : s = kwJobs
  · rw [if_pos hJobs]
    subst hJobs
    exact telJobs_any v d w h hv hbt hp
  rw [if_neg hJobs]
  by_cases hWays : s = kwWays
  · rw [if_pos hWays]
    subst hWays
    exact telWays_any v d w h hv hbt hp
  rw [if_neg hWays]
  by_cases hSolve : s = kwSolve
  · rw [if_pos hSolve]
    subst hSolve
    exact telSolve_any v d w h hv hbt hp
  rw [if_neg hSolve]
  by_cases hPrices : s = kwPrices
  · rw [if_pos hPrices]
    subst hPrices
    exact telPrices_any v d w h hv hbt hp
  rw [if_neg hPrices]
  by_cases hGain : s = kwGain
  · rw [if_pos hGain]
    subst hGain
    exact telGain_any v d w h hv hbt hp
  rw [if_neg hGain]
  by_cases hHalves : s = kwHalves
  · rw [if_pos hHalves]
    subst hHalves
    exact telHalves_any v d w h hv hbt hp
  rw [if_neg hHalves]
  by_cases hTour : s = kwTour
  · rw [if_pos hTour]
    subst hTour
    exact telTour_any v d w h hv hbt hp
  rw [if_neg hTour]
  by_cases hLong : s = kwLong
  · rw [if_pos hLong]
    subst hLong
    exact telLong_any v d w h hv hbt hp
  rw [if_neg hLong]
  by_cases hBound : s = kwBound
  · rw [if_pos hBound]
    subst hBound
    exact telBound_any v d w h hv hbt hp
  rw [if_neg hBound]
  by_cases hDue : s = kwDue
  · rw [if_pos hDue]
    subst hDue
    exact telDue_any v d w h hv hbt hp
  rw [if_neg hDue]
  by_cases hSmith : s = kwSmith
  · rw [if_pos hSmith]
    subst hSmith
    exact telSmith_any v d w h hv hbt hp
  rw [if_neg hSmith]
  by_cases hOntime : s = kwOntime
  · rw [if_pos hOntime]
    subst hOntime
    exact telOntime_any v d w h hv hbt hp
  rw [if_neg hOntime]
  by_cases hLate : s = kwLate
  · rw [if_pos hLate]
    subst hLate
    exact telLate_any v d w h hv hbt hp
  rw [if_neg hLate]
  by_cases hHeads : s = kwHeads
  · rw [if_pos hHeads]
    subst hHeads
    exact telHeads_any v d w h hv hbt hp
  rw [if_neg hHeads]
  exact telNone_any v d s w h hRows hSizes hJobs hWays hSolve hPrices hGain hHalves hTour hLong hBound hDue hSmith hOntime hLate hHeads
end Go.Proofs.YtgkbbpajkbkgnaaGreatDoor
