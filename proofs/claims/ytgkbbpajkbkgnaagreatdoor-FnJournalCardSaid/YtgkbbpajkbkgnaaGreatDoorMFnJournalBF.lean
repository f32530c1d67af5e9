/-
  FnJournal: texts joined: DkCnt, DkOwn, DkSet, DkTwo.
-/
import Derived.Test.YtgkbbpajkbkgnaaGreatDoorMFnJournalAO
import Derived.Test.YtgkbbpajkbkgnaaGreatDoorMFnJournalBA
import Derived.Test.YtgkbbpajkbkgnaaGreatDoorMFnJournalBE
set_option linter.unusedVariables false
set_option linter.unusedSimpArgs false
namespace Go.Proofs.YtgkbbpajkbkgnaaGreatDoor
open Go.RowKit Go.Sort
set_option maxHeartbeats 1000000 in
set_option maxRecDepth 4000 in
theorem cntFill_any (v : Value) (d : DeskD) (n : Int) (w : World) (h : RdD w v d) :
    Calls Tryz.prog 229 #[v, .string ⟨#[102, 105, 108, 108]⟩, .int .i64 n] w fun e w' => e = .returned (.tuple #[.int .i64 (fillN d.sizes n), .bool (fillB d.sizes n), .bool true]) ∧ Below w.heap.size w w' := by
  obtain ⟨a1, c1, a2, c2, a3, c3, a4, c4, a5, c5, a6, c6, rfl⟩ := h.shape
  obtain ⟨p1, p2, p3, p4⟩ := h.parts
  have P1 := Lib.hid p1
  have P2 := Lib.hid p2
  have P3 := Lib.hid p3
  have P4 := Lib.hid p4
  have HC := Lib.hid (fun X (hb : Below w.heap.size w X) => wtfI_any _ d.sizes n X (P2.out.up hb (Nat.le_refl _)))
  clear h p1 p2 p3 p4 P1 P2 P3 P4
  obtain ⟨m, hm⟩ : ∃ m, m = (fillN d.sizes n) := ⟨_, rfl⟩
  obtain ⟨q, hq⟩ : ∃ q, q = (fillB d.sizes n) := ⟨_, rfl⟩
  rw [← hm, ← hq] at HC ⊢
  clear hm hq
  go_enter Tryz.func229, Tryz.ntmps229
  go_upto_region 1 with fail
  refine wp_at fun W0 hW0 => ?_
  have HB0 := Lib.hid (show Below w.heap.size w W0 by subst hW0; (repeat' first | exact Below.refl _ _ | assumption | refine Below.alloc ?_ ?_ _ | refine Below.setCell ?_ ?_ _ | refine Below.drew ?_ | (simp; done) | (simp; omega)))
  have HK0 := Lib.hid (show Blk W0 w.heap.size 30 #[.int .i64 d.rows.vars, .slice a1 d.rows.nums.length c1, .slice a2 d.rows.bnds.length c2, .slice a3 d.rows.gains.length c3, .slice a4 d.sizes.length c4, .slice a5 d.jobs.length c5, .slice a6 d.ways.length c6] by subst hW0; exact Blk.new _ _ _)
  clear hW0
  have d0 := HK0.out.cell 4 rfl
  go_wp2_with (go_at_call 19; refine (HC.out W0 HB0.out).mono ?_; rintro e w1 ⟨rfl, hb1⟩)
  go_ret3
  exact ⟨rfl, HB0.out.trans (hb1.mono HB0.out.size)⟩
set_option maxHeartbeats 1000000 in
set_option maxRecDepth 4000 in
theorem cntBins_any (v : Value) (d : DeskD) (n : Int) (w : World) (h : RdD w v d) :
    Calls Tryz.prog 229 #[v, .string ⟨#[98, 105, 110, 115]⟩, .int .i64 n] w fun e w' => e = .returned (.tuple #[.int .i64 (fbN d.sizes n), .bool (fbB d.sizes n), .bool true]) ∧ Below w.heap.size w w' := by
  obtain ⟨a1, c1, a2, c2, a3, c3, a4, c4, a5, c5, a6, c6, rfl⟩ := h.shape
  obtain ⟨p1, p2, p3, p4⟩ := h.parts
  have P1 := Lib.hid p1
  have P2 := Lib.hid p2
  have P3 := Lib.hid p3
  have P4 := Lib.hid p4
  have HC := Lib.hid (fun X (hb : Below w.heap.size w X) => fbI_any _ d.sizes n X (P2.out.up hb (Nat.le_refl _)))
  clear h p1 p2 p3 p4 P1 P2 P3 P4
  obtain ⟨m, hm⟩ : ∃ m, m = (fbN d.sizes n) := ⟨_, rfl⟩
  obtain ⟨q, hq⟩ : ∃ q, q = (fbB d.sizes n) := ⟨_, rfl⟩
  rw [← hm, ← hq] at HC ⊢
  clear hm hq
  go_enter Tryz.func229, Tryz.ntmps229
  go_upto_region 1 with fail
  refine wp_at fun W0 hW0 => ?_
  have HB0 := Lib.hid (show Below w.heap.size w W0 by subst hW0; (repeat' first | exact Below.refl _ _ | assumption | refine Below.alloc ?_ ?_ _ | refine Below.setCell ?_ ?_ _ | refine Below.drew ?_ | (simp; done) | (simp; omega)))
  have HK0 := Lib.hid (show Blk W0 w.heap.size 30 #[.int .i64 d.rows.vars, .slice a1 d.rows.nums.length c1, .slice a2 d.rows.bnds.length c2, .slice a3 d.rows.gains.length c3, .slice a4 d.sizes.length c4, .slice a5 d.jobs.length c5, .slice a6 d.ways.length c6] by subst hW0; exact Blk.new _ _ _)
  clear hW0
  have d0 := HK0.out.cell 4 rfl
  go_wp2_with (go_at_call 20; refine (HC.out W0 HB0.out).mono ?_; rintro e w1 ⟨u, rfl, ho, hb1⟩)
  go_ret3
  exact ⟨rfl, HB0.out.trans (hb1.mono HB0.out.size)⟩
set_option maxHeartbeats 1000000 in
set_option maxRecDepth 4000 in
theorem cntLeast_any (v : Value) (d : DeskD) (n : Int) (w : World) (h : RdD w v d) :
    Calls Tryz.prog 229 #[v, .string ⟨#[108, 101, 97, 115, 116]⟩, .int .i64 n] w fun e w' => e = .returned (.tuple #[.int .i64 (binsN d.sizes n), .bool (binsB d.sizes n), .bool true]) ∧ Below w.heap.size w w' := by
  obtain ⟨a1, c1, a2, c2, a3, c3, a4, c4, a5, c5, a6, c6, rfl⟩ := h.shape
  obtain ⟨p1, p2, p3, p4⟩ := h.parts
  have P1 := Lib.hid p1
  have P2 := Lib.hid p2
  have P3 := Lib.hid p3
  have P4 := Lib.hid p4
  have HC := Lib.hid (fun X (hb : Below w.heap.size w X) => lbI_any _ d.sizes n X (P2.out.up hb (Nat.le_refl _)))
  clear h p1 p2 p3 p4 P1 P2 P3 P4
  obtain ⟨m, hm⟩ : ∃ m, m = (binsN d.sizes n) := ⟨_, rfl⟩
  obtain ⟨q, hq⟩ : ∃ q, q = (binsB d.sizes n) := ⟨_, rfl⟩
  rw [← hm, ← hq] at HC ⊢
  clear hm hq
  go_enter Tryz.func229, Tryz.ntmps229
  go_upto_region 1 with fail
  refine wp_at fun W0 hW0 => ?_
  have HB0 := Lib.hid (show Below w.heap.size w W0 by subst hW0; (repeat' first | exact Below.refl _ _ | assumption | refine Below.alloc ?_ ?_ _ | refine Below.setCell ?_ ?_ _ | refine Below.drew ?_ | (simp; done) | (simp; omega)))
  have HK0 := Lib.hid (show Blk W0 w.heap.size 30 #[.int .i64 d.rows.vars, .slice a1 d.rows.nums.length c1, .slice a2 d.rows.bnds.length c2, .slice a3 d.rows.gains.length c3, .slice a4 d.sizes.length c4, .slice a5 d.jobs.length c5, .slice a6 d.ways.length c6] by subst hW0; exact Blk.new _ _ _)
  clear hW0
  have d0 := HK0.out.cell 4 rfl
  go_wp2_with (go_at_call 283; refine (HC.out W0 HB0.out).mono ?_; rintro e w1 ⟨rfl, hb1⟩)
  go_ret3
  exact ⟨rfl, HB0.out.trans (hb1.mono HB0.out.size)⟩
set_option maxHeartbeats 1000000 in
set_option maxRecDepth 4000 in
theorem cntRaise_any (v : Value) (d : DeskD) (n : Int) (w : World) (h : RdD w v d) :
    Calls Tryz.prog 229 #[v, .string ⟨#[114, 97, 105, 115, 101]⟩, .int .i64 n] w fun e w' => e = .returned (.tuple #[.int .i64 (rbN d.ways n), .bool (rbB d.ways n), .bool true]) ∧ Below w.heap.size w w' := by
  obtain ⟨a1, c1, a2, c2, a3, c3, a4, c4, a5, c5, a6, c6, rfl⟩ := h.shape
  obtain ⟨p1, p2, p3, p4⟩ := h.parts
  have P1 := Lib.hid p1
  have P2 := Lib.hid p2
  have P3 := Lib.hid p3
  have P4 := Lib.hid p4
  have HC := Lib.hid (fun X (hb : Below w.heap.size w X) => rbI_any _ d.ways n X (P4.out.up hb (Nat.le_refl _)))
  clear h p1 p2 p3 p4 P1 P2 P3 P4
  obtain ⟨m, hm⟩ : ∃ m, m = (rbN d.ways n) := ⟨_, rfl⟩
  obtain ⟨q, hq⟩ : ∃ q, q = (rbB d.ways n) := ⟨_, rfl⟩
  rw [← hm, ← hq] at HC ⊢
  clear hm hq
  go_enter Tryz.func229, Tryz.ntmps229
  go_upto_region 1 with fail
  refine wp_at fun W0 hW0 => ?_
  have HB0 := Lib.hid (show Below w.heap.size w W0 by subst hW0; (repeat' first | exact Below.refl _ _ | assumption | refine Below.alloc ?_ ?_ _ | refine Below.setCell ?_ ?_ _ | refine Below.drew ?_ | (simp; done) | (simp; omega)))
  have HK0 := Lib.hid (show Blk W0 w.heap.size 30 #[.int .i64 d.rows.vars, .slice a1 d.rows.nums.length c1, .slice a2 d.rows.bnds.length c2, .slice a3 d.rows.gains.length c3, .slice a4 d.sizes.length c4, .slice a5 d.jobs.length c5, .slice a6 d.ways.length c6] by subst hW0; exact Blk.new _ _ _)
  clear hW0
  have d0 := HK0.out.cell 6 rfl
  go_wp2_with (go_at_call 284; refine (HC.out W0 HB0.out).mono ?_; rintro e w1 ⟨u, rfl, hb1⟩)
  go_ret3
  exact ⟨rfl, HB0.out.trans (hb1.mono HB0.out.size)⟩
set_option maxHeartbeats 1000000 in
set_option maxRecDepth 4000 in
theorem cntList_any (v : Value) (d : DeskD) (n : Int) (w : World) (h : RdD w v d) :
    Calls Tryz.prog 229 #[v, .string ⟨#[108, 105, 115, 116]⟩, .int .i64 n] w fun e w' => e = .returned (.tuple #[.int .i64 (lpE d.jobs n), .bool (machB d.jobs n), .bool true]) ∧ Below w.heap.size w w' := by
  obtain ⟨a1, c1, a2, c2, a3, c3, a4, c4, a5, c5, a6, c6, rfl⟩ := h.shape
  obtain ⟨p1, p2, p3, p4⟩ := h.parts
  have P1 := Lib.hid p1
  have P2 := Lib.hid p2
  have P3 := Lib.hid p3
  have P4 := Lib.hid p4
  have HC := Lib.hid (fun X (hb : Below w.heap.size w X) => listI_any _ d.jobs n X (P3.out.up hb (Nat.le_refl _)))
  clear h p1 p2 p3 p4 P1 P2 P3 P4
  obtain ⟨m, hm⟩ : ∃ m, m = (lpE d.jobs n) := ⟨_, rfl⟩
  obtain ⟨q, hq⟩ : ∃ q, q = (machB d.jobs n) := ⟨_, rfl⟩
  rw [← hm, ← hq] at HC ⊢
  clear hm hq
  go_enter Tryz.func229, Tryz.ntmps229
  go_upto_region 1 with fail
  refine wp_at fun W0 hW0 => ?_
  have HB0 := Lib.hid (show Below w.heap.size w W0 by subst hW0; (repeat' first | exact Below.refl _ _ | assumption | refine Below.alloc ?_ ?_ _ | refine Below.setCell ?_ ?_ _ | refine Below.drew ?_ | (simp; done) | (simp; omega)))
  have HK0 := Lib.hid (show Blk W0 w.heap.size 30 #[.int .i64 d.rows.vars, .slice a1 d.rows.nums.length c1, .slice a2 d.rows.bnds.length c2, .slice a3 d.rows.gains.length c3, .slice a4 d.sizes.length c4, .slice a5 d.jobs.length c5, .slice a6 d.ways.length c6] by subst hW0; exact Blk.new _ _ _)
  clear hW0
  have d0 := HK0.out.cell 5 rfl
  go_wp2_with (go_at_call 24; refine (HC.out W0 HB0.out).mono ?_; rintro e w1 ⟨u, rfl, ho, hb1⟩)
  go_ret3
  exact ⟨rfl, HB0.out.trans (hb1.mono HB0.out.size)⟩
set_option maxHeartbeats 1000000 in
set_option maxRecDepth 4000 in
theorem cntSpan_any (v : Value) (d : DeskD) (n : Int) (w : World) (h : RdD w v d) :
    Calls Tryz.prog 229 #[v, .string ⟨#[115, 112, 97, 110]⟩, .int .i64 n] w fun e w' => e = .returned (.tuple #[.int .i64 (lsN d.jobs n), .bool (lsB d.jobs n), .bool true]) ∧ Below w.heap.size w w' := by
  obtain ⟨a1, c1, a2, c2, a3, c3, a4, c4, a5, c5, a6, c6, rfl⟩ := h.shape
  obtain ⟨p1, p2, p3, p4⟩ := h.parts
  have P1 := Lib.hid p1
  have P2 := Lib.hid p2
  have P3 := Lib.hid p3
  have P4 := Lib.hid p4
  have HC := Lib.hid (fun X (hb : Below w.heap.size w X) => lsI_any _ d.jobs n X (P3.out.up hb (Nat.le_refl _)))
  clear h p1 p2 p3 p4 P1 P2 P3 P4
  obtain ⟨m, hm⟩ : ∃ m, m = (lsN d.jobs n) := ⟨_, rfl⟩
  obtain ⟨q, hq⟩ : ∃ q, q = (lsB d.jobs n) := ⟨_, rfl⟩
  rw [← hm, ← hq] at HC ⊢
  clear hm hq
  go_enter Tryz.func229, Tryz.ntmps229
  go_upto_region 1 with fail
  refine wp_at fun W0 hW0 => ?_
  have HB0 := Lib.hid (show Below w.heap.size w W0 by subst hW0; (repeat' first | exact Below.refl _ _ | assumption | refine Below.alloc ?_ ?_ _ | refine Below.setCell ?_ ?_ _ | refine Below.drew ?_ | (simp; done) | (simp; omega)))
  have HK0 := Lib.hid (show Blk W0 w.heap.size 30 #[.int .i64 d.rows.vars, .slice a1 d.rows.nums.length c1, .slice a2 d.rows.bnds.length c2, .slice a3 d.rows.gains.length c3, .slice a4 d.sizes.length c4, .slice a5 d.jobs.length c5, .slice a6 d.ways.length c6] by subst hW0; exact Blk.new _ _ _)
  clear hW0
  have d0 := HK0.out.cell 5 rfl
  go_wp2_with (go_at_call 285; refine (HC.out W0 HB0.out).mono ?_; rintro e w1 ⟨rfl, hb1⟩)
  go_ret3
  exact ⟨rfl, HB0.out.trans (hb1.mono HB0.out.size)⟩
set_option maxHeartbeats 1000000 in
set_option maxRecDepth 4000 in
theorem cntNone_any (v : Value) (d : DeskD) (s : ByteArray) (n : Int) (w : World) (h : RdD w v d) (hFill : s ≠ kwFill) (hBins : s ≠ kwBins) (hLeast : s ≠ kwLeast) (hRaise : s ≠ kwRaise) (hList : s ≠ kwList) (hSpan : s ≠ kwSpan) :
    Calls Tryz.prog 229 #[v, .string s, .int .i64 n] w fun e w' => e = .returned (.tuple #[.int .i64 0, .bool false, .bool false]) ∧ Below w.heap.size w w' := by
  obtain ⟨a1, c1, a2, c2, a3, c3, a4, c4, a5, c5, a6, c6, rfl⟩ := h.shape
  have nFill := str_neL (a := #[102, 105, 108, 108]) (l := [102, 105, 108, 108]) hFill rfl
  have nBins := str_neL (a := #[98, 105, 110, 115]) (l := [98, 105, 110, 115]) hBins rfl
  have nLeast := str_neL (a := #[108, 101, 97, 115, 116]) (l := [108, 101, 97, 115, 116]) hLeast rfl
  have nRaise := str_neL (a := #[114, 97, 105, 115, 101]) (l := [114, 97, 105, 115, 101]) hRaise rfl
  have nList := str_neL (a := #[108, 105, 115, 116]) (l := [108, 105, 115, 116]) hList rfl
  have nSpan := str_neL (a := #[115, 112, 97, 110]) (l := [115, 112, 97, 110]) hSpan rfl
  clear h hFill hBins hLeast hRaise hList hSpan
  go_enter Tryz.func229, Tryz.ntmps229
  go_wp2_with fail
  go_ret3
  exact ⟨rfl, by (repeat' first | exact Below.refl _ _ | assumption | refine Below.alloc ?_ ?_ _ | refine Below.setCell ?_ ?_ _ | refine Below.drew ?_ | (simp; done) | (simp; omega))⟩
theorem count_any (v : Value) (d : DeskD) (s : ByteArray) (n : Int) (w : World) (h : RdD w v d) :
    Calls Tryz.prog 229 #[v, .string s, .int .i64 n] w fun e w' => e = .returned (.tuple #[.int .i64 (((countK d s n).map (fun p => p.1)).getD 0), .bool (((countK d s n).map (fun p => p.2)).getD false), .bool (countK d s n).isSome]) ∧ Below w.heap.size w w' := by
  unfold countK
  by_cases hFill : s = kwFill
  · rw [if_pos hFill]
    subst hFill
    exact cntFill_any v d n w h
  rw [if_neg hFill]
  by_cases hBins : s = kwBins
  · rw [if_pos hBins]
    subst hBins
    exact cntBins_any v d n w h
  rw [if_neg hBins]
  by_cases hLeast : s = kwLeast
  · rw [if_pos hLeast]
    subst hLeast
    exact cntLeast_any v d n w h
  rw [if_neg hLeast]
  by_cases hRaise : s = kwRaise
  · rw [if_pos hRaise]
    subst hRaise
    exact cntRaise_any v d n w h
  rw [if_neg hRaise]
  by_cases hList : s = kwList
  · rw [if_pos hList]
    subst hList
    exact cntList_any v d n w h
  rw [if_neg hList]
  by_cases hSpan : s = kwSpan
  · rw [if_pos hSpan]
    subst hSpan
    exact cntSpan_any v d n w h
  rw [if_neg hSpan]
  exact cntNone_any v d s n w h hFill hBins hLeast hRaise hList hSpan
end Go.Proofs.YtgkbbpajkbkgnaaGreatDoor

namespace Go.Proofs.YtgkbbpajkbkgnaaGreatDoor
open Go.RowKit
theorem own_fill4 {w : World} {base size : Nat} {e t : TypeId} {v : Value} {n : Nat} {vs : List Value} {g : Nat} {cs : Array Value} (ho : w.ownsRow base e size v n vs) (hb : Blk w g t cs) (hte : t ≠ e) (a b c d : Value) : (fill4 w g a b c d).ownsRow base e size v n vs := by
  have hn : v.ownBlock ≠ some g := hb.not_owned ho hte
  exact ownsRow_setCell_other (ownsRow_setCell_other (ownsRow_setCell_other (ownsRow_setCell_other ho hn _) hn _) hn _) hn _
theorem own_put {w : World} {base size : Nat} {e t : TypeId} {v : Value} {n : Nat} {vs : List Value} {g : Nat} {cs : Array Value} (ho : w.ownsRow base e size v n vs) (hb : Blk w g t cs) (hte : t ≠ e) (j : Nat) (u : Value) : (w.setCell ⟨g, j, none⟩ u).ownsRow base e size v n vs :=
  ownsRow_setCell_other ho (hb.not_owned ho hte) _
theorem kept_put {w w' : World} {bb : Nat} (h : Kept (· = bb) w w') (j : Nat) (u : Value) : Kept (· = bb) w (w'.setCell ⟨bb, j, none⟩ u) := h.setCell (p := ⟨bb, j, none⟩) (.inr rfl) u
theorem kept_fill {w w' : World} {bb : Nat} (h : Kept (· = bb) w w') (a b c d : Value) : Kept (· = bb) w (fill4 w' bb a b c d) := kept_put (kept_put (kept_put (kept_put h 0 a) 1 b) 2 c) 3 d
def OwnDx (lo : Nat) (w : World) (v : Value) (d : DeskD) : Prop := ∃ va vb vc vs vj vw, v = .agg #[.int .i64 d.rows.vars, va, vb, vc, vs, vj, vw] ∧ OwnR lo w.heap.size w (.agg #[.int .i64 d.rows.vars, va, vb, vc]) d.rows ∧ OwnI lo w.heap.size w vs d.sizes ∧ OwnJ lo w.heap.size w vj d.jobs ∧ OwnI lo w.heap.size w vw d.ways ∧ ∀ g, vs.ownBlock = some g → vw.ownBlock ≠ some g
def DskAt (lo : Nat) (w : World) (bb : Nat) (d : DeskD) : Prop := ∃ cs, Blk w bb 30 cs ∧ OwnDx lo w (.agg cs) d
theorem OwnDx.rd {lo : Nat} {w : World} {v : Value} {d : DeskD} (h : OwnDx lo w v d) : RdD w v d := by
  obtain ⟨va, vb, vc, vs, vj, vw, e, o1, o2, o3, o4, _⟩ := h
  exact ⟨va, vb, vc, vs, vj, vw, e, o1.rd, o2.rd, o3.rd, o4.rd⟩
theorem OwnDx.up {lo B : Nat} {w w' : World} {v : Value} {d : DeskD} (h : OwnDx lo w v d) (hb : Below B w w') (hB : w.heap.size ≤ B) : OwnDx lo w' v d := by
  obtain ⟨va, vb, vc, vs, vj, vw, e, o1, o2, o3, o4, dj⟩ := h
  exact ⟨va, vb, vc, vs, vj, vw, e, (o1.up hb hB).wide (Nat.le_refl _) hb.size, (o2.up hb hB).wide (Nat.le_refl _) hb.size, (o3.up hb hB).wide (Nat.le_refl _) hb.size, (o4.up hb hB).wide (Nat.le_refl _) hb.size, dj⟩
theorem OwnDx.wide {lo lo' : Nat} {w : World} {v : Value} {d : DeskD} (h : OwnDx lo w v d) (hl : lo' ≤ lo) : OwnDx lo' w v d := by
  obtain ⟨va, vb, vc, vs, vj, vw, e, o1, o2, o3, o4, dj⟩ := h
  exact ⟨va, vb, vc, vs, vj, vw, e, o1.wide hl (Nat.le_refl _), o2.wide hl (Nat.le_refl _), o3.wide hl (Nat.le_refl _), o4.wide hl (Nat.le_refl _), dj⟩
theorem OwnDx.put {lo : Nat} {w : World} {v : Value} {d : DeskD} (h : OwnDx lo w v d) {g : Nat} {t : TypeId} {cs : Array Value} (hb : Blk w g t cs) (h1 : t ≠ 100) (h2 : t ≠ 2) (h3 : t ≠ 86) (j : Nat) (u : Value) : OwnDx lo (w.setCell ⟨g, j, none⟩ u) v d := by
  obtain ⟨va, vb, vc, vs, vj, vw, e, ⟨wa, wb, wc, e2, f1, f2, f3, dd⟩, o2, o3, o4, dj⟩ := h
  have hz : (w.setCell ⟨g, j, none⟩ u).heap.size = w.heap.size := by simp [World.setCell]
  refine ⟨va, vb, vc, vs, vj, vw, e, ?_, ?_, ?_, ?_, dj⟩
  · rw [hz]; exact ⟨wa, wb, wc, e2, ⟨own_put f1.1 hb h1 _ _, f1.2⟩, ⟨own_put f2.1 hb h1 _ _, f2.2⟩, ⟨own_put f3.1 hb h1 _ _, f3.2⟩, dd⟩
  · rw [hz]; exact ⟨own_put o2.1 hb h2 _ _, o2.2⟩
  · rw [hz]; exact ⟨own_put o3.1 hb h3 _ _, o3.2⟩
  · rw [hz]; exact ⟨own_put o4.1 hb h2 _ _, o4.2⟩
theorem DskAt.up {lo B bb : Nat} {w w' : World} {d : DeskD} (h : DskAt lo w bb d) (hb : Below B w w') (hB : w.heap.size ≤ B) : DskAt lo w' bb d := by
  obtain ⟨cs, h1, h2⟩ := h
  exact ⟨cs, h1.below hb (by have := h1.lt; omega), h2.up hb hB⟩
theorem DskAt.wide {lo lo' bb : Nat} {w : World} {d : DeskD} (h : DskAt lo w bb d) (hl : lo' ≤ lo) : DskAt lo' w bb d := by
  obtain ⟨cs, h1, h2⟩ := h
  exact ⟨cs, h1, h2.wide hl⟩
theorem DskAt.shape {lo bb : Nat} {w : World} {d : DeskD} (h : DskAt lo w bb d) : ∃ a1 c1 a2 c2 a3 c3 a4 c4 a5 c5 a6 c6, Blk w bb 30 #[.int .i64 d.rows.vars, .slice a1 d.rows.nums.length c1, .slice a2 d.rows.bnds.length c2, .slice a3 d.rows.gains.length c3, .slice a4 d.sizes.length c4, .slice a5 d.jobs.length c5, .slice a6 d.ways.length c6] ∧ OwnDx lo w (.agg #[.int .i64 d.rows.vars, .slice a1 d.rows.nums.length c1, .slice a2 d.rows.bnds.length c2, .slice a3 d.rows.gains.length c3, .slice a4 d.sizes.length c4, .slice a5 d.jobs.length c5, .slice a6 d.ways.length c6]) d := by
  obtain ⟨cs, h1, h2⟩ := h
  obtain ⟨a1, c1, a2, c2, a3, c3, a4, c4, a5, c5, a6, c6, e⟩ := h2.rd.shape
  simp only [Value.agg.injEq] at e
  subst e
  exact ⟨a1, c1, a2, c2, a3, c3, a4, c4, a5, c5, a6, c6, h1, h2⟩
theorem DskAt.rows {lo bb : Nat} {w : World} {d : DeskD} (h : DskAt lo w bb d) {r : RowsD} {a b c : Value} (hr : OwnR lo w.heap.size w (.agg #[.int .i64 r.vars, a, b, c]) r) : DskAt lo (fill4 w bb (.int .i64 r.vars) a b c) bb { d with rows := r } := by
  obtain ⟨cs, hb, va, vb, vc, vs, vj, vw, e, o1, o2, o3, o4, dj⟩ := h
  simp only [Value.agg.injEq] at e
  subst e
  obtain ⟨wa, wb, wc, e2, f1, f2, f3, dd⟩ := hr
  have hz := fill_size w bb (.int .i64 r.vars) a b c
  refine ⟨#[.int .i64 r.vars, a, b, c, vs, vj, vw], ?_, a, b, c, vs, vj, vw, rfl, ?_, ?_, ?_, ?_, dj⟩
  · have := (((hb.set 0 (.int .i64 r.vars)).set 1 a).set 2 b).set 3 c
    simpa [fill4] using this
  · rw [hz]; exact ⟨wa, wb, wc, e2, ⟨own_fill4 f1.1 hb (by decide) _ _ _ _, f1.2⟩, ⟨own_fill4 f2.1 hb (by decide) _ _ _ _, f2.2⟩, ⟨own_fill4 f3.1 hb (by decide) _ _ _ _, f3.2⟩, dd⟩
  · rw [hz]; exact ⟨own_fill4 o2.1 hb (by decide) _ _ _ _, o2.2⟩
  · rw [hz]; exact ⟨own_fill4 o3.1 hb (by decide) _ _ _ _, o3.2⟩
  · rw [hz]; exact ⟨own_fill4 o4.1 hb (by decide) _ _ _ _, o4.2⟩
theorem dsk_put {lo bb : Nat} {w : World} {n : Int} {va vb vc vs vj vw vs' vj' vw' u : Value} {d' : DeskD} (j : Nat) (hb : Blk w bb 30 #[.int .i64 n, va, vb, vc, vs, vj, vw]) (hset : #[.int .i64 n, va, vb, vc, vs, vj, vw].setIfInBounds j u = #[.int .i64 d'.rows.vars, va, vb, vc, vs', vj', vw'])
    (o1 : OwnR lo w.heap.size w (.agg #[.int .i64 d'.rows.vars, va, vb, vc]) d'.rows) (o2 : OwnI lo w.heap.size w vs' d'.sizes) (o3 : OwnJ lo w.heap.size w vj' d'.jobs) (o4 : OwnI lo w.heap.size w vw' d'.ways) (dj : ∀ g, vs'.ownBlock = some g → vw'.ownBlock ≠ some g) : DskAt lo (w.setCell ⟨bb, j, none⟩ u) bb d' := by
  have h1 := hb.set j u
  rw [hset] at h1
  refine ⟨_, h1, ?_⟩
  have hx : OwnDx lo w (.agg #[.int .i64 d'.rows.vars, va, vb, vc, vs', vj', vw']) d' := ⟨_, _, _, _, _, _, rfl, o1, o2, o3, o4, dj⟩
  exact hx.put hb (by decide) (by decide) (by decide) j u
end Go.Proofs.YtgkbbpajkbkgnaaGreatDoor

namespace Go.Proofs.YtgkbbpajkbkgnaaGreatDoor
open Go.RowKit
theorem DskAt.parts {lo bb : Nat} {w : World} {d : DeskD} (h : DskAt lo w bb d) : ∃ va vb vc vs vj vw, Blk w bb 30 #[.int .i64 d.rows.vars, va, vb, vc, vs, vj, vw] ∧ OwnR lo w.heap.size w (.agg #[.int .i64 d.rows.vars, va, vb, vc]) d.rows ∧ OwnI lo w.heap.size w vs d.sizes ∧ OwnJ lo w.heap.size w vj d.jobs ∧ OwnI lo w.heap.size w vw d.ways ∧ ∀ g, vs.ownBlock = some g → vw.ownBlock ≠ some g := by
  obtain ⟨cs, hb, va, vb, vc, vs, vj, vw, e, o⟩ := h
  simp only [Value.agg.injEq] at e
  subst e
  exact ⟨va, vb, vc, vs, vj, vw, hb, o⟩
def SetPost (lo bb : Nat) (w : World) (d : DeskD) (ok found : Bool) (e : Ending) (w' : World) : Prop := e = .returned (.tuple #[.bool ok, .bool found]) ∧ DskAt lo w' bb d ∧ Kept (· = bb) w w'
set_option maxHeartbeats 1000000 in
set_option maxRecDepth 4000 in
theorem setRows_any (lo bb : Nat) (d : DeskD) (s : ByteArray) (w : World) (h : DskAt lo w bb d) (hlo : lo ≤ w.heap.size) (hp : HasPow w) (hm : HasMax w) (he : HasErrs w) (hs : s.size ≤ 1048576) :
    Calls Tryz.prog 227 #[.pointer (some ⟨bb, 0, none⟩), .string ⟨#[114, 111, 119, 115]⟩, .string s] w (SetPost lo bb w { d with rows := rdrV s } (rdrOk s) true) := by
  have HC := Lib.hid (readRowsI_any s w hp hm he hs)
  have HD := Lib.hid h
  obtain ⟨q, hq⟩ : ∃ q, q = rdrOk s := ⟨_, rfl⟩
  obtain ⟨y, hy⟩ : ∃ y, y = rdrV s := ⟨_, rfl⟩
  rw [← hq, ← hy] at HC ⊢
  clear h hp hm he hs hq hy
  go_enter Tryz.func227, Tryz.ntmps227
  go_wp2_with (go_at_call 30; refine HC.out.mono ?_; rintro e w1 ⟨v', rfl, ho, hb1⟩; obtain ⟨b1, e1, b2, e2, b3, e3, rfl⟩ := ho.rd.shape; have hD1 := HD.out.up hb1 (Nat.le_refl _); obtain ⟨va, vb, vc, vs, vj, vw, hB1, _⟩ := hD1.parts; have f0 := hB1.free 0; have f1 := hB1.free 1; have f2 := hB1.free 2; have f3 := hB1.free 3; have g0 := hB1.cell 0 rfl; have g1 := hB1.cell 1 rfl; have g2 := hB1.cell 2 rfl; have g3 := hB1.cell 3 rfl)
  go_ret2
  have hq1 := hD1.rows (ho.wide hlo (Nat.le_refl _))
  have hq2 := kept_fill (bb := bb) (Kept.of_below hb1 (Nat.le_refl _)) (.int .i64 y.vars) (.slice b1 y.nums.length e1) (.slice b2 y.bnds.length e2) (.slice b3 y.gains.length e3)
  unfold fill4 at hq1 hq2
  exact ⟨rfl, hq1, hq2⟩
set_option maxHeartbeats 1000000 in
set_option maxRecDepth 4000 in
theorem setSizes_any (lo bb : Nat) (d : DeskD) (s : ByteArray) (w : World) (h : DskAt lo w bb d) (hlo : lo ≤ w.heap.size) (hp : HasPow w) (hm : HasMax w) (he : HasErrs w) (hs : s.size ≤ 1048576) :
    Calls Tryz.prog 227 #[.pointer (some ⟨bb, 0, none⟩), .string ⟨#[115, 105, 122, 101, 115]⟩, .string s] w (SetPost lo bb w { d with sizes := rdV s } (listOk s) true) := by
  have HC := Lib.hid (ReadList_any s w hs hp hm he)
  have HD := Lib.hid h
  obtain ⟨q, hq⟩ : ∃ q, q = listOk s := ⟨_, rfl⟩
  obtain ⟨y, hy⟩ : ∃ y, y = rdV s := ⟨_, rfl⟩
  rw [← hq, ← hy] at HC ⊢
  clear h hp hm he hs hq hy
  have HW := Lib.hid (show ∀ va vb vc vs vj vw, Blk w bb 30 #[.int .i64 d.rows.vars, va, vb, vc, vs, vj, vw] → OwnI lo w.heap.size w vs d.sizes → OwnI lo w.heap.size w vw d.ways → True from fun _ _ _ _ _ _ _ _ _ => trivial)
  clear HW
  obtain ⟨ua, ub, uc, us, uj, uw, hB0, _, o2w, _, o4w, _⟩ := HD.out.parts
  have HB0 := Lib.hid hB0
  have O2W := Lib.hid o2w
  have O4W := Lib.hid o4w
  clear hB0 o2w o4w
  go_enter Tryz.func227, Tryz.ntmps227
  go_wp2_with (go_at_call 31; refine HC.out.mono ?_; rintro e w1 ⟨g1, k1, rfl, ho, hb1⟩; have hD1 := HD.out.up hb1 (Nat.le_refl _); obtain ⟨va, vb, vc, vs, vj, vw, hB1, o1, o2, o3, o4, dj⟩ := hD1.parts; have f0 := hB1.free 4; have g0 := hB1.cell 4 rfl)
  go_ret2
  have o2w := O2W.out
  have o4w := O4W.out
  have hBw := HB0.out.below hb1 HB0.out.lt
  have hE : #[Value.int .i64 d.rows.vars, ua, ub, uc, us, uj, uw] = #[Value.int .i64 d.rows.vars, va, vb, vc, vs, vj, vw] := by
    have h1 : w1.heap[bb]? = _ := hBw
    have h2 : w1.heap[bb]? = _ := hB1
    rw [h1] at h2
    simp only [Option.some.injEq, Obj.cells.injEq, and_true] at h2
    exact h2
  simp only [Array.mk.injEq, List.cons.injEq, and_true, true_and] at hE
  obtain ⟨rfl, rfl, rfl, rfl, rfl, rfl⟩ := hE
  refine ⟨rfl, ?_, kept_put (Kept.of_below hb1 (Nat.le_refl _)) _ _⟩
  exact dsk_put (d' := { d with sizes := y }) 4 hB1 rfl o1 (OwnI.wide (OwnI.mk (n := y.length) ho) hlo (Nat.le_refl _)) (o3) (o4) (fun g h1 h2 => by have := (ho.lt g h1).1; have := o4w.2 g h2; omega)
set_option maxHeartbeats 1000000 in
set_option maxRecDepth 4000 in
theorem setJobs_any (lo bb : Nat) (d : DeskD) (s : ByteArray) (w : World) (h : DskAt lo w bb d) (hlo : lo ≤ w.heap.size) (hp : HasPow w) (hm : HasMax w) (he : HasErrs w) (hs : s.size ≤ 1048576) :
    Calls Tryz.prog 227 #[.pointer (some ⟨bb, 0, none⟩), .string ⟨#[106, 111, 98, 115]⟩, .string s] w (SetPost lo bb w { d with jobs := rdjV s } (rdjOk s) true) := by
  have HC := Lib.hid (readJobsI_any s w hp hm he hs)
  have HD := Lib.hid h
  obtain ⟨q, hq⟩ : ∃ q, q = rdjOk s := ⟨_, rfl⟩
  obtain ⟨y, hy⟩ : ∃ y, y = rdjV s := ⟨_, rfl⟩
  rw [← hq, ← hy] at HC ⊢
  clear h hp hm he hs hq hy
  have HW := Lib.hid (show ∀ va vb vc vs vj vw, Blk w bb 30 #[.int .i64 d.rows.vars, va, vb, vc, vs, vj, vw] → OwnI lo w.heap.size w vs d.sizes → OwnI lo w.heap.size w vw d.ways → True from fun _ _ _ _ _ _ _ _ _ => trivial)
  clear HW
  obtain ⟨ua, ub, uc, us, uj, uw, hB0, _, o2w, _, o4w, _⟩ := HD.out.parts
  have HB0 := Lib.hid hB0
  have O2W := Lib.hid o2w
  have O4W := Lib.hid o4w
  clear hB0 o2w o4w
  go_enter Tryz.func227, Tryz.ntmps227
  go_wp2_with (go_at_call 32; refine HC.out.mono ?_; rintro e w1 ⟨v', rfl, ho, hb1⟩; obtain ⟨g1, k1, rfl⟩ := ho.rd.shape; have hD1 := HD.out.up hb1 (Nat.le_refl _); obtain ⟨va, vb, vc, vs, vj, vw, hB1, o1, o2, o3, o4, dj⟩ := hD1.parts; have f0 := hB1.free 5; have g0 := hB1.cell 5 rfl)
  go_ret2
  have o2w := O2W.out
  have o4w := O4W.out
  have hBw := HB0.out.below hb1 HB0.out.lt
  have hE : #[Value.int .i64 d.rows.vars, ua, ub, uc, us, uj, uw] = #[Value.int .i64 d.rows.vars, va, vb, vc, vs, vj, vw] := by
    have h1 : w1.heap[bb]? = _ := hBw
    have h2 : w1.heap[bb]? = _ := hB1
    rw [h1] at h2
    simp only [Option.some.injEq, Obj.cells.injEq, and_true] at h2
    exact h2
  simp only [Array.mk.injEq, List.cons.injEq, and_true, true_and] at hE
  obtain ⟨rfl, rfl, rfl, rfl, rfl, rfl⟩ := hE
  refine ⟨rfl, ?_, kept_put (Kept.of_below hb1 (Nat.le_refl _)) _ _⟩
  exact dsk_put (d' := { d with jobs := y }) 5 hB1 rfl o1 (o2) (OwnJ.wide ho hlo (Nat.le_refl _)) (o4) (dj)
set_option maxHeartbeats 1000000 in
set_option maxRecDepth 4000 in
theorem setWays_any (lo bb : Nat) (d : DeskD) (s : ByteArray) (w : World) (h : DskAt lo w bb d) (hlo : lo ≤ w.heap.size) (hp : HasPow w) (hm : HasMax w) (he : HasErrs w) (hs : s.size ≤ 1048576) :
    Calls Tryz.prog 227 #[.pointer (some ⟨bb, 0, none⟩), .string ⟨#[119, 97, 121, 115]⟩, .string s] w (SetPost lo bb w { d with ways := rdV s } (listOk s) true) := by
  have HC := Lib.hid (ReadList_any s w hs hp hm he)
  have HD := Lib.hid h
  obtain ⟨q, hq⟩ : ∃ q, q = listOk s := ⟨_, rfl⟩
  obtain ⟨y, hy⟩ : ∃ y, y = rdV s := ⟨_, rfl⟩
  rw [← hq, ← hy] at HC ⊢
  clear h hp hm he hs hq hy
  have HW := Lib.hid (show ∀ va vb vc vs vj vw, Blk w bb 30 #[.int .i64 d.rows.vars, va, vb, vc, vs, vj, vw] → OwnI lo w.heap.size w vs d.sizes → OwnI lo w.heap.size w vw d.ways → True from fun _ _ _ _ _ _ _ _ _ => trivial)
  clear HW
  obtain ⟨ua, ub, uc, us, uj, uw, hB0, _, o2w, _, o4w, _⟩ := HD.out.parts
  have HB0 := Lib.hid hB0
  have O2W := Lib.hid o2w
  have O4W := Lib.hid o4w
  clear hB0 o2w o4w
  go_enter Tryz.func227, Tryz.ntmps227
  go_wp2_with (go_at_call 31; refine HC.out.mono ?_; rintro e w1 ⟨g1, k1, rfl, ho, hb1⟩; have hD1 := HD.out.up hb1 (Nat.le_refl _); obtain ⟨va, vb, vc, vs, vj, vw, hB1, o1, o2, o3, o4, dj⟩ := hD1.parts; have f0 := hB1.free 6; have g0 := hB1.cell 6 rfl)
  go_ret2
  have o2w := O2W.out
  have o4w := O4W.out
  have hBw := HB0.out.below hb1 HB0.out.lt
  have hE : #[Value.int .i64 d.rows.vars, ua, ub, uc, us, uj, uw] = #[Value.int .i64 d.rows.vars, va, vb, vc, vs, vj, vw] := by
    have h1 : w1.heap[bb]? = _ := hBw
    have h2 : w1.heap[bb]? = _ := hB1
    rw [h1] at h2
    simp only [Option.some.injEq, Obj.cells.injEq, and_true] at h2
    exact h2
  simp only [Array.mk.injEq, List.cons.injEq, and_true, true_and] at hE
  obtain ⟨rfl, rfl, rfl, rfl, rfl, rfl⟩ := hE
  refine ⟨rfl, ?_, kept_put (Kept.of_below hb1 (Nat.le_refl _)) _ _⟩
  exact dsk_put (d' := { d with ways := y }) 6 hB1 rfl o1 (o2) (o3) (OwnI.wide (OwnI.mk (n := y.length) ho) hlo (Nat.le_refl _)) (fun g h1 h2 => by have := (ho.lt g h2).1; have := o2w.2 g h1; omega)
set_option maxHeartbeats 1000000 in
set_option maxRecDepth 4000 in
theorem setNone_any (bb : Nat) (s x : ByteArray) (w : World) (hRows : s ≠ kwRows) (hSizes : s ≠ kwSizes) (hJobs : s ≠ kwJobs) (hWays : s ≠ kwWays) :
    Calls Tryz.prog 227 #[.pointer (some ⟨bb, 0, none⟩), .string s, .string x] w fun e w' => e = .returned (.tuple #[.bool false, .bool false]) ∧ w = w' := by
  have nRows := str_neL (a := #[114, 111, 119, 115]) (l := [114, 111, 119, 115]) hRows rfl
  have nSizes := str_neL (a := #[115, 105, 122, 101, 115]) (l := [115, 105, 122, 101, 115]) hSizes rfl
  have nJobs := str_neL (a := #[106, 111, 98, 115]) (l := [106, 111, 98, 115]) hJobs rfl
  have nWays := str_neL (a := #[119, 97, 121, 115]) (l := [119, 97, 121, 115]) hWays rfl
  clear hRows hSizes hJobs hWays
  go_enter Tryz.func227, Tryz.ntmps227
  go_wp2_with fail
  go_ret2
  exact ⟨rfl, rfl⟩
theorem set_any (lo bb : Nat) (d : DeskD) (s x : ByteArray) (w : World) (h : DskAt lo w bb d) (hlo : lo ≤ w.heap.size) (hp : HasPow w) (hm : HasMax w) (he : HasErrs w) (hx : x.size ≤ 1048576) :
    Calls Tryz.prog 227 #[.pointer (some ⟨bb, 0, none⟩), .string s, .string x] w (SetPost lo bb w (((setK d s x).map (fun p => p.1)).getD d) (((setK d s x).map (fun p => p.2)).getD false) (setK d s x).isSome) := by
  unfold setK
  by_cases hRows : s = kwRows
  · rw [if_pos hRows]
    subst hRows
    exact setRows_any lo bb d x w h hlo hp hm he hx
  rw [if_neg hRows]
  by_cases hSizes : s = kwSizes
  · rw [if_pos hSizes]
    subst hSizes
    exact setSizes_any lo bb d x w h hlo hp hm he hx
  rw [if_neg hSizes]
  by_cases hJobs : s = kwJobs
  · rw [if_pos hJobs]
    subst hJobs
    exact setJobs_any lo bb d x w h hlo hp hm he hx
  rw [if_neg hJobs]
  by_cases hWays : s = kwWays
  · rw [if_pos hWays]
    subst hWays
    exact setWays_any lo bb d x w h hlo hp hm he hx
  rw [if_neg hWays]
  refine (setNone_any bb s x w hRows hSizes hJobs hWays).mono ?_
  rintro e w1 ⟨rfl, rfl⟩
  exact ⟨rfl, h, Kept.refl _ _⟩
theorem set_no (bb : Nat) (d : DeskD) (s x : ByteArray) (w : World) (h : setK d s x = none) :
    Calls Tryz.prog 227 #[.pointer (some ⟨bb, 0, none⟩), .string s, .string x] w fun e w' => e = .returned (.tuple #[.bool false, .bool false]) ∧ w = w' := by
  unfold setK at h
  by_cases hRows : s = kwRows
  · rw [if_pos hRows] at h; cases h
  rw [if_neg hRows] at h
  by_cases hSizes : s = kwSizes
  · rw [if_pos hSizes] at h; cases h
  rw [if_neg hSizes] at h
  by_cases hJobs : s = kwJobs
  · rw [if_pos hJobs] at h; cases h
  rw [if_neg hJobs] at h
  by_cases hWays : s = kwWays
  · rw [if_pos hWays] at h; cases h
  rw [if_neg hWays] at h
  exact setNone_any bb s x w hRows hSizes hJobs hWays
end Go.Proofs.YtgkbbpajkbkgnaaGreatDoor

namespace Go.Proofs.YtgkbbpajkbkgnaaGreatDoor
open Go.RowKit Go.Sort
def TwoPost (lo bb : Nat) (w : World) (r : DeskD × ByteArray × Bool × Bool) (e : Ending) (w' : World) : Prop := e = .returned (.tuple #[.string r.2.1, .bool r.2.2.1, .bool r.2.2.2]) ∧ DskAt lo w' bb r.1 ∧ Kept (· = bb) w w'
theorem count_yes {d : DeskD} {s : ByteArray} {n m : Int} {ok : Bool} {v : Value} {w : World} (h : RdD w v d) (e : countK d s n = some (m, ok)) :
    Calls Tryz.prog 229 #[v, .string s, .int .i64 n] w fun e w' => e = .returned (.tuple #[.int .i64 m, .bool ok, .bool true]) ∧ Below w.heap.size w w' := by
  have := count_any v d s n w h
  rw [e] at this
  exact this
theorem count_no {d : DeskD} {s : ByteArray} {n : Int} {v : Value} {w : World} (h : RdD w v d) (e : countK d s n = none) :
    Calls Tryz.prog 229 #[v, .string s, .int .i64 n] w fun e w' => e = .returned (.tuple #[.int .i64 0, .bool false, .bool false]) ∧ Below w.heap.size w w' := by
  have := count_any v d s n w h
  rw [e] at this
  exact this
set_option maxHeartbeats 1000000 in
set_option maxRecDepth 4000 in
theorem twoSet_any (lo bb : Nat) (d d' : DeskD) (s x : ByteArray) (ok : Bool) (w : World) (h : DskAt lo w bb d) (hlo : lo ≤ w.heap.size) (hp : HasPow w) (hm : HasMax w) (he : HasErrs w) (hx : x.size ≤ 1048576) (E : setK d s x = some (d', ok)) :
    Calls Tryz.prog 172 #[.pointer (some ⟨bb, 0, none⟩), .string s, .string x] w (TwoPost lo bb w (d', kwOk, ok, true)) := by
  have hc := set_any lo bb d s x w h hlo hp hm he hx
  rw [E] at hc
  have HC := Lib.hid (show Calls Tryz.prog 227 #[.pointer (some ⟨bb, 0, none⟩), .string s, .string x] w (SetPost lo bb w d' ok true) from hc)
  clear hc h hp hm he hx E
  go_enter Tryz.func172, Tryz.ntmps172
  go_wp2_with (go_at_call 227; refine HC.out.mono ?_; rintro e w1 ⟨rfl, hd1, hk1⟩)
  go_ret3
  exact ⟨rfl, hd1, hk1⟩
set_option maxHeartbeats 1000000 in
set_option maxRecDepth 4000 in
theorem twoDrop_any (lo bb : Nat) (d : DeskD) (x : ByteArray) (w : World) (h : DskAt lo w bb d) (hlo : lo ≤ w.heap.size) (hp : HasPow w) (he : HasErrs w) (hx : x.size ≤ 1048576) :
    Calls Tryz.prog 172 #[.pointer (some ⟨bb, 0, none⟩), .string ⟨#[100, 114, 111, 112]⟩, .string x] w (TwoPost lo bb w ({ d with rows := dropV d.rows (valN x) }, kwOk, dropOk d.rows (valN x) && valOk x, true)) := by
  have HS := Lib.hid (set_no bb d kwDrop x w (by unfold setK; rw [if_neg (by decide), if_neg (by decide), if_neg (by decide), if_neg (by decide)]))
  have HR := Lib.hid (ReadDecimal_any x w hx hp he)
  have HD := Lib.hid h
  obtain ⟨n, hn⟩ : ∃ n, n = valN x := ⟨_, rfl⟩
  obtain ⟨q, hq⟩ : ∃ q, q = valOk x := ⟨_, rfl⟩
  rw [← hn, ← hq] at HR ⊢
  obtain ⟨q2, hq2⟩ : ∃ q, q = dropOk d.rows n := ⟨_, rfl⟩
  have HDR := Lib.hid (fun (v : Value) (X : World) (hr : RdR X v d.rows) => dropI_any v d.rows n X hr)
  obtain ⟨y, hy⟩ : ∃ y, y = dropV d.rows n := ⟨_, rfl⟩
  rw [← hq2, ← hy] at HDR ⊢
  clear h hp he hx hn hq hq2 hy
  go_enter Tryz.func172, Tryz.ntmps172
  go_upto_region 5 with (first
    | (go_at_call 227; refine HS.out.mono ?_; rintro e w0 ⟨rfl, rfl⟩)
    | (go_at_call 84; refine HR.out.mono ?_; rintro e w1 ⟨rfl, hb1⟩))
  have HB1 := Lib.hid hb1
  have HD1 := Lib.hid (HD.out.up hb1 (Nat.le_refl _))
  obtain ⟨a1, c1, a2, c2, a3, c3, a4, c4, a5, c5, a6, c6, hblk, hown⟩ := HD1.out.shape
  have d0 := hblk.cell 0 rfl
  have d1 := hblk.cell 1 rfl
  have d2 := hblk.cell 2 rfl
  have d3 := hblk.cell 3 rfl
  have HRD := Lib.hid hown.rd.parts.1
  clear hb1 HS HR hown
  go_upto_region 7 with (go_at_call 228; refine (HDR.out _ _ HRD.out).mono ?_; rintro e w2 ⟨v', rfl, ho, hb2⟩; obtain ⟨b1, e1, b2, e2, b3, e3, rfl⟩ := ho.rd.shape)
  refine wp_at fun W3 hW3 => ?_
  have HB3 := Lib.hid (show Below w1.heap.size w1 W3 by subst hW3; exact hb2.alloc hb2.size _)
  have HK3 := Lib.hid (show Blk W3 w2.heap.size 26 #[.int .i64 y.vars, .slice b1 y.nums.length e1, .slice b2 y.bnds.length e2, .slice b3 y.gains.length e3] by subst hW3; exact Blk.new _ _ _)
  have HO3 := Lib.hid (show OwnR lo W3.heap.size W3 (.agg #[.int .i64 y.vars, .slice b1 y.nums.length e1, .slice b2 y.bnds.length e2, .slice b3 y.gains.length e3]) y by
    subst hW3
    exact (ho.up ((Below.refl w2.heap.size w2).alloc (Nat.le_refl _) _) (Nat.le_refl _)).wide (Nat.le_trans hlo HB1.out.size) ((Below.refl w2.heap.size w2).alloc (Nat.le_refl _) _).size)
  clear hW3 d0 d1 d2 d3 ho hb2 hblk
  have HD3 := Lib.hid (HD1.out.up HB3.out (Nat.le_refl _))
  obtain ⟨va, vb, vc, vs, vj, vw, hB3, _⟩ := HD3.out.parts
  have f0 := hB3.free 0
  have f1 := hB3.free 1
  have f2 := hB3.free 2
  have f3 := hB3.free 3
  have g0 := hB3.cell 0 rfl
  have g1 := hB3.cell 1 rfl
  have g2 := hB3.cell 2 rfl
  have g3 := hB3.cell 3 rfl
  have k0 := HK3.out.cell 0 rfl
  have k1 := HK3.out.cell 1 rfl
  have k2 := HK3.out.cell 2 rfl
  have k3 := HK3.out.cell 3 rfl
  go_wp2_with fail
  all_goals go_ret3
  all_goals (have hq1 := HD3.out.rows HO3.out; have hq2 := kept_fill (bb := bb) (Kept.of_below (HB1.out.trans (HB3.out.mono HB1.out.size)) (Nat.le_refl _)) (.int .i64 y.vars) (.slice b1 y.nums.length e1) (.slice b2 y.bnds.length e2) (.slice b3 y.gains.length e3); unfold fill4 at hq1 hq2; exact ⟨by simp [*], hq1, hq2⟩)
set_option maxHeartbeats 1000000 in
set_option maxRecDepth 4000 in
theorem twoCnt_any (lo bb : Nat) (d : DeskD) (s x : ByteArray) (m : Int) (ok f : Bool) (w : World) (h : DskAt lo w bb d) (hp : HasPow w) (he : HasErrs w) (hx : x.size ≤ 1048576) (hs : setK d s x = none) (hd : s ≠ kwDrop) (hmr : InZ m)
    (hc : ∀ v X, RdD X v d → Calls Tryz.prog 229 #[v, .string s, .int .i64 (valN x)] X fun e w' => e = .returned (.tuple #[.int .i64 m, .bool ok, .bool f]) ∧ Below X.heap.size X w') :
    Calls Tryz.prog 172 #[.pointer (some ⟨bb, 0, none⟩), .string s, .string x] w (TwoPost lo bb w (d, itoaB m, ok && valOk x, f)) := by
  have HS := Lib.hid (set_no bb d s x w hs)
  have HR := Lib.hid (ReadDecimal_any x w hx hp he)
  have HD := Lib.hid h
  have HC := Lib.hid hc
  have HPW := Lib.hid hp
  have HM := Lib.hid hmr
  obtain ⟨n, hn⟩ : ∃ n, n = valN x := ⟨_, rfl⟩
  obtain ⟨q, hq⟩ : ∃ q, q = valOk x := ⟨_, rfl⟩
  rw [← hn] at HR HC
  rw [← hq] at HR ⊢
  have nDrop := str_neL (a := #[100, 114, 111, 112]) (l := [100, 114, 111, 112]) hd rfl
  clear h hp he hx hn hq hs hd hc hmr
  go_enter Tryz.func172, Tryz.ntmps172
  go_upto_region 5 with (first
    | (go_at_call 227; refine HS.out.mono ?_; rintro e w0 ⟨rfl, rfl⟩)
    | (go_at_call 84; refine HR.out.mono ?_; rintro e w1 ⟨rfl, hb1⟩))
  have HB1 := Lib.hid hb1
  have HD1 := Lib.hid (HD.out.up hb1 (Nat.le_refl _))
  obtain ⟨a1, c1, a2, c2, a3, c3, a4, c4, a5, c5, a6, c6, hblk, hown⟩ := HD1.out.shape
  have d0 := hblk.cell 0 rfl
  have d1 := hblk.cell 1 rfl
  have d2 := hblk.cell 2 rfl
  have d3 := hblk.cell 3 rfl
  have d4 := hblk.cell 4 rfl
  have d5 := hblk.cell 5 rfl
  have d6 := hblk.cell 6 rfl
  have HRD := Lib.hid hown.rd
  clear hb1 HS HR hown
  go_wp2_with (first
    | (go_at_call 229; refine (HC.out _ _ HRD.out).mono ?_; rintro e w2 ⟨rfl, hb2⟩; have HB2 := Lib.hid (HB1.out.trans (hb2.mono HB1.out.size)))
    | (go_at_call 15; refine (DecimalZ_any _ HM.out.1 HM.out.2 w2 (HPW.out.up HB2.out (Nat.le_refl _))).mono ?_; rintro e w3 ⟨rfl, hb3⟩))
  all_goals go_ret3
  all_goals (have hb := HB2.out.trans (hb3.mono HB2.out.size); exact ⟨by simp [*], HD.out.up hb (Nat.le_refl _), Kept.of_below hb (Nat.le_refl _)⟩)
theorem two_any (lo bb : Nat) (d : DeskD) (s x : ByteArray) (w : World) (h : DskAt lo w bb d) (hlo : lo ≤ w.heap.size) (hp : HasPow w) (hm : HasMax w) (he : HasErrs w) (hx : x.size ≤ 1048576) :
    Calls Tryz.prog 172 #[.pointer (some ⟨bb, 0, none⟩), .string s, .string x] w (TwoPost lo bb w (twoK d s x)) := by
  unfold twoK
  cases E : setK d s x with
  | some p => obtain ⟨d', ok⟩ := p; exact twoSet_any lo bb d d' s x ok w h hlo hp hm he hx E
  | none =>
    dsimp only
    by_cases hd : s = kwDrop
    · rw [if_pos hd]
      subst hd
      exact twoDrop_any lo bb d x w h hlo hp he hx
    · rw [if_neg hd]
      cases E2 : countK d s (valN x) with
      | some p => obtain ⟨m, ok⟩ := p; exact twoCnt_any lo bb d s x m ok true w h hp he hx E hd (count_rng E2) fun v X hr => count_yes hr E2
      | none => exact twoCnt_any lo bb d s x 0 false false w h hp he hx E hd (by unfold InZ; omega) fun v X hr => count_no hr E2
end Go.Proofs.YtgkbbpajkbkgnaaGreatDoor
