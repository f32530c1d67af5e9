/-
  Rows of their own; rows if they are valid: by the program and by the reference.
-/
import Derived.Test.YtkcpncaedocdnaaAppF
import Derived.Test.YtkcpncaedocdnaaValidRS
namespace Go.Proofs.Ytkcpncaedocdnaa
open Go.RowKit

theorem boundR {v : Value} {r : RowsD} {w : World} (_h : RdR w v r) (hv : ValR r) : r.nums.length ≤ 64 ∧ r.bnds.length ≤ 8 ∧ r.gains.length ≤ 8 := by
  have h1 := hv.nl
  have h2 := mulR hv.v1 hv.v8 hv.b8
  have h3 := hv.gl
  have h4 := hv.v8
  have h5 := hv.b8
  omega

theorem ownRows_fin {w W Wl : World} {n0 : Int} {x1 x2 x3 : List Nat} {yA yB yC : Value} {lA hA lB hB lC hC : Nat} (hb : Below w.heap.size w W) (hbn : Below W.heap.size W Wl) (hsz : w.heap.size + 1 < W.heap.size)
    (oA : OwnF lA hA Wl yA x1) (oB : OwnF lB hB Wl yB x2) (oC : OwnF lC hC Wl yC x3) (gA : W.heap.size ≤ lA ∧ hA ≤ Wl.heap.size) (gB : W.heap.size ≤ lB ∧ hB ≤ Wl.heap.size) (gC : W.heap.size ≤ lC ∧ hC ≤ Wl.heap.size)
    (dAB : hA ≤ lB ∨ hB ≤ lA) (dAC : hA ≤ lC ∨ hC ≤ lA) (dBC : hB ≤ lC ∨ hC ≤ lB) :
    ∀ Wf, Kept (· = w.heap.size + 1) Wl Wf → Wf.heap.size = Wl.heap.size → OwnR w.heap.size Wf.heap.size Wf (.agg #[.int .i64 n0, yA, yB, yC]) ⟨n0, x1, x2, x3⟩ ∧ Below w.heap.size w Wf := by
  intro Wf hk hz
  have z1 := hb.size
  have z2 := hbn.size
  have k1 := (oA.kept hk (by intro b h1 h2 h3; omega)).wide (lo' := w.heap.size) (hi' := Wf.heap.size) (by omega) (by omega)
  have k2 := (oB.kept hk (by intro b h1 h2 h3; omega)).wide (lo' := w.heap.size) (hi' := Wf.heap.size) (by omega) (by omega)
  have k3 := (oC.kept hk (by intro b h1 h2 h3; omega)).wide (lo' := w.heap.size) (hi' := Wf.heap.size) (by omega) (by omega)
  have hbl : Below w.heap.size w Wl := hb.trans (hbn.mono hb.size)
  refine ⟨⟨_, _, _, rfl, k1, k2, k3, ?_, ?_, ?_⟩, hbl.trans (hk.toBelow hbl.size (by intro k h1 h2; omega))⟩
  · intro g q1 q2; have := oA.blk q1; have := oB.blk q2; omega
  · intro g q1 q2; have := oA.blk q1; have := oC.blk q2; omega
  · intro g q1 q2; have := oB.blk q1; have := oC.blk q2; omega

set_option maxHeartbeats 4000000 in
set_option maxRecDepth 4000 in
theorem ownRows_any (v : Value) (r : RowsD) (w : World) (h : RdR w v r) (hb : bulkR r ≤ 1048576) :
    Calls Try.prog 96 #[v] w fun e w' => ∃ v', e = .returned v' ∧ OwnR w.heap.size w'.heap.size w' v' r ∧ Below w.heap.size w w' := by
  obtain ⟨a1, c1, a2, c2, a3, c3, rfl⟩ := h.shape
  obtain ⟨p1, p2, p3⟩ := h.parts
  obtain ⟨n0, x1, x2, x3⟩ := r
  simp only [bulkR] at p1 p2 p3 hb ⊢
  have P1 := Lib.hid p1
  have P2 := Lib.hid p2
  have P3 := Lib.hid p3
  have L1 : Hid (x1.length ≤ 17592186044416) := by show x1.length ≤ _; omega
  have L2 : Hid (x2.length ≤ 17592186044416) := by show x2.length ≤ _; omega
  have L3 : Hid (x3.length ≤ 17592186044416) := by show x3.length ≤ _; omega
  clear h p1 p2 p3 hb
  go_enter Try.func96, Try.ntmps96
  go_wp2_with fail
  refine wp_at fun W hW => ?_
  have HB := Lib.hid (show Below w.heap.size w W by subst hW; (repeat' first | exact Below.refl _ _ | assumption | refine Below.alloc ?_ ?_ _ | refine Below.setCell ?_ ?_ _ | refine Below.drew ?_ | (simp; done) | (simp; omega)))
  have HK := Lib.hid (show Blk W w.heap.size 49 #[.int .i64 n0, .slice a1 x1.length c1, .slice a2 x2.length c2, .slice a3 x3.length c3] by subst hW; exact (Blk.new _ _ _).alloc _)
  have HL := Lib.hid (show Blk W (w.heap.size + 1) 49 #[.int .i64 0, .slice none 0 0, .slice none 0 0, .slice none 0 0] by subst hW; simpa using Blk.new (w.alloc (.cells #[.int .i64 n0, .slice a1 x1.length c1, .slice a2 x2.length c2, .slice a3 x3.length c3] 49)) 49 #[.int .i64 0, .slice none 0 0, .slice none 0 0, .slice none 0 0])
  clear hW
  have hl1 := HL.out.lt
  have Q1 := Lib.hid (P1.out.up HB.out (Nat.le_refl _))
  have Q2 := Lib.hid (P2.out.up HB.out (Nat.le_refl _))
  have Q3 := Lib.hid (P3.out.up HB.out (Nat.le_refl _))
  have HKEEP := Lib.hid (show ∀ X, Below W.heap.size W X → X.cell? ⟨w.heap.size, 0, none⟩ = some (.int .i64 n0) ∧ X.cell? ⟨w.heap.size, 1, none⟩ = some (.slice a1 x1.length c1) ∧ X.cell? ⟨w.heap.size, 2, none⟩ = some (.slice a2 x2.length c2) ∧ X.cell? ⟨w.heap.size, 3, none⟩ = some (.slice a3 x3.length c3) from fun X hb => by
    have k := HK.out.below hb HK.out.lt
    exact ⟨k.cell 0 rfl, k.cell 1 rfl, k.cell 2 rfl, k.cell 3 rfl⟩)
  go_region_held3 (fun X => X.cell? ⟨w.heap.size, 0, none⟩ = some (.int .i64 n0) ∧ X.cell? ⟨w.heap.size, 1, none⟩ = some (.slice a1 x1.length c1) ∧ X.cell? ⟨w.heap.size, 2, none⟩ = some (.slice a2 x2.length c2) ∧ X.cell? ⟨w.heap.size, 3, none⟩ = some (.slice a3 x3.length c3))
    (first | exact HKEEP.out _ hbn | (refine HKEEP.out _ ?_; (repeat' first | exact Below.refl _ _ | assumption | refine Below.alloc ?_ ?_ _ | refine Below.setCell ?_ ?_ _ | refine Below.drew ?_ | (simp; done) | (simp; omega)); done) | go_keep)
    (first
      | (go_at_call_of 141 a1; refine (copyF_any _ x1 _ (Q1.out.up (B := W.heap.size) (by first | exact hbn | (repeat' first | exact Below.refl _ _ | assumption | refine Below.alloc ?_ ?_ _ | refine Below.setCell ?_ ?_ _ | refine Below.drew ?_ | (simp; done) | (simp; omega))) (Nat.le_refl _)) L1.out).mono ?_; rintro e wA ⟨yA, rfl, oA, hA⟩; obtain ⟨bA, eA, rfl⟩ := oA.rd.shape; have zzA := (show Below W.heap.size W _ from (by first | exact hbn | (repeat' first | exact Below.refl _ _ | assumption | refine Below.alloc ?_ ?_ _ | refine Below.setCell ?_ ?_ _ | refine Below.drew ?_ | (simp; done) | (simp; omega)))).trans (hA.mono (show W.heap.size ≤ _ from (by first | exact hbn.size | (simp; done)))); have hbn := zzA; clear zzA; have zA := hA.size; have hl := HL.out.below hbn HL.out.lt; have t0 : wA.cell? ⟨w.heap.size + 1, 0, none⟩ = some (.int .i64 0) := hl.cell 0 rfl; have t1 : wA.cell? ⟨w.heap.size + 1, 1, none⟩ = some (.slice none 0 0) := hl.cell 1 rfl; have t2 : wA.cell? ⟨w.heap.size + 1, 2, none⟩ = some (.slice none 0 0) := hl.cell 2 rfl; have t3 : wA.cell? ⟨w.heap.size + 1, 3, none⟩ = some (.slice none 0 0) := hl.cell 3 rfl; have u0 := hl.free 0; have u1 := hl.free 1; have u2 := hl.free 2; have u3 := hl.free 3; clear hl)
      | (go_at_call_of 141 a2; refine (copyF_any _ x2 _ (Q2.out.up (B := W.heap.size) (by first | exact hbn | (repeat' first | exact Below.refl _ _ | assumption | refine Below.alloc ?_ ?_ _ | refine Below.setCell ?_ ?_ _ | refine Below.drew ?_ | (simp; done) | (simp; omega))) (Nat.le_refl _)) L2.out).mono ?_; rintro e wB ⟨yB, rfl, oB, hB⟩; obtain ⟨bB, eB, rfl⟩ := oB.rd.shape; have zzB := (show Below W.heap.size W _ from (by first | exact hbn | (repeat' first | exact Below.refl _ _ | assumption | refine Below.alloc ?_ ?_ _ | refine Below.setCell ?_ ?_ _ | refine Below.drew ?_ | (simp; done) | (simp; omega)))).trans (hB.mono (show W.heap.size ≤ _ from (by first | exact hbn.size | (simp; done)))); have hbn := zzB; clear zzB; have zB := hB.size; have hl := HL.out.below hbn HL.out.lt; have t0 : wB.cell? ⟨w.heap.size + 1, 0, none⟩ = some (.int .i64 0) := hl.cell 0 rfl; have t1 : wB.cell? ⟨w.heap.size + 1, 1, none⟩ = some (.slice none 0 0) := hl.cell 1 rfl; have t2 : wB.cell? ⟨w.heap.size + 1, 2, none⟩ = some (.slice none 0 0) := hl.cell 2 rfl; have t3 : wB.cell? ⟨w.heap.size + 1, 3, none⟩ = some (.slice none 0 0) := hl.cell 3 rfl; have u0 := hl.free 0; have u1 := hl.free 1; have u2 := hl.free 2; have u3 := hl.free 3; clear hl)
      | (go_at_call_of 141 a3; refine (copyF_any _ x3 _ (Q3.out.up (B := W.heap.size) (by first | exact hbn | (repeat' first | exact Below.refl _ _ | assumption | refine Below.alloc ?_ ?_ _ | refine Below.setCell ?_ ?_ _ | refine Below.drew ?_ | (simp; done) | (simp; omega))) (Nat.le_refl _)) L3.out).mono ?_; rintro e wC ⟨yC, rfl, oC, hC⟩; obtain ⟨bC, eC, rfl⟩ := oC.rd.shape; have zzC := (show Below W.heap.size W _ from (by first | exact hbn | (repeat' first | exact Below.refl _ _ | assumption | refine Below.alloc ?_ ?_ _ | refine Below.setCell ?_ ?_ _ | refine Below.drew ?_ | (simp; done) | (simp; omega)))).trans (hC.mono (show W.heap.size ≤ _ from (by first | exact hbn.size | (simp; done)))); have hbn := zzC; clear zzC; have zC := hC.size; have hl := HL.out.below hbn HL.out.lt; have t0 : wC.cell? ⟨w.heap.size + 1, 0, none⟩ = some (.int .i64 0) := hl.cell 0 rfl; have t1 : wC.cell? ⟨w.heap.size + 1, 1, none⟩ = some (.slice none 0 0) := hl.cell 1 rfl; have t2 : wC.cell? ⟨w.heap.size + 1, 2, none⟩ = some (.slice none 0 0) := hl.cell 2 rfl; have t3 : wC.cell? ⟨w.heap.size + 1, 3, none⟩ = some (.slice none 0 0) := hl.cell 3 rfl; have u0 := hl.free 0; have u1 := hl.free 1; have u2 := hl.free 2; have u3 := hl.free 3; clear hl))
  all_goals
    have zD : W.drew.heap.size = W.heap.size := rfl
    go_wp2_with fail
    refine bodyPost_ret (v := .agg #[.int .i64 n0, .slice bA x1.length eA, .slice bB x2.length eB, .slice bC x3.length eC]) (by simp [results, Try.results96, go_sem, *]) rfl ⟨_, rfl, ?_⟩
    refine ownRows_fin HB.out hbn hl1
      (by first | exact oA | exact oA.up hB (Nat.le_refl _) | exact oA.up hC (Nat.le_refl _) | exact (oA.up hB (Nat.le_refl _)).up hC (Nat.le_refl _) | exact (oA.up hC (Nat.le_refl _)).up hB (Nat.le_refl _))
      (by first | exact oB | exact oB.up hA (Nat.le_refl _) | exact oB.up hC (Nat.le_refl _) | exact (oB.up hA (Nat.le_refl _)).up hC (Nat.le_refl _) | exact (oB.up hC (Nat.le_refl _)).up hA (Nat.le_refl _))
      (by first | exact oC | exact oC.up hA (Nat.le_refl _) | exact oC.up hB (Nat.le_refl _) | exact (oC.up hA (Nat.le_refl _)).up hB (Nat.le_refl _) | exact (oC.up hB (Nat.le_refl _)).up hA (Nat.le_refl _))
      (by omega) (by omega) (by omega) (by omega) (by omega) (by omega) _ ?_ (by simp)
    repeat' first | exact Kept.refl _ _ | refine Kept.setCell ?_ (.inr (by simp)) _

def zeroR : RowsD := ⟨0, [], [], []⟩

set_option maxHeartbeats 1000000 in
theorem checked_any (v : Value) (r : RowsD) (w : World) (h : RdR w v r) :
    Calls Try.prog 97 #[v] w fun e w' => e = .returned (.tuple #[if validR r = true then v else .agg #[.int .i64 0, .slice none 0 0, .slice none 0 0, .slice none 0 0], .bool (validR r)]) ∧ Below w.heap.size w w' := by
  obtain ⟨a1, c1, a2, c2, a3, c3, rfl⟩ := h.shape
  obtain ⟨n0, x1, x2, x3⟩ := r
  simp only
  have HP := Lib.hid h
  clear h
  obtain ⟨V, hV⟩ : ∃ V : Value, V = if validR ⟨n0, x1, x2, x3⟩ = true then .agg #[.int .i64 n0, .slice a1 x1.length c1, .slice a2 x2.length c2, .slice a3 x3.length c3] else .agg #[.int .i64 0, .slice none 0 0, .slice none 0 0, .slice none 0 0] := ⟨_, rfl⟩
  rw [← hV]
  have HVV := Lib.hid hV
  clear hV
  go_enter Try.func97, Try.ntmps97
  go_wp2_with fail
  refine Calls.at fun W hW => ?_
  have HB := Lib.hid (show Below w.heap.size w W by subst hW; (repeat' first | exact Below.refl _ _ | assumption | refine Below.alloc ?_ ?_ _ | refine Below.setCell ?_ ?_ _ | refine Below.drew ?_ | (simp; done) | (simp; omega)))
  have HK := Lib.hid (show Blk W w.heap.size 49 #[.int .i64 n0, .slice a1 x1.length c1, .slice a2 x2.length c2, .slice a3 x3.length c3] by subst hW; exact (Blk.new _ _ _).alloc _)
  have HL := Lib.hid (show Blk W (w.heap.size + 1) 49 #[.int .i64 0, .slice none 0 0, .slice none 0 0, .slice none 0 0] by subst hW; simpa using Blk.new (w.alloc (.cells #[.int .i64 n0, .slice a1 x1.length c1, .slice a2 x2.length c2, .slice a3 x3.length c3] 49)) 49 #[.int .i64 0, .slice none 0 0, .slice none 0 0, .slice none 0 0])
  clear hW
  refine (ValidRows_any _ ⟨n0, x1, x2, x3⟩ W (HP.out.up HB.out (Nat.le_refl _))).mono ?_
  rintro e w1 ⟨rfl, hb1⟩
  have HB1 := Lib.hid (HB.out.trans (hb1.mono HB.out.size))
  have HK1 := Lib.hid (HK.out.below hb1 HK.out.lt)
  have HL1 := Lib.hid (HL.out.below hb1 HL.out.lt)
  clear hb1
  have d0 : w1.cell? ⟨w.heap.size, 0, none⟩ = some (.int .i64 n0) := HK1.out.cell 0 rfl
  have d1 : w1.cell? ⟨w.heap.size, 1, none⟩ = some (.slice a1 x1.length c1) := HK1.out.cell 1 rfl
  have d2 : w1.cell? ⟨w.heap.size, 2, none⟩ = some (.slice a2 x2.length c2) := HK1.out.cell 2 rfl
  have d3 : w1.cell? ⟨w.heap.size, 3, none⟩ = some (.slice a3 x3.length c3) := HK1.out.cell 3 rfl
  have e0 : w1.cell? ⟨w.heap.size + 1, 0, none⟩ = some (.int .i64 0) := HL1.out.cell 0 rfl
  have e1 : w1.cell? ⟨w.heap.size + 1, 1, none⟩ = some (.slice none 0 0) := HL1.out.cell 1 rfl
  have e2 : w1.cell? ⟨w.heap.size + 1, 2, none⟩ = some (.slice none 0 0) := HL1.out.cell 2 rfl
  have e3 : w1.cell? ⟨w.heap.size + 1, 3, none⟩ = some (.slice none 0 0) := HL1.out.cell 3 rfl
  have f0 := HL1.out.free 0
  have f1 := HL1.out.free 1
  have f2 := HL1.out.free 2
  have f3 := HL1.out.free 3
  have fin : ∀ Wf, Kept (· = w.heap.size + 1) w1 Wf → Below w.heap.size w Wf := fun Wf hk => HB1.out.trans (hk.toBelow HB1.out.size (by intro k h1 h2; omega))
  have FIN := Lib.hid fin
  clear fin
  by_cases hv : validR ⟨n0, x1, x2, x3⟩ = true
  · have HV := Lib.hid hv
    rw [hv]
    clear hv
    go_wp2_with fail
    refine bodyPost_ret (v := .tuple #[.agg #[.int .i64 n0, .slice a1 x1.length c1, .slice a2 x2.length c2, .slice a3 x3.length c3], .bool true]) (by simp [results, Try.results97, go_sem, *]) rfl ⟨by rw [HVV.out, HV.out]; rfl, FIN.out _ ?_⟩
    repeat' first | exact Kept.refl _ _ | refine Kept.setCell ?_ (.inr (by simp)) _
  · rw [Bool.not_eq_true] at hv
    have HV := Lib.hid hv
    rw [hv]
    clear hv
    go_wp2_with fail
    refine bodyPost_ret (v := .tuple #[.agg #[.int .i64 0, .slice none 0 0, .slice none 0 0, .slice none 0 0], .bool false]) (by simp [results, Try.results97, go_sem, *]) rfl ⟨by rw [HVV.out, HV.out]; rfl, FIN.out _ ?_⟩
    repeat' first | exact Kept.refl _ _ | refine Kept.setCell ?_ (.inr (by simp)) _

set_option maxHeartbeats 1000000 in
theorem l02Give_any (v : Value) (r : RowsD) (w : World) (h : RdR w v r) :
    Calls Try.prog 94 #[v] w fun e w' => e = .returned (.tuple #[if validR r = true then v else .agg #[.int .i64 0, .slice none 0 0, .slice none 0 0, .slice none 0 0], .bool (validR r)]) ∧ Below w.heap.size w w' := by
  obtain ⟨a1, c1, a2, c2, a3, c3, rfl⟩ := h.shape
  obtain ⟨n0, x1, x2, x3⟩ := r
  simp only
  have HP := Lib.hid h
  clear h
  obtain ⟨V, hV⟩ : ∃ V : Value, V = if validR ⟨n0, x1, x2, x3⟩ = true then .agg #[.int .i64 n0, .slice a1 x1.length c1, .slice a2 x2.length c2, .slice a3 x3.length c3] else .agg #[.int .i64 0, .slice none 0 0, .slice none 0 0, .slice none 0 0] := ⟨_, rfl⟩
  rw [← hV]
  have HVV := Lib.hid hV
  clear hV
  go_enter Try.func94, Try.ntmps94
  go_wp2_with fail
  refine Calls.at fun W hW => ?_
  have HB := Lib.hid (show Below w.heap.size w W by subst hW; (repeat' first | exact Below.refl _ _ | assumption | refine Below.alloc ?_ ?_ _ | refine Below.setCell ?_ ?_ _ | refine Below.drew ?_ | (simp; done) | (simp; omega)))
  have HK := Lib.hid (show Blk W w.heap.size 49 #[.int .i64 n0, .slice a1 x1.length c1, .slice a2 x2.length c2, .slice a3 x3.length c3] by subst hW; exact (Blk.new _ _ _).alloc _)
  have HL := Lib.hid (show Blk W (w.heap.size + 1) 49 #[.int .i64 0, .slice none 0 0, .slice none 0 0, .slice none 0 0] by subst hW; simpa using Blk.new (w.alloc (.cells #[.int .i64 n0, .slice a1 x1.length c1, .slice a2 x2.length c2, .slice a3 x3.length c3] 49)) 49 #[.int .i64 0, .slice none 0 0, .slice none 0 0, .slice none 0 0])
  clear hW
  refine (l02Is_any w.heap.size _ _ _ _ ⟨n0, x1, x2, x3⟩ W HK.out (HP.out.up HB.out (Nat.le_refl _))).mono ?_
  rintro e w1 ⟨rfl, hd1⟩
  have hb1 : Below W.heap.size W w1 := by obtain ⟨m, rfl⟩ := hd1; exact below_drewN (Below.refl _ _) _
  have HB1 := Lib.hid (HB.out.trans (hb1.mono HB.out.size))
  have HK1 := Lib.hid (HK.out.below hb1 HK.out.lt)
  have HL1 := Lib.hid (HL.out.below hb1 HL.out.lt)
  clear hb1 hd1
  have d0 : w1.cell? ⟨w.heap.size, 0, none⟩ = some (.int .i64 n0) := HK1.out.cell 0 rfl
  have d1 : w1.cell? ⟨w.heap.size, 1, none⟩ = some (.slice a1 x1.length c1) := HK1.out.cell 1 rfl
  have d2 : w1.cell? ⟨w.heap.size, 2, none⟩ = some (.slice a2 x2.length c2) := HK1.out.cell 2 rfl
  have d3 : w1.cell? ⟨w.heap.size, 3, none⟩ = some (.slice a3 x3.length c3) := HK1.out.cell 3 rfl
  have e0 : w1.cell? ⟨w.heap.size + 1, 0, none⟩ = some (.int .i64 0) := HL1.out.cell 0 rfl
  have e1 : w1.cell? ⟨w.heap.size + 1, 1, none⟩ = some (.slice none 0 0) := HL1.out.cell 1 rfl
  have e2 : w1.cell? ⟨w.heap.size + 1, 2, none⟩ = some (.slice none 0 0) := HL1.out.cell 2 rfl
  have e3 : w1.cell? ⟨w.heap.size + 1, 3, none⟩ = some (.slice none 0 0) := HL1.out.cell 3 rfl
  have f0 := HL1.out.free 0
  have f1 := HL1.out.free 1
  have f2 := HL1.out.free 2
  have f3 := HL1.out.free 3
  have fin : ∀ Wf, Kept (· = w.heap.size + 1) w1 Wf → Below w.heap.size w Wf := fun Wf hk => HB1.out.trans (hk.toBelow HB1.out.size (by intro k h1 h2; omega))
  have FIN := Lib.hid fin
  clear fin
  by_cases hv : validR ⟨n0, x1, x2, x3⟩ = true
  · have HV := Lib.hid hv
    rw [hv]
    clear hv
    go_wp2_with fail
    refine bodyPost_ret (v := .tuple #[.agg #[.int .i64 n0, .slice a1 x1.length c1, .slice a2 x2.length c2, .slice a3 x3.length c3], .bool true]) (by simp [results, Try.results94, go_sem, *]) rfl ⟨by rw [HVV.out, HV.out]; rfl, FIN.out _ ?_⟩
    repeat' first | exact Kept.refl _ _ | refine Kept.setCell ?_ (.inr (by simp)) _
  · rw [Bool.not_eq_true] at hv
    have HV := Lib.hid hv
    rw [hv]
    clear hv
    go_wp2_with fail
    refine bodyPost_ret (v := .tuple #[.agg #[.int .i64 0, .slice none 0 0, .slice none 0 0, .slice none 0 0], .bool false]) (by simp [results, Try.results94, go_sem, *]) rfl ⟨by rw [HVV.out, HV.out]; rfl, FIN.out _ ?_⟩
    repeat' first | exact Kept.refl _ _ | refine Kept.setCell ?_ (.inr (by simp)) _

end Go.Proofs.Ytkcpncaedocdnaa
