/-
  FnExactToSimplex: texts joined: LeftS, OwnRows, OwnSpec, AddRow.
-/
import Derived.Deep.RegionLaw
import Derived.Deep.AppendLies
import Derived.Maps.AppendAt
import Derived.Test.YtkkcgclliomocaaMEToSimplexAD
import Derived.Test.YtkkcgclliomocaaMEToSimplexAE
namespace Go.Proofs.Ytkkcgclliomocaa
open Go.RowKit

set_option maxHeartbeats 2000000 in
theorem specRow_any (bb : Nat) (v0 v1 v2 v3 : Value) (r : RowsD) (i : Nat) (w : World) (hk : Blk w bb 50 #[v0, v1, v2, v3]) (h : RdR w (.agg #[v0, v1, v2, v3]) r) (hv : ValR r) (hi : i < r.bnds.length) :
    Calls Try.prog 73 #[.pointer (some ⟨bb, 0, none⟩), .int .i64 i] w fun e w' => ∃ a c, e = .returned (.slice a r.gains.length c) ∧ RdF w (.slice a r.gains.length c) (rowO r i) ∧ ∃ m, w' = w.drewN m := by
  obtain ⟨a1, c1, a2, c2, a3, c3, e⟩ := h.shape
  simp only [Value.agg.injEq, Array.mk.injEq, List.cons.injEq, and_true] at e
  obtain ⟨rfl, rfl, rfl, rfl⟩ := e
  obtain ⟨p1, p2, p3⟩ := h.parts
  have hlen := rowO_len hv hi
  have hb8 := hv.b8
  have hv8 := hv.v8
  have hv1 := hv.v1
  have hgl := hv.gl
  have hnl := hv.nl
  have l1 := p1.len
  obtain ⟨n0, x1, x2, x3⟩ := r
  simp only at p1 p2 p3 hlen hb8 hv8 hv1 hgl hnl hi l1 hk ⊢
  unfold maxLen at l1
  obtain rfl := hgl
  obtain ⟨V, hV⟩ : ∃ V, V = x3.length := ⟨_, rfl⟩
  have hnl2 : x1.length = V * x2.length := by rw [hV]; exact_mod_cast hnl
  obtain ⟨m, hm⟩ : ∃ m, m = i * V := ⟨_, rfl⟩
  have hmm : m + V ≤ x1.length := by
    rw [hm, hnl2, Nat.mul_comm V, ← Nat.succ_mul]
    exact Nat.mul_le_mul_right _ hi
  have hx64 : x1.length ≤ 64 := by rw [hnl2]; exact Nat.le_trans (Nat.mul_le_mul (by omega) hb8) (by decide : 8 * 8 ≤ 64)
  have e1 : (i : Int) * (V : Int) = (m : Int) := by rw [hm]; push_cast; rfl
  have e2 : ((i : Int) + 1) * (V : Int) = (m : Int) + (V : Int) := by rw [Int.add_mul, e1, Int.one_mul]
  have P1 := Lib.hid p1
  have hnz : 0 < x1.length := by omega
  obtain ⟨b, off, rfl, hb0, _⟩ := p1.at hnz
  have hc1 : x1.length ≤ c1 ∧ c1 ≤ maxLen := by
    rcases p1 with ⟨e, _⟩ | ⟨ad, cap', e, q1, q2, _⟩
    · cases e
    · simp only [Value.slice.injEq] at e
      obtain ⟨_, _, rfl⟩ := e
      simpa using And.intro q1 q2
  obtain ⟨hc1a, hc1b⟩ := hc1
  have HC := Lib.hid hc1b
  unfold maxLen at hc1b
  have HV := Lib.hid hV
  have HM := Lib.hid hm
  have hp := Lib.hid (rdF_piece P1.out m V hmm (c1 - m) (by omega) (by have := HC.out; omega))
  rw [← hV] at hv8 hv1 hk ⊢
  have hi8 : i < 8 := by omega
  have d0 : w.cell? ⟨bb, 0, none⟩ = some (.int .i64 V) := hk.cell 0 rfl
  have d1 : w.cell? ⟨bb, 1, none⟩ = some (.slice (some ⟨b, off, none⟩) x1.length c1) := hk.cell 1 rfl
  have w1 : IntKind.i64.wrap ((i : Int) * (V : Int)) = (m : Int) := by rw [e1]; exact IntWalk.i64_in _ (by omega)
  have w2 : IntKind.i64.wrap (((i : Int) + 1) * (V : Int)) = (m : Int) + (V : Int) := by rw [e2]; exact IntWalk.i64_in _ (by omega)
  have w3 : IntKind.i64.wrap ((i : Int) + 1) = (i : Int) + 1 := IntWalk.i64_in _ (by omega)
  have g1 : (0 : Int) ≤ (m : Int) := by omega
  have g2 : (m : Int) ≤ (m : Int) + (V : Int) := by omega
  have g3 : (m : Int) + (V : Int) ≤ (c1 : Int) := by omega
  have g4 : ((m : Int) + (V : Int)).toNat = m + V := by omega
  clear h p1 p2 p3 hlen hnl hnl2 hm hV hk e1 e2
  go_enter Try.func73, Try.ntmps73
  go_wp2_with fail
  go_quiet (fail)
  clear w1 w2 w3 g4
  go_wp2_with fail
  go_ret
  simp
  refine ⟨_, _, ⟨rfl, rfl⟩, ?_, nq, rfl⟩
  unfold rowO
  simp only
  rw [← HV.out, ← HM.out]
  exact hp.out

theorem l02List_any (v : Value) (xs : List Nat) (w : World) (h : RdF w v xs) :
    Calls Try.prog 83 #[v] w fun e w' => e = .returned (.tuple #[if allFin xs = true then v else .slice none 0 0, .bool (allFin xs)]) ∧ ∃ m, w' = w.drewN m := by
  obtain ⟨a, c, rfl⟩ := h.shape
  obtain ⟨q, hq⟩ : ∃ q, q = allFin xs := ⟨_, rfl⟩
  have HC := Lib.hid (l02Finite_any _ xs w h)
  rw [← hq] at HC ⊢
  clear hq h
  cases q
  all_goals
    go_enter Try.func83, Try.ntmps83
    go_wp2_with fail
    refine HC.out.mono ?_
    rintro e w1 ⟨rfl, m1, rfl⟩
    go_wp2_with fail
    go_ret2
    exact ⟨rfl, _, rfl⟩

/-- A difference, a number or a NaN that the tape names. -/
def subV (x y : Nat) (w : World) : Nat := match Ieee.single.sub x y with
  | some r => r
  | none => tape32 (.nanBits .f32 x y) w
def subD (x y : Nat) : Nat := match Ieee.single.sub x y with
  | some _ => 0
  | none => 1
theorem run_sub_all {P : Program} (t : TypeId) (x y : Nat) (w : World) : (binOp .sub t (.float .f32 x) (.float .f32 y)).run P w = .ok (.float .f32 (subV x y w)) (w.drewN (subD x y)) := by
  unfold subV subD
  cases h : Ieee.single.sub x y with
  | some r => exact run_sub_some t x y r h w
  | none => exact run_sub_none t x y h w
theorem left_all' {r : RowsD} {x : List Nat} {i s : Nat} {y : Nat} (hy : y = r.bnds.getD i 0) (h : Mt (dotO (rowO r i) x r.gains.length) s) (w : World) : Mt (leftO r x i) (subV y s w) := by
  subst hy
  unfold subV
  cases hq : Ieee.single.sub (r.bnds.getD i 0) s with
  | some q => exact left_some h hq
  | none => exact left_none h hq _ (tape32_nan _ _ _)

theorem slcF_oneB (w : World) (z b : Nat) (hb : b = w.heap.size) : Slc (w.alloc (.cells #[.float .f32 z] 98)) (.slice (some ⟨b, 0, none⟩) 1 1) ([z].map F32) := by subst hb; exact slcF_one w z

end Go.Proofs.Ytkkcgclliomocaa

namespace Go.Proofs.Ytkkcgclliomocaa
open Go.RowKit

theorem boundR {v : Value} {r : RowsD} {w : World} (_h : RdR w v r) (hv : ValR r) : r.nums.length ≤ 64 ∧ r.bnds.length ≤ 8 ∧ r.gains.length ≤ 8 := by
  have h1 := hv.nl
  have h2 := mulR hv.v1 hv.v8 hv.b8
  have h3 := hv.gl
  have h4 := hv.v8
  have h5 := hv.b8
  omega

theorem ownRows_fin {w W Wl : World} {n0 : Int} {x1 x2 x3 : List Nat} {yA yB yC : Value} {lA hA lB hB lC hC : Nat} (hb : Below w.heap.size w W) (hbn : Below W.heap.size W Wl) (hsz : w.heap.size + 1 < W.heap.size)
    (oA : OwnF lA hA Wl yA x1) (oB : OwnF lB hB Wl yB x2) (oC : OwnF lC hC Wl yC x3) (gA : W.heap.size ≤ lA ∧ hA ≤ Wl.heap.size) (gB : W.heap.size ≤ lB ∧ hB ≤ Wl.heap.size) (gC : W.heap.size ≤ lC ∧ hC ≤ Wl.heap.size)
    (dAB : hA ≤ lB ∨ hB ≤ lA) (dAC : hA ≤ lC ∨ hC ≤ lA) (dBC : hB ≤ lC ∨ hC ≤ lB) :
    ∀ Wf, Kept (· = w.heap.size + 1) Wl Wf → Wf.heap.size = Wl.heap.size → OwnR w.heap.size Wf.heap.size Wf (.agg #[.int .i64 n0, yA, yB, yC]) ⟨n0, x1, x2, x3⟩ ∧ Below w.heap.size w Wf := by
  intro Wf hk hz
  have z1 := hb.size
  have z2 := hbn.size
  have k1 := (oA.kept hk (by intro b h1 h2 h3; omega)).wide (lo' := w.heap.size) (hi' := Wf.heap.size) (by omega) (by omega)
  have k2 := (oB.kept hk (by intro b h1 h2 h3; omega)).wide (lo' := w.heap.size) (hi' := Wf.heap.size) (by omega) (by omega)
  have k3 := (oC.kept hk (by intro b h1 h2 h3; omega)).wide (lo' := w.heap.size) (hi' := Wf.heap.size) (by omega) (by omega)
  have hbl : Below w.heap.size w Wl := hb.trans (hbn.mono hb.size)
  refine ⟨⟨_, _, _, rfl, k1, k2, k3, ?_, ?_, ?_⟩, hbl.trans (hk.toBelow hbl.size (by intro k h1 h2; omega))⟩
  · intro g q1 q2; have := oA.blk q1; have := oB.blk q2; omega
  · intro g q1 q2; have := oA.blk q1; have := oC.blk q2; omega
  · intro g q1 q2; have := oB.blk q1; have := oC.blk q2; omega

set_option maxHeartbeats 4000000 in
set_option maxRecDepth 4000 in
theorem ownRows_any (v : Value) (r : RowsD) (w : World) (h : RdR w v r) (hb : bulkR r ≤ 1048576) :
    Calls Try.prog 77 #[v] w fun e w' => ∃ v', e = .returned v' ∧ OwnR w.heap.size w'.heap.size w' v' r ∧ Below w.heap.size w w' := by
  obtain ⟨a1, c1, a2, c2, a3, c3, rfl⟩ := h.shape
  obtain ⟨p1, p2, p3⟩ := h.parts
  obtain ⟨n0, x1, x2, x3⟩ := r
  simp only [bulkR] at p1 p2 p3 hb ⊢
  have P1 := Lib.hid p1
  have P2 := Lib.hid p2
  have P3 := Lib.hid p3
  have L1 : Hid (x1.length ≤ 17592186044416) := by show x1.length ≤ _; omega
  have L2 : Hid (x2.length ≤ 17592186044416) := by show x2.length ≤ _; omega
  have L3 : Hid (x3.length ≤ 17592186044416) := by show x3.length ≤ _; omega
  clear h p1 p2 p3 hb
  go_enter Try.func77, Try.ntmps77
  go_wp2_with fail
  refine wp_at fun W hW => ?_
  have HB := Lib.hid (show Below w.heap.size w W by subst hW; (repeat' first | exact Below.refl _ _ | assumption | refine Below.alloc ?_ ?_ _ | refine Below.setCell ?_ ?_ _ | refine Below.drew ?_ | (simp; done) | (simp; omega)))
  have HK := Lib.hid (show Blk W w.heap.size 50 #[.int .i64 n0, .slice a1 x1.length c1, .slice a2 x2.length c2, .slice a3 x3.length c3] by subst hW; exact (Blk.new _ _ _).alloc _)
  have HL := Lib.hid (show Blk W (w.heap.size + 1) 50 #[.int .i64 0, .slice none 0 0, .slice none 0 0, .slice none 0 0] by subst hW; simpa using Blk.new (w.alloc (.cells #[.int .i64 n0, .slice a1 x1.length c1, .slice a2 x2.length c2, .slice a3 x3.length c3] 50)) 50 #[.int .i64 0, .slice none 0 0, .slice none 0 0, .slice none 0 0])
  clear hW
  have hl1 := HL.out.lt
  have Q1 := Lib.hid (P1.out.up HB.out (Nat.le_refl _))
  have Q2 := Lib.hid (P2.out.up HB.out (Nat.le_refl _))
  have Q3 := Lib.hid (P3.out.up HB.out (Nat.le_refl _))
  have HKEEP := Lib.hid (show ∀ X, Below W.heap.size W X → X.cell? ⟨w.heap.size, 0, none⟩ = some (.int .i64 n0) ∧ X.cell? ⟨w.heap.size, 1, none⟩ = some (.slice a1 x1.length c1) ∧ X.cell? ⟨w.heap.size, 2, none⟩ = some (.slice a2 x2.length c2) ∧ X.cell? ⟨w.heap.size, 3, none⟩ = some (.slice a3 x3.length c3) from fun X hb => by
    have k := HK.out.below hb HK.out.lt
    exact ⟨k.cell 0 rfl, k.cell 1 rfl, k.cell 2 rfl, k.cell 3 rfl⟩)
  go_region_held3 (fun X => X.cell? ⟨w.heap.size, 0, none⟩ = some (.int .i64 n0) ∧ X.cell? ⟨w.heap.size, 1, none⟩ = some (.slice a1 x1.length c1) ∧ X.cell? ⟨w.heap.size, 2, none⟩ = some (.slice a2 x2.length c2) ∧ X.cell? ⟨w.heap.size, 3, none⟩ = some (.slice a3 x3.length c3))
    (first | exact HKEEP.out _ hbn | (refine HKEEP.out _ ?_; (repeat' first | exact Below.refl _ _ | assumption | refine Below.alloc ?_ ?_ _ | refine Below.setCell ?_ ?_ _ | refine Below.drew ?_ | (simp; done) | (simp; omega)); done) | go_keep)
    (first
      | (go_at_call_of 85 a1; refine (copyF_any _ x1 _ (Q1.out.up (B := W.heap.size) (by first | exact hbn | (repeat' first | exact Below.refl _ _ | assumption | refine Below.alloc ?_ ?_ _ | refine Below.setCell ?_ ?_ _ | refine Below.drew ?_ | (simp; done) | (simp; omega))) (Nat.le_refl _)) L1.out).mono ?_; rintro e wA ⟨yA, rfl, oA, hA⟩; obtain ⟨bA, eA, rfl⟩ := oA.rd.shape; have zzA := (show Below W.heap.size W _ from (by first | exact hbn | (repeat' first | exact Below.refl _ _ | assumption | refine Below.alloc ?_ ?_ _ | refine Below.setCell ?_ ?_ _ | refine Below.drew ?_ | (simp; done) | (simp; omega)))).trans (hA.mono (show W.heap.size ≤ _ from (by first | exact hbn.size | (simp; done)))); have hbn := zzA; clear zzA; have zA := hA.size; have hl := HL.out.below hbn HL.out.lt; have t0 : wA.cell? ⟨w.heap.size + 1, 0, none⟩ = some (.int .i64 0) := hl.cell 0 rfl; have t1 : wA.cell? ⟨w.heap.size + 1, 1, none⟩ = some (.slice none 0 0) := hl.cell 1 rfl; have t2 : wA.cell? ⟨w.heap.size + 1, 2, none⟩ = some (.slice none 0 0) := hl.cell 2 rfl; have t3 : wA.cell? ⟨w.heap.size + 1, 3, none⟩ = some (.slice none 0 0) := hl.cell 3 rfl; have u0 := hl.free 0; have u1 := hl.free 1; have u2 := hl.free 2; have u3 := hl.free 3; clear hl)
      | (go_at_call_of 85 a2; refine (copyF_any _ x2 _ (Q2.out.up (B := W.heap.size) (by first | exact hbn | (repeat' first | exact Below.refl _ _ | assumption | refine Below.alloc ?_ ?_ _ | refine Below.setCell ?_ ?_ _ | refine Below.drew ?_ | (simp; done) | (simp; omega))) (Nat.le_refl _)) L2.out).mono ?_; rintro e wB ⟨yB, rfl, oB, hB⟩; obtain ⟨bB, eB, rfl⟩ := oB.rd.shape; have zzB := (show Below W.heap.size W _ from (by first | exact hbn | (repeat' first | exact Below.refl _ _ | assumption | refine Below.alloc ?_ ?_ _ | refine Below.setCell ?_ ?_ _ | refine Below.drew ?_ | (simp; done) | (simp; omega)))).trans (hB.mono (show W.heap.size ≤ _ from (by first | exact hbn.size | (simp; done)))); have hbn := zzB; clear zzB; have zB := hB.size; have hl := HL.out.below hbn HL.out.lt; have t0 : wB.cell? ⟨w.heap.size + 1, 0, none⟩ = some (.int .i64 0) := hl.cell 0 rfl; have t1 : wB.cell? ⟨w.heap.size + 1, 1, none⟩ = some (.slice none 0 0) := hl.cell 1 rfl; have t2 : wB.cell? ⟨w.heap.size + 1, 2, none⟩ = some (.slice none 0 0) := hl.cell 2 rfl; have t3 : wB.cell? ⟨w.heap.size + 1, 3, none⟩ = some (.slice none 0 0) := hl.cell 3 rfl; have u0 := hl.free 0; have u1 := hl.free 1; have u2 := hl.free 2; have u3 := hl.free 3; clear hl)
      | (go_at_call_of 85 a3; refine (copyF_any _ x3 _ (Q3.out.up (B := W.heap.size) (by first | exact hbn | (repeat' first | exact Below.refl _ _ | assumption | refine Below.alloc ?_ ?_ _ | refine Below.setCell ?_ ?_ _ | refine Below.drew ?_ | (simp; done) | (simp; omega))) (Nat.le_refl _)) L3.out).mono ?_; rintro e wC ⟨yC, rfl, oC, hC⟩; obtain ⟨bC, eC, rfl⟩ := oC.rd.shape; have zzC := (show Below W.heap.size W _ from (by first | exact hbn | (repeat' first | exact Below.refl _ _ | assumption | refine Below.alloc ?_ ?_ _ | refine Below.setCell ?_ ?_ _ | refine Below.drew ?_ | (simp; done) | (simp; omega)))).trans (hC.mono (show W.heap.size ≤ _ from (by first | exact hbn.size | (simp; done)))); have hbn := zzC; clear zzC; have zC := hC.size; have hl := HL.out.below hbn HL.out.lt; have t0 : wC.cell? ⟨w.heap.size + 1, 0, none⟩ = some (.int .i64 0) := hl.cell 0 rfl; have t1 : wC.cell? ⟨w.heap.size + 1, 1, none⟩ = some (.slice none 0 0) := hl.cell 1 rfl; have t2 : wC.cell? ⟨w.heap.size + 1, 2, none⟩ = some (.slice none 0 0) := hl.cell 2 rfl; have t3 : wC.cell? ⟨w.heap.size + 1, 3, none⟩ = some (.slice none 0 0) := hl.cell 3 rfl; have u0 := hl.free 0; have u1 := hl.free 1; have u2 := hl.free 2; have u3 := hl.free 3; clear hl))
  all_goals
    have zD : W.drew.heap.size = W.heap.size := rfl
    go_wp2_with fail
    refine bodyPost_ret (v := .agg #[.int .i64 n0, .slice bA x1.length eA, .slice bB x2.length eB, .slice bC x3.length eC]) (by simp [results, Try.results77, go_sem, *]) rfl ⟨_, rfl, ?_⟩
    refine ownRows_fin HB.out hbn hl1
      (by first | exact oA | exact oA.up hB (Nat.le_refl _) | exact oA.up hC (Nat.le_refl _) | exact (oA.up hB (Nat.le_refl _)).up hC (Nat.le_refl _) | exact (oA.up hC (Nat.le_refl _)).up hB (Nat.le_refl _))
      (by first | exact oB | exact oB.up hA (Nat.le_refl _) | exact oB.up hC (Nat.le_refl _) | exact (oB.up hA (Nat.le_refl _)).up hC (Nat.le_refl _) | exact (oB.up hC (Nat.le_refl _)).up hA (Nat.le_refl _))
      (by first | exact oC | exact oC.up hA (Nat.le_refl _) | exact oC.up hB (Nat.le_refl _) | exact (oC.up hA (Nat.le_refl _)).up hB (Nat.le_refl _) | exact (oC.up hB (Nat.le_refl _)).up hA (Nat.le_refl _))
      (by omega) (by omega) (by omega) (by omega) (by omega) (by omega) _ ?_ (by simp)
    repeat' first | exact Kept.refl _ _ | refine Kept.setCell ?_ (.inr (by simp)) _

def zeroR : RowsD := ⟨0, [], [], []⟩

set_option maxHeartbeats 1000000 in
theorem checked_any (v : Value) (r : RowsD) (w : World) (h : RdR w v r) :
    Calls Try.prog 80 #[v] w fun e w' => e = .returned (.tuple #[if validR r = true then v else .agg #[.int .i64 0, .slice none 0 0, .slice none 0 0, .slice none 0 0], .bool (validR r)]) ∧ Below w.heap.size w w' := by
  obtain ⟨a1, c1, a2, c2, a3, c3, rfl⟩ := h.shape
  obtain ⟨n0, x1, x2, x3⟩ := r
  simp only
  have HP := Lib.hid h
  clear h
  obtain ⟨V, hV⟩ : ∃ V : Value, V = if validR ⟨n0, x1, x2, x3⟩ = true then .agg #[.int .i64 n0, .slice a1 x1.length c1, .slice a2 x2.length c2, .slice a3 x3.length c3] else .agg #[.int .i64 0, .slice none 0 0, .slice none 0 0, .slice none 0 0] := ⟨_, rfl⟩
  rw [← hV]
  have HVV := Lib.hid hV
  clear hV
  go_enter Try.func80, Try.ntmps80
  go_wp2_with fail
  refine Calls.at fun W hW => ?_
  have HB := Lib.hid (show Below w.heap.size w W by subst hW; (repeat' first | exact Below.refl _ _ | assumption | refine Below.alloc ?_ ?_ _ | refine Below.setCell ?_ ?_ _ | refine Below.drew ?_ | (simp; done) | (simp; omega)))
  have HK := Lib.hid (show Blk W w.heap.size 50 #[.int .i64 n0, .slice a1 x1.length c1, .slice a2 x2.length c2, .slice a3 x3.length c3] by subst hW; exact (Blk.new _ _ _).alloc _)
  have HL := Lib.hid (show Blk W (w.heap.size + 1) 50 #[.int .i64 0, .slice none 0 0, .slice none 0 0, .slice none 0 0] by subst hW; simpa using Blk.new (w.alloc (.cells #[.int .i64 n0, .slice a1 x1.length c1, .slice a2 x2.length c2, .slice a3 x3.length c3] 50)) 50 #[.int .i64 0, .slice none 0 0, .slice none 0 0, .slice none 0 0])
  clear hW
  refine (ValidRows_any _ ⟨n0, x1, x2, x3⟩ W (HP.out.up HB.out (Nat.le_refl _))).mono ?_
  rintro e w1 ⟨rfl, hb1⟩
  have HB1 := Lib.hid (HB.out.trans (hb1.mono HB.out.size))
  have HK1 := Lib.hid (HK.out.below hb1 HK.out.lt)
  have HL1 := Lib.hid (HL.out.below hb1 HL.out.lt)
  clear hb1
  have d0 : w1.cell? ⟨w.heap.size, 0, none⟩ = some (.int .i64 n0) := HK1.out.cell 0 rfl
  have d1 : w1.cell? ⟨w.heap.size, 1, none⟩ = some (.slice a1 x1.length c1) := HK1.out.cell 1 rfl
  have d2 : w1.cell? ⟨w.heap.size, 2, none⟩ = some (.slice a2 x2.length c2) := HK1.out.cell 2 rfl
  have d3 : w1.cell? ⟨w.heap.size, 3, none⟩ = some (.slice a3 x3.length c3) := HK1.out.cell 3 rfl
  have e0 : w1.cell? ⟨w.heap.size + 1, 0, none⟩ = some (.int .i64 0) := HL1.out.cell 0 rfl
  have e1 : w1.cell? ⟨w.heap.size + 1, 1, none⟩ = some (.slice none 0 0) := HL1.out.cell 1 rfl
  have e2 : w1.cell? ⟨w.heap.size + 1, 2, none⟩ = some (.slice none 0 0) := HL1.out.cell 2 rfl
  have e3 : w1.cell? ⟨w.heap.size + 1, 3, none⟩ = some (.slice none 0 0) := HL1.out.cell 3 rfl
  have f0 := HL1.out.free 0
  have f1 := HL1.out.free 1
  have f2 := HL1.out.free 2
  have f3 := HL1.out.free 3
  have fin : ∀ Wf, Kept (· = w.heap.size + 1) w1 Wf → Below w.heap.size w Wf := fun Wf hk => HB1.out.trans (hk.toBelow HB1.out.size (by intro k h1 h2; omega))
  have FIN := Lib.hid fin
  clear fin
  by_cases hv : validR ⟨n0, x1, x2, x3⟩ = true
  · have HV := Lib.hid hv
    rw [hv]
    clear hv
    go_wp2_with fail
    refine bodyPost_ret (v := .tuple #[.agg #[.int .i64 n0, .slice a1 x1.length c1, .slice a2 x2.length c2, .slice a3 x3.length c3], .bool true]) (by simp [results, Try.results80, go_sem, *]) rfl ⟨by rw [HVV.out, HV.out]; rfl, FIN.out _ ?_⟩
    repeat' first | exact Kept.refl _ _ | refine Kept.setCell ?_ (.inr (by simp)) _
  · rw [Bool.not_eq_true] at hv
    have HV := Lib.hid hv
    rw [hv]
    clear hv
    go_wp2_with fail
    refine bodyPost_ret (v := .tuple #[.agg #[.int .i64 0, .slice none 0 0, .slice none 0 0, .slice none 0 0], .bool false]) (by simp [results, Try.results80, go_sem, *]) rfl ⟨by rw [HVV.out, HV.out]; rfl, FIN.out _ ?_⟩
    repeat' first | exact Kept.refl _ _ | refine Kept.setCell ?_ (.inr (by simp)) _

set_option maxHeartbeats 1000000 in
theorem l02Give_any (v : Value) (r : RowsD) (w : World) (h : RdR w v r) :
    Calls Try.prog 75 #[v] w fun e w' => e = .returned (.tuple #[if validR r = true then v else .agg #[.int .i64 0, .slice none 0 0, .slice none 0 0, .slice none 0 0], .bool (validR r)]) ∧ Below w.heap.size w w' := by
  obtain ⟨a1, c1, a2, c2, a3, c3, rfl⟩ := h.shape
  obtain ⟨n0, x1, x2, x3⟩ := r
  simp only
  have HP := Lib.hid h
  clear h
  obtain ⟨V, hV⟩ : ∃ V : Value, V = if validR ⟨n0, x1, x2, x3⟩ = true then .agg #[.int .i64 n0, .slice a1 x1.length c1, .slice a2 x2.length c2, .slice a3 x3.length c3] else .agg #[.int .i64 0, .slice none 0 0, .slice none 0 0, .slice none 0 0] := ⟨_, rfl⟩
  rw [← hV]
  have HVV := Lib.hid hV
  clear hV
  go_enter Try.func75, Try.ntmps75
  go_wp2_with fail
  refine Calls.at fun W hW => ?_
  have HB := Lib.hid (show Below w.heap.size w W by subst hW; (repeat' first | exact Below.refl _ _ | assumption | refine Below.alloc ?_ ?_ _ | refine Below.setCell ?_ ?_ _ | refine Below.drew ?_ | (simp; done) | (simp; omega)))
  have HK := Lib.hid (show Blk W w.heap.size 50 #[.int .i64 n0, .slice a1 x1.length c1, .slice a2 x2.length c2, .slice a3 x3.length c3] by subst hW; exact (Blk.new _ _ _).alloc _)
  have HL := Lib.hid (show Blk W (w.heap.size + 1) 50 #[.int .i64 0, .slice none 0 0, .slice none 0 0, .slice none 0 0] by subst hW; simpa using Blk.new (w.alloc (.cells #[.int .i64 n0, .slice a1 x1.length c1, .slice a2 x2.length c2, .slice a3 x3.length c3] 50)) 50 #[.int .i64 0, .slice none 0 0, .slice none 0 0, .slice none 0 0])
  clear hW
  refine (l02Is_any w.heap.size _ _ _ _ ⟨n0, x1, x2, x3⟩ W HK.out (HP.out.up HB.out (Nat.le_refl _))).mono ?_
  rintro e w1 ⟨rfl, hd1⟩
  have hb1 : Below W.heap.size W w1 := by obtain ⟨m, rfl⟩ := hd1; exact below_drewN (Below.refl _ _) _
  have HB1 := Lib.hid (HB.out.trans (hb1.mono HB.out.size))
  have HK1 := Lib.hid (HK.out.below hb1 HK.out.lt)
  have HL1 := Lib.hid (HL.out.below hb1 HL.out.lt)
  clear hb1 hd1
  have d0 : w1.cell? ⟨w.heap.size, 0, none⟩ = some (.int .i64 n0) := HK1.out.cell 0 rfl
  have d1 : w1.cell? ⟨w.heap.size, 1, none⟩ = some (.slice a1 x1.length c1) := HK1.out.cell 1 rfl
  have d2 : w1.cell? ⟨w.heap.size, 2, none⟩ = some (.slice a2 x2.length c2) := HK1.out.cell 2 rfl
  have d3 : w1.cell? ⟨w.heap.size, 3, none⟩ = some (.slice a3 x3.length c3) := HK1.out.cell 3 rfl
  have e0 : w1.cell? ⟨w.heap.size + 1, 0, none⟩ = some (.int .i64 0) := HL1.out.cell 0 rfl
  have e1 : w1.cell? ⟨w.heap.size + 1, 1, none⟩ = some (.slice none 0 0) := HL1.out.cell 1 rfl
  have e2 : w1.cell? ⟨w.heap.size + 1, 2, none⟩ = some (.slice none 0 0) := HL1.out.cell 2 rfl
  have e3 : w1.cell? ⟨w.heap.size + 1, 3, none⟩ = some (.slice none 0 0) := HL1.out.cell 3 rfl
  have f0 := HL1.out.free 0
  have f1 := HL1.out.free 1
  have f2 := HL1.out.free 2
  have f3 := HL1.out.free 3
  have fin : ∀ Wf, Kept (· = w.heap.size + 1) w1 Wf → Below w.heap.size w Wf := fun Wf hk => HB1.out.trans (hk.toBelow HB1.out.size (by intro k h1 h2; omega))
  have FIN := Lib.hid fin
  clear fin
  by_cases hv : validR ⟨n0, x1, x2, x3⟩ = true
  · have HV := Lib.hid hv
    rw [hv]
    clear hv
    go_wp2_with fail
    refine bodyPost_ret (v := .tuple #[.agg #[.int .i64 n0, .slice a1 x1.length c1, .slice a2 x2.length c2, .slice a3 x3.length c3], .bool true]) (by simp [results, Try.results75, go_sem, *]) rfl ⟨by rw [HVV.out, HV.out]; rfl, FIN.out _ ?_⟩
    repeat' first | exact Kept.refl _ _ | refine Kept.setCell ?_ (.inr (by simp)) _
  · rw [Bool.not_eq_true] at hv
    have HV := Lib.hid hv
    rw [hv]
    clear hv
    go_wp2_with fail
    refine bodyPost_ret (v := .tuple #[.agg #[.int .i64 0, .slice none 0 0, .slice none 0 0, .slice none 0 0], .bool false]) (by simp [results, Try.results75, go_sem, *]) rfl ⟨by rw [HVV.out, HV.out]; rfl, FIN.out _ ?_⟩
    repeat' first | exact Kept.refl _ _ | refine Kept.setCell ?_ (.inr (by simp)) _

end Go.Proofs.Ytkkcgclliomocaa

namespace Go.Proofs.Ytkkcgclliomocaa
open Go.RowKit

def zeroCells : Array Value := #[.int .i64 0, .slice none 0 0, .slice none 0 0, .slice none 0 0]
theorem ownsF_emptyB (w : World) (b : Nat) (hb : b = w.heap.size) : (w.alloc (.cells #[] 98)).ownsRow w.heap.size 98 1 (.slice (some ⟨b, 0, none⟩) 0 0) 0 (([] : List Nat).map F32) := by subst hb; exact ownsF_empty w

theorem Blk.newB (w : World) (t : TypeId) (cs : Array Value) (b : Nat) (hb : b = w.heap.size) : Blk (w.alloc (.cells cs t)) b t cs := by subst hb; exact Blk.new w t cs

/-- A block beside what has grown. -/
theorem blk_grown {w w' : World} {b : Nat} {t : TypeId} {cs : Array Value} {row : Option Nat} (h : Blk w b t cs) (hg : w.grownBy w' row) (hne : row ≠ some b) : Blk w' b t cs :=
  (hg.block b h.lt fun e => hne e.symm).trans h

theorem ownRows_finP {p : Nat} {w W Wl : World} {n0 : Int} {x1 x2 x3 : List Nat} {yA yB yC : Value} {lA hA lB hB lC hC : Nat} (hb : Below w.heap.size w W) (hbn : Below W.heap.size W Wl) (hsp : w.heap.size ≤ p) (hsz : p < W.heap.size)
    (oA : OwnF lA hA Wl yA x1) (oB : OwnF lB hB Wl yB x2) (oC : OwnF lC hC Wl yC x3) (gA : W.heap.size ≤ lA ∧ hA ≤ Wl.heap.size) (gB : W.heap.size ≤ lB ∧ hB ≤ Wl.heap.size) (gC : W.heap.size ≤ lC ∧ hC ≤ Wl.heap.size)
    (dAB : hA ≤ lB ∨ hB ≤ lA) (dAC : hA ≤ lC ∨ hC ≤ lA) (dBC : hB ≤ lC ∨ hC ≤ lB) :
    ∀ Wf, Kept (· = p) Wl Wf → Wf.heap.size = Wl.heap.size → OwnR w.heap.size Wf.heap.size Wf (.agg #[.int .i64 n0, yA, yB, yC]) ⟨n0, x1, x2, x3⟩ ∧ Below w.heap.size w Wf := by
  intro Wf hk hz
  have z1 := hb.size
  have z2 := hbn.size
  have k1 := (oA.kept hk (by intro b h1 h2 h3; omega)).wide (lo' := w.heap.size) (hi' := Wf.heap.size) (by omega) (by omega)
  have k2 := (oB.kept hk (by intro b h1 h2 h3; omega)).wide (lo' := w.heap.size) (hi' := Wf.heap.size) (by omega) (by omega)
  have k3 := (oC.kept hk (by intro b h1 h2 h3; omega)).wide (lo' := w.heap.size) (hi' := Wf.heap.size) (by omega) (by omega)
  have hbl : Below w.heap.size w Wl := hb.trans (hbn.mono hb.size)
  refine ⟨⟨_, _, _, rfl, k1, k2, k3, ?_, ?_, ?_⟩, hbl.trans (hk.toBelow hbl.size (by intro k h1 h2; omega))⟩
  · intro g q1 q2; have := oA.blk q1; have := oB.blk q2; omega
  · intro g q1 q2; have := oA.blk q1; have := oC.blk q2; omega
  · intro g q1 q2; have := oB.blk q1; have := oC.blk q2; omega

set_option maxHeartbeats 4000000 in
set_option maxRecDepth 4000 in
theorem l02Own_any (bb : Nat) (v0 v1 v2 v3 : Value) (r : RowsD) (w : World) (hk : Blk w bb 50 #[v0, v1, v2, v3]) (h : RdR w (.agg #[v0, v1, v2, v3]) r) (hb : bulkR r ≤ 1048576) :
    Calls Try.prog 72 #[.pointer (some ⟨bb, 0, none⟩)] w fun e w' => ∃ v', e = .returned v' ∧ OwnR w.heap.size w'.heap.size w' v' r ∧ Below w.heap.size w w' := by
  obtain ⟨a1, c1, a2, c2, a3, c3, e⟩ := h.shape
  obtain ⟨p1, p2, p3⟩ := h.parts
  simp only [Value.agg.injEq, Array.mk.injEq, List.cons.injEq, and_true] at e
  obtain ⟨rfl, rfl, rfl, rfl⟩ := e
  obtain ⟨n0, x1, x2, x3⟩ := r
  simp only [bulkR] at p1 p2 p3 hb hk ⊢
  have P1 := Lib.hid p1
  have P2 := Lib.hid p2
  have P3 := Lib.hid p3
  have L1 : x1.length ≤ 17592186044416 := by omega
  have L2 : x2.length ≤ 17592186044416 := by omega
  have L3 : x3.length ≤ 17592186044416 := by omega
  have hbl := hk.lt
  have HK0 := Lib.hid hk
  clear h p1 p2 p3 hb hk
  go_enter Try.func72, Try.ntmps72
  go_upto_region 1 with fail
  refine wp_at fun W hW => ?_
  have HB := Lib.hid (show Below w.heap.size w W by subst hW; (repeat' first | exact Below.refl _ _ | assumption | refine Below.alloc ?_ ?_ _ | refine Below.setCell ?_ ?_ _ | refine Below.drew ?_ | (simp; done) | (simp; omega)))
  have HK := Lib.hid (show Blk W bb 50 #[.int .i64 n0, .slice a1 x1.length c1, .slice a2 x2.length c2, .slice a3 x3.length c3] by subst hW; exact HK0.out.alloc _)
  have HL := Lib.hid (show Blk W w.heap.size 50 #[.int .i64 0, .slice none 0 0, .slice none 0 0, .slice none 0 0] by subst hW; exact Blk.new _ _ _)
  clear hW
  have hl1 := HL.out.lt
  go_cut [3] from 4 (fun t3 wx => ∃ (g3 : Nat) (y1 : Option Addr) (e1 : Nat), t3 = .pointer (some ⟨g3, 0, none⟩) ∧ Blk wx g3 50 #[.int .i64 n0, .slice y1 x1.length e1, .slice none 0 0, .slice none 0 0] ∧ OwnF W.heap.size wx.heap.size wx (.slice y1 x1.length e1) x1 ∧ W.heap.size ≤ g3 ∧ Below W.heap.size W wx)
  case first =>
    have HS1 := Lib.hid (show Slc W (.slice a1 x1.length c1) (x1.map F32) from (P1.out.up HB.out (Nat.le_refl _)))
    have HKEEP := Lib.hid (show ∀ X, Below W.heap.size W X → X.cell? ⟨bb, 0, none⟩ = some (.int .i64 n0) ∧ X.cell? ⟨bb, 1, none⟩ = some (.slice a1 x1.length c1) from fun X hb => by
      have k := HK.out.below hb HK.out.lt
      exact ⟨k.cell 0 rfl, k.cell 1 rfl⟩)
    go_region_held3 (fun X => X.cell? ⟨bb, 0, none⟩ = some (.int .i64 n0) ∧ X.cell? ⟨bb, 1, none⟩ = some (.slice a1 x1.length c1))
      (first | (refine HKEEP.out _ ?_; (repeat' first | exact Below.refl _ _ | assumption | refine Below.alloc ?_ ?_ _ | refine Below.setCell ?_ ?_ _ | refine Below.drew ?_ | (simp; done) | (simp; omega)); done) | go_keep)
      (first
        | (refine step_app_flts rfl (.tmp 8) (.tmp 12) (by rfl) W.heap.size (.slice (some ⟨_, 0, none⟩) 0 0) 0 [] (by rfl) (by first | exact owns_base (ownsF_emptyB _ _ (by simp)) (by simp) | exact owns_base ((ownsF_emptyB _ _ (by simp)).alloc _) (by simp) | exact owns_drew (owns_base (ownsF_emptyB _ _ (by simp)) (by simp)) | exact owns_drew (owns_base ((ownsF_emptyB _ _ (by simp)).alloc _) (by simp))) _ x1 (by rfl) (HS1.out.below (B := W.heap.size) (by (repeat' first | exact Below.refl _ _ | assumption | refine Below.alloc ?_ ?_ _ | refine Below.setCell ?_ ?_ _ | refine Below.drew ?_ | (simp; done) | (simp; omega))) (Nat.le_refl _)) x1.length x1 (by simp) (by simp) L1 (by first | (simp; done) | (simp; omega)) ?_; intro a' cap' w1 hown hbl0 hg; have hbl1 : Below W.heap.size W w1 := Below.trans (by (repeat' first | exact Below.refl _ _ | assumption | refine Below.alloc ?_ ?_ _ | refine Below.setCell ?_ ?_ _ | refine Below.drew ?_ | (simp; done) | (simp; omega))) hbl0; clear hbl0; have hbs := hbl1.size
           (first
             | (have k := blk_grown (b := W.heap.size) (t := 50) (cs := #[.int .i64 0, .slice none 0 0, .slice none 0 0, .slice none 0 0]) (by exact (Blk.new _ _ _).alloc _) hg (by simp [Value.ownBlock]); have t0 := k.cell 0 rfl; have t1 := k.cell 1 rfl; have t2 := k.cell 2 rfl; have t3 := k.cell 3 rfl; have u0 := k.free 0; have u1 := k.free 1; have u2 := k.free 2; have u3 := k.free 3; have HBk := Lib.hid k; clear k)
             | (have k := blk_grown (b := W.heap.size + 1) (t := 50) (cs := #[.int .i64 0, .slice none 0 0, .slice none 0 0, .slice none 0 0]) (by exact Blk.newB _ _ _ _ (by simp)) hg (by simp [Value.ownBlock]); have t0 := k.cell 0 rfl; have t1 := k.cell 1 rfl; have t2 := k.cell 2 rfl; have t3 := k.cell 3 rfl; have u0 := k.free 0; have u1 := k.free 1; have u2 := k.free 2; have u3 := k.free 3; have HBk := Lib.hid k; clear k)
             | skip)))
    all_goals
      go_wp2_with fail
      first
        | (have hne := HBk.out.not_owned hown (by decide); clear t0 t1 t2 t3 u0 u1 u2 u3)
        | skip
      go_meet
    case rel =>
      refine ⟨_, _, _, rfl, Blk.newB _ _ _ _ (by simp), ((OwnF.mk hown).up ((Below.refl _ _).alloc (Nat.le_refl _) _) (Nat.le_refl _)).wide (Nat.le_refl _) (by simp), by simpa using hbs, hbl1.alloc hbs _⟩
    case rel =>
      exact ⟨_, _, _, rfl, by simpa using ((((HBk.out.set 0 (.int .i64 n0)).set 1 (.slice a' x1.length cap')).set 2 (.slice none 0 0)).set 3 (.slice none 0 0)), OwnF.mk (ownsRow_setCell_other (ownsRow_setCell_other (ownsRow_setCell_other (ownsRow_setCell_other hown hne _) hne _) hne _) hne _), Nat.le_succ _, (((hbl1.setCell (Nat.le_succ _) _).setCell (Nat.le_succ _) _).setCell (Nat.le_succ _) _).setCell (Nat.le_succ _) _⟩
    case rel =>
      exact ⟨_, _, _, rfl, by simpa using ((((HBk.out.set 0 (.int .i64 n0)).set 1 (.slice a' x1.length cap')).set 2 (.slice none 0 0)).set 3 (.slice none 0 0)), OwnF.mk (ownsRow_setCell_other (ownsRow_setCell_other (ownsRow_setCell_other (ownsRow_setCell_other hown hne _) hne _) hne _) hne _), Nat.le_refl _, (((hbl1.setCell (Nat.le_refl _) _).setCell (Nat.le_refl _) _).setCell (Nat.le_refl _) _).setCell (Nat.le_refl _) _⟩
  case rest =>
    obtain ⟨g3, y1, e1, rfl, hb3, ho1, hg3, hbw⟩ := hcut
    have hB3 := Lib.hid hb3
    have hO1 := Lib.hid ho1
    have hBW := Lib.hid hbw
    have k3 := hB3.out.lt
    have hsl2 := (P2.out.up HB.out (Nat.le_refl _)).up (hbw.alloc hbw.size (.cells #[] 98)) (Nat.le_refl _)
    have hbb2 : wc.cell? ⟨bb, 2, none⟩ = some (.slice a2 x2.length c2) := (HK.out.below hbw HK.out.lt).cell 2 rfl
    have hbc : bb < wc.heap.size := Nat.lt_of_lt_of_le HK.out.lt hbw.size
    clear hb3 ho1 hbw
    go_upto_region 3 with (at_builtin; refine app_flts rfl _ _ rfl wc.heap.size (.slice (some ⟨wc.heap.size, 0, none⟩) 0 0) 0 [] rfl (ownsF_empty wc) _ x2 rfl hsl2 x2.length x2 (by simp) (by simp) L2 (by simp) ?_; intro y2 e2 w2 hown2 hbl2 _ _; have hB4 := Lib.hid (hB3.out.below (((Below.refl _ _).alloc (Nat.le_refl _) _).trans hbl2) k3); have t2 := hB4.out.cell 2 rfl; have u2 := hB4.out.free 2)
    have hbw2 : Below wc.heap.size wc w2 := ((Below.refl _ _).alloc (Nat.le_refl _) _).trans hbl2
    refine wp_at fun W3 hW3 => ?_
    have hB5 := Lib.hid (show Blk W3 g3 50 #[.int .i64 n0, .slice y1 x1.length e1, .slice y2 x2.length e2, .slice none 0 0] by subst hW3; simpa using hB4.out.set 2 (.slice y2 x2.length e2))
    have hO2 := Lib.hid (show OwnF wc.heap.size W3.heap.size W3 (.slice y2 x2.length e2) x2 by
      subst hW3
      exact OwnF.mk (ownsRow_setCell_other hown2 (hB4.out.not_owned hown2 (by decide)) _))
    have hO1' := Lib.hid (show OwnF W.heap.size wc.heap.size W3 (.slice y1 x1.length e1) x1 by
      subst hW3
      have o := hO1.out.up hbw2 (Nat.le_refl _)
      exact ⟨ownsRow_setCell_other o.1 (hB4.out.not_owned o.1 (by decide)) _, o.2⟩)
    have hBW3 := Lib.hid (show Below W.heap.size W W3 by
      subst hW3
      exact (hBW.out.trans (hbw2.mono hBW.out.size)).setCell hg3 _)
    have hs3 : wc.heap.size ≤ W3.heap.size := by
      subst hW3; simpa using hbw2.size
    clear hW3 hown2 hbl2 hbw2 t2 u2 hB4 hsl2 hbb2
    have hsl3 := (P3.out.up HB.out (Nat.le_refl _)).up (hBW3.out.alloc hBW3.out.size (.cells #[] 98)) (Nat.le_refl _)
    have hbb3 : W3.cell? ⟨bb, 3, none⟩ = some (.slice a3 x3.length c3) := (HK.out.below hBW3.out HK.out.lt).cell 3 rfl
    have k4 := hB5.out.lt
    have hbc3 : bb < W3.heap.size := Nat.lt_of_lt_of_le hbc hs3
    go_upto_region 4 with (at_builtin; refine app_flts rfl _ _ rfl W3.heap.size (.slice (some ⟨W3.heap.size, 0, none⟩) 0 0) 0 [] rfl (ownsF_empty W3) _ x3 rfl hsl3 x3.length x3 (by simp) (by simp) L3 (by simp) ?_; intro y3 e3 w4 hown3 hbl3 _ _; have hB6 := Lib.hid (hB5.out.below (((Below.refl _ _).alloc (Nat.le_refl _) _).trans hbl3) k4); have t3 := hB6.out.cell 3 rfl; have u3 := hB6.out.free 3)
    have hbw4 : Below W3.heap.size W3 w4 := ((Below.refl _ _).alloc (Nat.le_refl _) _).trans hbl3
    refine wp_at fun W5 hW5 => ?_
    have hB7 := Lib.hid (show Blk W5 g3 50 #[.int .i64 n0, .slice y1 x1.length e1, .slice y2 x2.length e2, .slice y3 x3.length e3] by subst hW5; simpa using hB6.out.set 3 (.slice y3 x3.length e3))
    have hO3 := Lib.hid (show OwnF W3.heap.size W5.heap.size W5 (.slice y3 x3.length e3) x3 by
      subst hW5
      exact OwnF.mk (ownsRow_setCell_other hown3 (hB6.out.not_owned hown3 (by decide)) _))
    have hP1 := Lib.hid (show OwnF W.heap.size wc.heap.size W5 (.slice y1 x1.length e1) x1 by
      subst hW5
      have o := hO1'.out.up hbw4 (Nat.le_refl _)
      exact ⟨ownsRow_setCell_other o.1 (hB6.out.not_owned o.1 (by decide)) _, o.2⟩)
    have hP2 := Lib.hid (show OwnF wc.heap.size W3.heap.size W5 (.slice y2 x2.length e2) x2 by
      subst hW5
      have o := hO2.out.up hbw4 (Nat.le_refl _)
      exact ⟨ownsRow_setCell_other o.1 (hB6.out.not_owned o.1 (by decide)) _, o.2⟩)
    have hBW5 := Lib.hid (show Below W.heap.size W W5 by
      subst hW5
      exact (hBW3.out.trans (hbw4.mono hBW3.out.size)).setCell hg3 _)
    have hs5 : W3.heap.size ≤ W5.heap.size := by
      subst hW5; simpa using hbw4.size
    have hsc := hBW.out.size
    clear hW5 hown3 hbl3 hbw4 t3 u3 hB6 hsl3 hbb3
    have r0 := hB7.out.cell 0 rfl
    have r1 := hB7.out.cell 1 rfl
    have r2 := hB7.out.cell 2 rfl
    have r3 := hB7.out.cell 3 rfl
    have hl := HL.out.below hBW5.out HL.out.lt
    have q0 := hl.cell 0 rfl
    have q1 := hl.cell 1 rfl
    have q2 := hl.cell 2 rfl
    have q3 := hl.cell 3 rfl
    have f0 := hl.free 0
    have f1 := hl.free 1
    have f2 := hl.free 2
    have f3 := hl.free 3
    clear hl
    go_wp2_with fail
    refine bodyPost_ret (v := .agg #[.int .i64 n0, .slice y1 x1.length e1, .slice y2 x2.length e2, .slice y3 x3.length e3]) (by simp [results, Try.results72, go_sem, *]) rfl ⟨_, rfl, ?_⟩
    refine ownRows_finP HB.out hBW5.out (p := w.heap.size) (Nat.le_refl _) hl1 hP1.out hP2.out hO3.out (by omega) (by omega) (by omega) (by omega) (by omega) (by omega) _ ?_ (by simp)
    repeat' first | exact Kept.refl _ _ | refine Kept.setCell ?_ (.inr (by simp)) _

end Go.Proofs.Ytkkcgclliomocaa

namespace Go.Proofs.Ytkkcgclliomocaa
open Go.RowKit

theorem app_fltsL {w : World} {ops : Array Oper} {rest : List Oper} {o : Oper} {a : Act} {Q : Exit → Act → World → Prop} (hgd : o.guard = none) (s x : Operand)
    (ho : o.op = .call { callee := .builtin .append, args := #[s, x], argTypes := #[46, 46] })
    (base : Nat) (v : Value) (n : Nat) (xs : List Nat) (hs : a.eval s = v) (hown : w.ownsRow base 98 1 v n (xs.map F32))
    (sv : Value) (news : List Nat) (hx : a.eval x = sv) (hsv : Slc w sv (news.map F32)) (m : Nat) (ys : List Nat) (hm : m = n + news.length) (hys : ys = xs ++ news) (hlen : m ≤ 17592186044416) (hbase : base ≤ w.heap.size)
    (h : ∀ a' cap' w', w'.ownsRow base 98 1 (.slice a' m cap') m (ys.map F32) → Below base w w' → w.grownBy w' v.ownBlock → ((Value.slice a' m cap').ownBlock = v.ownBlock ∨ (Value.slice a' m cap').ownBlock = some w.heap.size) → wpList Try.prog ops Q rest (a.put o.dst (.slice a' m cap')) w') :
    wpList Try.prog ops Q (o :: rest) a w := by
  obtain ⟨i0, hi, hz0, hz1, hz2⟩ := info_parts Try.infoF32
  subst hm hys
  have hk : ∀ v' w', w'.ownsRow base 98 1 v' (n + news.length) (xs.map F32 ++ news.map F32) → w.grownBy w' v.ownBlock → (v'.ownBlock = v.ownBlock ∨ v'.ownBlock = some w.heap.size) → wpList Try.prog ops Q rest (a.put o.dst v') w' := by
    intro v' w' h1 h2 h3
    have h1' : w'.ownsRow base 98 1 v' (n + news.length) ((xs ++ news).map F32) := by simpa using h1
    obtain ⟨a', cap', rfl⟩ := owns_shape h1'
    exact h a' cap' w' h1' (below_grown hown hbase h2) h2 h3
  rcases hsv with ⟨rfl, hnil⟩ | ⟨ad, cap, rfl, hcl, hcm, hc⟩
  · have hn : news = [] := by simpa using hnil
    subst hn
    refine wpList_append_own_none hgd s x 46 ho base 98 i0 1 Try.underlying46 hi v n (xs.map F32) hs hown hx ?_
    exact hk v w (by simpa using hown) (World.grownBy.refl _ _) (.inl rfl)
  · refine wpList_append_own_at w hgd s x 46 ho base 98 i0 (.float .f32 0) 1 4 Try.underlying46 hi hz0 hz1 hz2 rfl (by decide) v n (xs.map F32) hs hown ad (news.map F32).length cap (news.map F32) hx (by simp) hc (f32_one news) (by simp [maxLen]; omega) (by simp; omega) hbase ?_
    intro v' w' h2 h3 _ h5
    exact hk v' w' (by simpa using h2) h3 h5

/-- Another list stays its own where one has grown. -/
theorem ownF_grown {lo hi : Nat} {w w' : World} {v u : Value} {xs : List Nat} (h : OwnF lo hi w v xs) (hg : w.grownBy w' u.ownBlock) (hn : ∀ g, v.ownBlock = some g → u.ownBlock ≠ some g) : OwnF lo hi w' v xs := by
  refine ⟨owns_kept (S := fun k => u.ownBlock = some k) h.1 ⟨hg.os, hg.tape, hg.output, hg.size, fun k hk hs => hg.block k hk fun e => hs e.symm⟩ hn, h.2⟩

theorem ownR_app1 {lo hi : Nat} {w w' : World} {n0 : Int} {x1 x2 x3 xs : List Nat} {y1 y2 y3 y : Value} {m : Nat} (h : OwnR lo hi w (.agg #[.int .i64 n0, y1, y2, y3]) ⟨n0, x1, x2, x3⟩) (hh : hi ≤ w.heap.size) (hg : w.grownBy w' y1.ownBlock)
    (ho : w'.ownsRow lo 98 1 y m (xs.map F32)) (hl : y.ownBlock = y1.ownBlock ∨ y.ownBlock = some w.heap.size) : OwnR lo w'.heap.size w' (.agg #[.int .i64 n0, y, y2, y3]) ⟨n0, xs, x2, x3⟩ := by
  obtain ⟨va, vb, vc, e, o1, o2, o3, d1, d2, d3⟩ := h
  simp only [Value.agg.injEq, Array.mk.injEq, List.cons.injEq, and_true, true_and] at e
  obtain ⟨rfl, rfl, rfl⟩ := e
  have hz := hg.size
  have p2 : OwnF lo hi w' y2 x2 := ownF_grown o2 hg (fun g hg h2 => d1 g h2 hg)
  have p3 : OwnF lo hi w' y3 x3 := ownF_grown o3 hg (fun g hg h2 => d2 g h2 hg)
  refine ⟨_, _, _, rfl, OwnF.mk ho, p2.wide (Nat.le_refl _) (by omega), p3.wide (Nat.le_refl _) (by omega), ?_, ?_, d3⟩
  · intro g h1 h2
    rcases hl with hl | hl
    · exact d1 g (hl ▸ h1) h2
    · rw [hl] at h1; simp only [Option.some.injEq] at h1; have := (p2.blk h2).2; omega
  · intro g h1 h2
    rcases hl with hl | hl
    · exact d2 g (hl ▸ h1) h2
    · rw [hl] at h1; simp only [Option.some.injEq] at h1; have := (p3.blk h2).2; omega

theorem ownR_app2 {lo hi : Nat} {w w' : World} {n0 : Int} {x1 x2 x3 xs : List Nat} {y1 y2 y3 y : Value} {m : Nat} (h : OwnR lo hi w (.agg #[.int .i64 n0, y1, y2, y3]) ⟨n0, x1, x2, x3⟩) (hh : hi ≤ w.heap.size) (hg : w.grownBy w' y2.ownBlock)
    (ho : w'.ownsRow lo 98 1 y m (xs.map F32)) (hl : y.ownBlock = y2.ownBlock ∨ y.ownBlock = some w.heap.size) : OwnR lo w'.heap.size w' (.agg #[.int .i64 n0, y1, y, y3]) ⟨n0, x1, xs, x3⟩ := by
  obtain ⟨va, vb, vc, e, o1, o2, o3, d1, d2, d3⟩ := h
  simp only [Value.agg.injEq, Array.mk.injEq, List.cons.injEq, and_true, true_and] at e
  obtain ⟨rfl, rfl, rfl⟩ := e
  have hz := hg.size
  have p1 : OwnF lo hi w' y1 x1 := ownF_grown o1 hg d1
  have p3 : OwnF lo hi w' y3 x3 := ownF_grown o3 hg (fun g hg h2 => d3 g h2 hg)
  refine ⟨_, _, _, rfl, p1.wide (Nat.le_refl _) (by omega), OwnF.mk ho, p3.wide (Nat.le_refl _) (by omega), ?_, d2, ?_⟩
  · intro g h1 h2
    rcases hl with hl | hl
    · exact d1 g h1 (hl ▸ h2)
    · rw [hl] at h2; simp only [Option.some.injEq] at h2; have := (p1.blk h1).2; omega
  · intro g h1 h2
    rcases hl with hl | hl
    · exact d3 g (hl ▸ h1) h2
    · rw [hl] at h1; simp only [Option.some.injEq] at h1; have := (p3.blk h2).2; omega

theorem ownR_set {lo hi : Nat} {w : World} {v : Value} {r : RowsD} {g : Nat} {cs : Array Value} (h : OwnR lo hi w v r) (hb : Blk w g 50 cs) (j : Nat) (u : Value) : OwnR lo hi (w.setCell ⟨g, j, none⟩ u) v r := by
  obtain ⟨va, vb, vc, e, o1, o2, o3, d⟩ := h
  have f : ∀ {y : Value} {xs : List Nat}, OwnF lo hi w y xs → OwnF lo hi (w.setCell ⟨g, j, none⟩ u) y xs := fun o => ⟨ownsRow_setCell_other o.1 (hb.not_owned o.1 (by decide)) _, o.2⟩
  exact ⟨va, vb, vc, e, f o1, f o2, f o3, d⟩
theorem OwnR.parts {lo hi : Nat} {w : World} {x0 x y z : Value} {r : RowsD} (h : OwnR lo hi w (.agg #[x0, x, y, z]) r) : OwnF lo hi w x r.nums ∧ OwnF lo hi w y r.bnds ∧ OwnF lo hi w z r.gains := by
  obtain ⟨va, vb, vc, e, h1, h2, h3, _⟩ := h
  simp only [Value.agg.injEq, Array.mk.injEq, List.cons.injEq, and_true] at e
  obtain ⟨_, rfl, rfl, rfl⟩ := e
  exact ⟨h1, h2, h3⟩

def addRw (r : RowsD) (x : List Nat) (b : Nat) : RowsD := ⟨r.vars, r.nums ++ x, r.bnds ++ [b], r.gains⟩
noncomputable def addOk (r : RowsD) (x : List Nat) (b : Nat) : Bool := validR r && ((x.length : Int) == r.vars && validR (addRw r x b))
noncomputable def addV (r : RowsD) (x : List Nat) (b : Nat) : RowsD := if addOk r x b = true then addRw r x b else zeroR

theorem addOk_T {r : RowsD} {x : List Nat} {b : Nat} (h : (!(validR r) || ((x.length : Int) != r.vars)) = true) : addOk r x b = false := by
  unfold addOk
  cases hv : validR r
  · rfl
  · rw [hv] at h
    simp only [Bool.not_true, Bool.false_or, bne_iff_ne, ne_eq] at h
    have : ((x.length : Int) == r.vars) = false := by simpa using h
    rw [this]; rfl
theorem addOk_F {r : RowsD} {x : List Nat} {b : Nat} (h : (!(validR r) || ((x.length : Int) != r.vars)) = false) : ValR r ∧ (x.length : Int) = r.vars ∧ addOk r x b = validR (addRw r x b) := by
  simp only [Bool.or_eq_false_iff, Bool.not_eq_false', bne_eq_false_iff_eq] at h
  refine ⟨validR_iff.1 h.1, h.2, ?_⟩
  unfold addOk
  rw [h.1, h.2]; simp

theorem addV_cnt (r : RowsD) (x : List Nat) (b : Nat) : cntR (addV r x b) ≤ 80 := by
  unfold addV
  split
  · rename_i h
    have hv : ValR (addRw r x b) := by
      unfold addOk at h
      simp only [Bool.and_eq_true] at h
      exact validR_iff.1 h.2.2
    have h1 := hv.nl
    have h2 := mulR hv.v1 hv.v8 hv.b8
    have h3 := hv.gl
    have h4 := hv.v8
    have h5 := hv.b8
    unfold cntR
    omega
  · simp [zeroR, cntR]

theorem ownR_zero (lo hi : Nat) (w : World) : OwnR lo hi w (.agg #[.int .i64 0, .slice none 0 0, .slice none 0 0, .slice none 0 0]) zeroR := by
  have o : OwnF lo hi w (.slice none 0 0) [] := ⟨World.ownsRow_nil _ _ _ _, by intro g hg; cases hg⟩
  exact ⟨_, _, _, rfl, o, o, o, (by intro g hg; cases hg), (by intro g hg; cases hg), (by intro g hg; cases hg)⟩

end Go.Proofs.Ytkkcgclliomocaa
