/-
  The best whole plan: the reference's function.
-/
import Derived.Test.YtkmbkjbammpdhaaPlanS
import Derived.Test.YtkmbkjbammpdhaaMarkF
namespace Go.Proofs.Ytkmbkjbammpdhaa
open Go.RowKit

set_option maxHeartbeats 2000000 in
set_option maxRecDepth 4000 in
theorem specWP_any (v : Value) (r : RowsD) (top : Int) (w : World) (h : RdR w v r) :
    Calls Try.prog 24 #[v, .int .i64 top] w fun e w' => ∃ v', e = .returned (.tuple #[v', .float .f32 (planY r top), .bool (planOk r top)]) ∧ OwnI w.heap.size w'.heap.size w' v' (planL r top) ∧ Below w.heap.size w w' := by
  obtain ⟨a1, c1, a2, c2, a3, c3, rfl⟩ := h.shape
  have HP := Lib.hid h
  clear h
  obtain ⟨q, hq⟩ : ∃ q, topB r top = q := ⟨_, rfl⟩
  have HQ := Lib.hid hq
  clear hq
  go_enter Try.func24, Try.ntmps24
  go_wp2_with fail
  refine Calls.at fun W hW => ?_
  have hb := Lib.hid (show Below w.heap.size w W by subst hW; (repeat' first | exact Below.refl _ _ | assumption | refine Below.alloc ?_ ?_ _ | refine Below.setCell ?_ ?_ _ | refine Below.drew ?_ | (simp; done) | (simp; omega)))
  have hk := Lib.hid (show Blk W w.heap.size 26 #[.int .i64 r.vars, .slice a1 r.nums.length c1, .slice a2 r.bnds.length c2, .slice a3 r.gains.length c3] by subst hW; exact Blk.new _ _ _)
  clear hW
  refine (l07Rows_any w.heap.size _ _ _ _ r top W hk.out (HP.out.up hb.out (Nat.le_refl _))).mono ?_
  rintro e w1 ⟨rfl, m1, rfl⟩
  rw [HQ.out]
  cases q
  · have HN := Lib.hid (show planB r top = (none, 0) by unfold planB; rw [HQ.out]; rfl)
    go_wp2_with fail
    go_ret3
    exact ⟨_, by unfold planY planOk; rw [HN.out]; rfl, by unfold planL; rw [HN.out]; exact ⟨World.ownsRow_nil _ _ _ _, by intro g hg; cases hg⟩, below_drewN hb.out _⟩
  · obtain ⟨hv, h4, t1, t5⟩ := topB_parts HQ.out
    obtain ⟨T, rfl⟩ := Int.eq_ofNat_of_zero_le (by omega : 0 ≤ top)
    have hgl := hv.gl
    have hv1 := hv.v1
    have HGN := Lib.hid (show 1 ≤ r.gains.length by omega)
    clear hgl hv hv1
    have HB1 := Lib.hid (below_drewN hb.out m1)
    have HK1 := Lib.hid (show Blk (W.drewN m1) w.heap.size 26 #[.int .i64 r.vars, .slice a1 r.nums.length c1, .slice a2 r.bnds.length c2, .slice a3 r.gains.length c3] from hk.out)
    have hsz := hb.out.size
    clear hb hk
    go_wp2_with fail
    refine (l07Best_any w.heap.size a1 c1 a2 c2 a3 c3 r T _ HQ.out HK1.out (HP.out.up HB1.out (Nat.le_refl _))).mono ?_
    rintro e w2 ⟨bv, rfl, hbs, hbl⟩
    have HB2 := Lib.hid (HB1.out.trans (hbl.mono HB1.out.size))
    have HPO := Lib.hid (show planOk r (T : Int) = (planB r (T : Int)).1.isSome from rfl)
    have HPL := Lib.hid (show planL r (T : Int) = (planB r (T : Int)).1.getD [] from rfl)
    have HZ := Lib.hid (show (planB r (T : Int)).1 = none → planY r (T : Int) = 0 by
      intro h
      have e : planB r (T : Int) = wbAll r (wSolsT r (T : Int)) := by unfold planB; rw [if_pos HQ.out]
      unfold planY
      rw [e] at h ⊢
      exact wbAll_zero h)
    clear hbl
    obtain ⟨y, hy⟩ : ∃ y, y = planY r (T : Int) := ⟨_, rfl⟩
    rw [← hy] at HZ ⊢
    have HY := Lib.hid hy
    clear hy
    rcases hbs with ⟨h1, a, rfl⟩ | ⟨s, gb, cap, h1, rfl, h3⟩
    · have H1 := Lib.hid h1
      have hy0 : y = 0 := HZ.out h1
      subst hy0
      have HOK := Lib.hid (show planOk r (T : Int) = false by rw [HPO.out, h1]; rfl)
      rw [HOK.out]
      clear h1
      go_wp2_with fail
      go_ret3
      exact ⟨_, by rw [← HY.out, HOK.out]; rfl, by rw [HPL.out, H1.out]; exact ⟨World.ownsRow_nil _ _ _ _, by intro g hg; cases hg⟩, HB2.out⟩
    · have H1 := Lib.hid h1
      have H3 := Lib.hid h3
      have HOK := Lib.hid (show planOk r (T : Int) = true by rw [HPO.out, h1]; rfl)
      rw [HOK.out]
      clear h1 h3 HZ
      go_wp2_with fail
      go_ret3
      exact ⟨_, by rw [← HY.out, HOK.out]; rfl, by rw [HPL.out, H1.out]; exact OwnI.mk (owns_base H3.out (by simpa using hsz)), HB2.out⟩

theorem nan_zero : nan32 0 = false := by decide +kernel
theorem gainV_nan (r : RowsD) (x : List Nat) (h : gainOk r x = true) : nan32 (gainV r x) = false := by
  have h2 : fin32 (gainV r x) = true := by
    unfold gainV
    rw [if_pos h]
    unfold gainOk at h
    simp only [Bool.and_eq_true] at h
    cases hg : gainO r x with
    | none => rw [hg] at h; cases h.2
    | some g => rw [hg] at h; exact h.2
  cases hn : nan32 (gainV r x) with
  | false => rfl
  | true => rw [fin_of_nan hn] at h2; cases h2
theorem wbStep_nan {r : RowsD} {b : WB} {s : List Int} (h0 : nan32 b.2 = false) : nan32 (wbStep r b s).2 = false := by
  unfold wbStep
  split
  · next h =>
    simp only [Bool.and_eq_true] at h
    exact gainV_nan r _ h.1
  · exact h0
theorem planY_nan (r : RowsD) (top : Int) : nan32 (planY r top) = false := by
  unfold planY planB
  split
  · suffices H : ∀ (l : List (List Int)) (b : WB), nan32 b.2 = false → nan32 (l.foldl (wbStep r) b).2 = false from H _ (none, 0) nan_zero
    intro l
    induction l with
    | nil => intro b h; exact h
    | cons s l ih => intro b h; exact ih _ (wbStep_nan h)
  · exact nan_zero

theorem sameFloat_b (r : Nat) (h : (Ieee.double.read r).isNaN = false) (w : World) :
    Calls Try.prog 27 #[.float .f64 r, .float .f64 r] w fun e w' => e = .returned (.bool true) ∧ Below w.heap.size w w' := by
  refine (sameFloat_self r h w).mono ?_
  rintro e w' ⟨rfl, rfl⟩
  exact ⟨rfl, Below.refl _ _⟩

end Go.Proofs.Ytkmbkjbammpdhaa
