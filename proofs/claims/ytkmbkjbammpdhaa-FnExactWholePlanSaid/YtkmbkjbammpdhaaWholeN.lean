/-
  Counting up, by the reference; which rows and tops are such.
-/
import Derived.Test.YtkmbkjbammpdhaaWholeS
namespace Go.Proofs.Ytkmbkjbammpdhaa
open Go.RowKit

/-- What is laid after the last ones were made zeros. -/
def zTail (x : List Int) (k : Nat) : List Int := x.take k ++ List.replicate (x.length - k) 0
theorem zTail_full (x : List Int) : zTail x x.length = x := by unfold zTail; simp
theorem zTail_len (x : List Int) (k : Nat) (h : k ≤ x.length) : (zTail x k).length = x.length := by unfold zTail; simp; omega
theorem zTail_at (x : List Int) (k : Nat) (h0 : 0 < k) (h : k ≤ x.length) : (zTail x k)[k - 1]? = some (x.getD (k - 1) 0) := by
  unfold zTail
  rw [List.getElem?_append_left (by simp; omega), List.getElem?_take_of_lt (by omega)]
  simp [show k - 1 < x.length by omega]
theorem zTail_set (x : List Int) (k : Nat) (y : Int) (h0 : 0 < k) (h : k ≤ x.length) : (zTail x k).set (k - 1) y = x.take (k - 1) ++ y :: List.replicate (x.length - k) 0 := by
  unfold zTail
  have e : x.take k = x.take (k - 1) ++ [x.getD (k - 1) 0] := by
    rw [show k = k - 1 + 1 by omega, List.take_succ_eq_append_getElem (by omega)]
    simp [show k - 1 < x.length by omega]
  rw [e, List.append_assoc, List.singleton_append]
  exact set_mid _ _ _ _ _ (by simp; omega)
theorem zTail_zero (x : List Int) (k : Nat) (h0 : 0 < k) (h : k ≤ x.length) : (zTail x k).set (k - 1) 0 = zTail x (k - 1) := by
  rw [zTail_set x k 0 h0 h]
  unfold zTail
  rw [show x.length - (k - 1) = (x.length - k) + 1 by omega, List.replicate_succ]

set_option maxHeartbeats 2000000 in
theorem l07Next_any (base g cap : Nat) (x : List Int) (n : Nat) (top : Int) (w : World) (hn : x.length = n) (h8 : n ≤ 8) (ht : top ≤ 5) (hx : ∀ i, i < n → 0 ≤ x.getD i 0) (h : w.ownsRow base 2 1 (.slice (some ⟨g, 0, none⟩) n cap) n (x.map I64)) :
    Calls Try.prog 94 #[.slice (some ⟨g, 0, none⟩) n cap, .int .i64 top] w fun e w' => e = .returned (.bool (nextL top x).1) ∧ w'.ownsRow base 2 1 (.slice (some ⟨g, 0, none⟩) n cap) n ((nextL top x).2.map I64) ∧ Kept (· = g) w w' := by
  have HO := Lib.hid h
  have HX := Lib.hid hx
  have HN := Lib.hid hn
  clear h hx hn
  go_enter Try.func94, Try.ntmps94
  go_wp2_with fail
  go_loopw [5] (fun i wr => ∃ k : Nat, k ≤ n ∧ i = .int .i64 ((k : Int) - 1) ∧ Hid (nextL top (x.drop k) = (false, List.replicate (n - k) 0)) ∧ Hid (wr.ownsRow base 2 1 (.slice (some ⟨g, 0, none⟩) n cap) n ((zTail x k).map I64)) ∧ Hid (Kept (· = g) w wr)) (fun i _ => (intOf i + 1).toNat)
  case atStart =>
    refine ⟨n, Nat.le_refl _, rfl, ?_, ?_, Kept.refl _ _⟩
    · have := HN.out
      subst this
      show nextL top (x.drop x.length) = _
      simp [nextL]
    · have := HN.out
      subst this
      rw [zTail_full]
      exact HO.out
  case round =>
    obtain ⟨k, hk, rfl, hnx, HO1, HK1⟩ := hrel
    by_cases h0 : 0 < k
    · have hd := HO1.out.cellAt (k - 1) (by omega)
      have hf := HO1.out.frozenAt (k - 1)
      have hx0 := HX.out (k - 1) (by omega)
      rw [List.getElem?_map, zTail_at x k h0 (by rw [HN.out]; exact hk)] at hd
      simp only [Option.map_some, I64] at hd
      have hjm : (k : Int) - 1 < n := by omega
      have hjm0 : (0 : Int) ≤ (k : Int) - 1 := by omega
      have hjt : ((k : Int) - 1).toNat = k - 1 := by omega
      have hhit := Lib.hid (show x.getD (k - 1) 0 < top → nextL top x = (true, x.take (k - 1) ++ (x.getD (k - 1) 0 + 1) :: List.replicate (n - k) 0) from fun hlt => by
        have := next_hit top x (k - 1) (by rw [HN.out]; omega) (by rw [show k - 1 + 1 = k by omega, HN.out]; exact hnx.out) hlt
        rwa [show k - 1 + 1 = k by omega, HN.out] at this)
      have hmiss := Lib.hid (show ¬ x.getD (k - 1) 0 < top → nextL top (x.drop (k - 1)) = (false, List.replicate (n - (k - 1)) 0) from fun hlt => by
        have := next_miss top x (k - 1) (by rw [HN.out]; omega) (by rw [show k - 1 + 1 = k by omega, HN.out]; exact hnx.out) hlt
        rwa [HN.out] at this)
      have hs1 := Lib.hid (zTail_set x k (x.getD (k - 1) 0 + 1) h0 (by rw [HN.out]; exact hk))
      have hs0 := Lib.hid (zTail_zero x k h0 (by rw [HN.out]; exact hk))
      obtain ⟨y, hy⟩ : ∃ y, y = x.getD (k - 1) 0 := ⟨_, rfl⟩
      rw [← hy] at hd hx0 hhit hmiss hs1
      have hst1 := Lib.hid (HO1.out.stored (k - 1) (.int .i64 (y + 1))).1
      have hst0 := Lib.hid (HO1.out.stored (k - 1) (.int .i64 0)).1
      clear hy
      by_cases hlt : y < top
      · have HH := Lib.hid (hhit.out hlt)
        go_wp2_with fail
        go_ret
        refine ⟨by rw [HH.out]; rfl, ?_, HK1.out.setCell (.inr rfl) _⟩
        have h1 := hst1.out
        rw [show (Value.int .i64 (y + 1)) = I64 (y + 1) from rfl, ← List.map_set, hs1.out, HN.out] at h1
        rw [HH.out]
        exact h1
      · have HH := Lib.hid (hmiss.out hlt)
        go_wp2_with fail
        clear hjt
        go_roundw
        case rel =>
          refine ⟨k - 1, by omega, congrArg (Value.int IntKind.i64) (by omega), HH.out, ?_, HK1.out.setCell (.inr rfl) _⟩
          have h1 := hst0.out
          rw [show (Value.int .i64 0) = I64 0 from rfl, ← List.map_set, hs0.out] at h1
          exact h1
        case measure => simp [intOf]; omega
    · obtain rfl : k = 0 := by omega
      have HH := Lib.hid (show nextL top x = (false, List.replicate n 0) from hnx.out)
      go_wp2_with fail
      go_ret
      refine ⟨by rw [HH.out]; rfl, ?_, HK1.out⟩
      have h1 := HO1.out
      rw [HH.out]
      unfold zTail at h1
      rw [HN.out] at h1
      exact h1

noncomputable def topB (r : RowsD) (top : Int) : Bool := (validR r && decide (r.vars ≤ 4)) && inB 1 5 top

set_option maxHeartbeats 2000000 in
theorem isTop_any (v : Value) (r : RowsD) (top : Int) (w : World) (h : RdR w v r) :
    Calls Try.prog 96 #[v, .int .i64 top] w fun e w' => e = .returned (.bool (topB r top)) ∧ Below w.heap.size w w' := by
  obtain ⟨a1, c1, a2, c2, a3, c3, rfl⟩ := h.shape
  have HP := Lib.hid h
  obtain ⟨n0, x1, x2, x3⟩ := r
  simp only at HP ⊢
  clear h
  go_enter Try.func96, Try.ntmps96
  go_wp2_with fail
  refine Calls.at fun W hW => ?_
  have hb := Lib.hid (show Below w.heap.size w W by subst hW; (repeat' first | exact Below.refl _ _ | assumption | refine Below.alloc ?_ ?_ _ | refine Below.setCell ?_ ?_ _ | refine Below.drew ?_ | (simp; done) | (simp; omega)))
  have hk := Lib.hid (show Blk W w.heap.size 26 #[.int .i64 n0, .slice a1 x1.length c1, .slice a2 x2.length c2, .slice a3 x3.length c3] by subst hW; exact Blk.new _ _ _)
  clear hW
  refine (ValidRows_any _ ⟨n0, x1, x2, x3⟩ W (HP.out.up hb.out (Nat.le_refl _))).mono ?_
  rintro e w1 ⟨rfl, hb1⟩
  have HB1 := Lib.hid (hb.out.trans (hb1.mono hb.out.size))
  have HK1 := Lib.hid (hk.out.below hb1 hk.out.lt)
  have d0 : w1.cell? ⟨w.heap.size, 0, none⟩ = some (.int .i64 n0) := HK1.out.cell 0 rfl
  clear hb1 hb hk
  obtain ⟨q, hq⟩ : ∃ q, q = validR ⟨n0, x1, x2, x3⟩ := ⟨_, rfl⟩
  rw [← hq]
  have HQ := Lib.hid hq
  clear hq
  cases q
  · have HN := Lib.hid (show topB ⟨n0, x1, x2, x3⟩ top = false by unfold topB; rw [← HQ.out]; rfl)
    go_wp2_with fail
    go_ret
    exact ⟨by rw [HN.out]; rfl, HB1.out⟩
  · by_cases h4 : n0 ≤ 4
    · have HN := Lib.hid (show topB ⟨n0, x1, x2, x3⟩ top = inB 1 5 top by unfold topB; rw [← HQ.out]; simp [h4])
      go_wp2_with (go_at_call 109; refine (within_any _ _ _ _).mono ?_; rintro e w' ⟨rfl, rfl⟩)
      go_ret
      exact ⟨by rw [HN.out]; rfl, HB1.out⟩
    · have HN := Lib.hid (show topB ⟨n0, x1, x2, x3⟩ top = false by unfold topB; simp [h4])
      go_wp2_with fail
      go_ret
      exact ⟨by rw [HN.out]; rfl, HB1.out⟩

set_option maxHeartbeats 2000000 in
theorem l07Rows_any (bb : Nat) (v0 v1 v2 v3 : Value) (r : RowsD) (top : Int) (w : World) (hk : Blk w bb 26 #[v0, v1, v2, v3]) (h : RdR w (.agg #[v0, v1, v2, v3]) r) :
    Calls Try.prog 93 #[.pointer (some ⟨bb, 0, none⟩), .int .i64 top] w fun e w' => e = .returned (.bool (topB r top)) ∧ ∃ m, w' = w.drewN m := by
  obtain ⟨a1, c1, a2, c2, a3, c3, e⟩ := h.shape
  simp only [Value.agg.injEq, Array.mk.injEq, List.cons.injEq, and_true] at e
  obtain ⟨rfl, rfl, rfl, rfl⟩ := e
  have HV := Lib.hid (l02Is_any bb _ _ _ _ r w hk h)
  have d0 : w.cell? ⟨bb, 0, none⟩ = some (.int .i64 r.vars) := hk.cell 0 rfl
  obtain ⟨n0, x1, x2, x3⟩ := r
  simp only at HV d0 ⊢
  clear h hk
  obtain ⟨q, hq⟩ : ∃ q, q = validR ⟨n0, x1, x2, x3⟩ := ⟨_, rfl⟩
  rw [← hq] at HV
  have HQ := Lib.hid hq
  clear hq
  cases q
  · have HN := Lib.hid (show topB ⟨n0, x1, x2, x3⟩ top = false by unfold topB; rw [← HQ.out]; rfl)
    go_enter Try.func93, Try.ntmps93
    go_wp2_with fail
    refine HV.out.mono ?_
    rintro e w1 ⟨rfl, m1, rfl⟩
    go_wp2_with fail
    go_ret
    exact ⟨by rw [HN.out]; rfl, _, rfl⟩
  · by_cases h4 : n0 ≤ 4
    · have HN := Lib.hid (show topB ⟨n0, x1, x2, x3⟩ top = inB 1 5 top by unfold topB; rw [← HQ.out]; simp [h4])
      go_enter Try.func93, Try.ntmps93
      go_wp2_with fail
      refine HV.out.mono ?_
      rintro e w1 ⟨rfl, m1, rfl⟩
      go_wp2_with (go_at_call 135; refine (in_any _ _ _ _).mono ?_; rintro e w' ⟨rfl, rfl⟩)
      go_ret
      exact ⟨by rw [HN.out]; rfl, _, rfl⟩
    · have HN := Lib.hid (show topB ⟨n0, x1, x2, x3⟩ top = false by unfold topB; simp [h4])
      go_enter Try.func93, Try.ntmps93
      go_wp2_with fail
      refine HV.out.mono ?_
      rintro e w1 ⟨rfl, m1, rfl⟩
      go_wp2_with fail
      go_ret
      exact ⟨by rw [HN.out]; rfl, _, rfl⟩

theorem topB_parts {r : RowsD} {top : Int} (h : topB r top = true) : ValR r ∧ r.vars ≤ 4 ∧ 1 ≤ top ∧ top ≤ 5 := by
  unfold topB at h
  simp only [Bool.and_eq_true, decide_eq_true_eq] at h
  exact ⟨validR_iff.1 h.1.1, h.1.2, (inB_iff.1 h.2).1, (inB_iff.1 h.2).2⟩

end Go.Proofs.Ytkmbkjbammpdhaa
