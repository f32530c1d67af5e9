/-
  FnExactWholeGap: texts joined: WholeN, EachW, WholeC, Has, ChoiceM, FirstInv, PredL, Dom, AllIn, Rising, DomO.
-/
import Derived.Test.YtkfiepiipigcmaaMEWholeGapAA
import Derived.Test.YtkfiepiipigcmaaMEWholeGapAB
import Derived.Test.YtkfiepiipigcmaaMEWholeGapAF
namespace Go.Proofs.Ytkfiepiipigcmaa
open Go.RowKit

/-- What is laid after the last ones were made zeros. -/
def zTail (x : List Int) (k : Nat) : List Int := x.take k ++ List.replicate (x.length - k) 0
theorem zTail_full (x : List Int) : zTail x x.length = x := by unfold zTail; simp
theorem zTail_len (x : List Int) (k : Nat) (h : k ≤ x.length) : (zTail x k).length = x.length := by unfold zTail; simp; omega
theorem zTail_at (x : List Int) (k : Nat) (h0 : 0 < k) (h : k ≤ x.length) : (zTail x k)[k - 1]? = some (x.getD (k - 1) 0) := by
  unfold zTail
  rw [List.getElem?_append_left (by simp; omega), List.getElem?_take_of_lt (by omega)]
  simp [show k - 1 < x.length by omega]
theorem zTail_set (x : List Int) (k : Nat) (y : Int) (h0 : 0 < k) (h : k ≤ x.length) : (zTail x k).set (k - 1) y = x.take (k - 1) ++ y :: List.replicate (x.length - k) 0 := by
  unfold zTail
  have e : x.take k = x.take (k - 1) ++ [x.getD (k - 1) 0] := by
    rw [show k = k - 1 + 1 by omega, List.take_succ_eq_append_getElem (by omega)]
    simp [show k - 1 < x.length by omega]
  rw [e, List.append_assoc, List.singleton_append]
  exact set_mid _ _ _ _ _ (by simp; omega)
theorem zTail_zero (x : List Int) (k : Nat) (h0 : 0 < k) (h : k ≤ x.length) : (zTail x k).set (k - 1) 0 = zTail x (k - 1) := by
  rw [zTail_set x k 0 h0 h]
  unfold zTail
  rw [show x.length - (k - 1) = (x.length - k) + 1 by omega, List.replicate_succ]

set_option maxHeartbeats 2000000 in
theorem l07Next_any (base g cap : Nat) (x : List Int) (n : Nat) (top : Int) (w : World) (hn : x.length = n) (h8 : n ≤ 8) (ht : top ≤ 5) (hx : ∀ i, i < n → 0 ≤ x.getD i 0) (h : w.ownsRow base 2 1 (.slice (some ⟨g, 0, none⟩) n cap) n (x.map I64)) :
    Calls Try.prog 112 #[.slice (some ⟨g, 0, none⟩) n cap, .int .i64 top] w fun e w' => e = .returned (.bool (nextL top x).1) ∧ w'.ownsRow base 2 1 (.slice (some ⟨g, 0, none⟩) n cap) n ((nextL top x).2.map I64) ∧ Kept (· = g) w w' := by
  have HO := Lib.hid h
  have HX := Lib.hid hx
  have HN := Lib.hid hn
  clear h hx hn
  go_enter Try.func112, Try.ntmps112
  go_wp2_with fail
  go_loopw [5] (fun i wr => ∃ k : Nat, k ≤ n ∧ i = .int .i64 ((k : Int) - 1) ∧ Hid (nextL top (x.drop k) = (false, List.replicate (n - k) 0)) ∧ Hid (wr.ownsRow base 2 1 (.slice (some ⟨g, 0, none⟩) n cap) n ((zTail x k).map I64)) ∧ Hid (Kept (· = g) w wr)) (fun i _ => (intOf i + 1).toNat)
  case atStart =>
    refine ⟨n, Nat.le_refl _, rfl, ?_, ?_, Kept.refl _ _⟩
    · have := HN.out
      subst this
      show nextL top (x.drop x.length) = _
      simp [nextL]
    · have := HN.out
      subst this
      rw [zTail_full]
      exact HO.out
  case round =>
    obtain ⟨k, hk, rfl, hnx, HO1, HK1⟩ := hrel
    by_cases h0 : 0 < k
    · have hd := HO1.out.cellAt (k - 1) (by omega)
      have hf := HO1.out.frozenAt (k - 1)
      have hx0 := HX.out (k - 1) (by omega)
      rw [List.getElem?_map, zTail_at x k h0 (by rw [HN.out]; exact hk)] at hd
      simp only [Option.map_some, I64] at hd
      have hjm : (k : Int) - 1 < n := by omega
      have hjm0 : (0 : Int) ≤ (k : Int) - 1 := by omega
      have hjt : ((k : Int) - 1).toNat = k - 1 := by omega
      have hhit := Lib.hid (show x.getD (k - 1) 0 < top → nextL top x = (true, x.take (k - 1) ++ (x.getD (k - 1) 0 + 1) :: List.replicate (n - k) 0) from fun hlt => by
        have := next_hit top x (k - 1) (by rw [HN.out]; omega) (by rw [show k - 1 + 1 = k by omega, HN.out]; exact hnx.out) hlt
        rwa [show k - 1 + 1 = k by omega, HN.out] at this)
      have hmiss := Lib.hid (show ¬ x.getD (k - 1) 0 < top → nextL top (x.drop (k - 1)) = (false, List.replicate (n - (k - 1)) 0) from fun hlt => by
        have := next_miss top x (k - 1) (by rw [HN.out]; omega) (by rw [show k - 1 + 1 = k by omega, HN.out]; exact hnx.out) hlt
        rwa [HN.out] at this)
      have hs1 := Lib.hid (zTail_set x k (x.getD (k - 1) 0 + 1) h0 (by rw [HN.out]; exact hk))
      have hs0 := Lib.hid (zTail_zero x k h0 (by rw [HN.out]; exact hk))
      obtain ⟨y, hy⟩ : ∃ y, y = x.getD (k - 1) 0 := ⟨_, rfl⟩
      rw [← hy] at hd hx0 hhit hmiss hs1
      have hst1 := Lib.hid (HO1.out.stored (k - 1) (.int .i64 (y + 1))).1
      have hst0 := Lib.hid (HO1.out.stored (k - 1) (.int .i64 0)).1
      clear hy
      by_cases hlt : y < top
      · have HH := Lib.hid (hhit.out hlt)
        go_wp2_with fail
        go_ret
        refine ⟨by rw [HH.out]; rfl, ?_, HK1.out.setCell (.inr rfl) _⟩
        have h1 := hst1.out
        rw [show (Value.int .i64 (y + 1)) = I64 (y + 1) from rfl, ← List.map_set, hs1.out, HN.out] at h1
        rw [HH.out]
        exact h1
      · have HH := Lib.hid (hmiss.out hlt)
        go_wp2_with fail
        clear hjt
        go_roundw
        case rel =>
          refine ⟨k - 1, by omega, congrArg (Value.int IntKind.i64) (by omega), HH.out, ?_, HK1.out.setCell (.inr rfl) _⟩
          have h1 := hst0.out
          rw [show (Value.int .i64 0) = I64 0 from rfl, ← List.map_set, hs0.out] at h1
          exact h1
        case measure => simp [intOf]; omega
    · obtain rfl : k = 0 := by omega
      have HH := Lib.hid (show nextL top x = (false, List.replicate n 0) from hnx.out)
      go_wp2_with fail
      go_ret
      refine ⟨by rw [HH.out]; rfl, ?_, HK1.out⟩
      have h1 := HO1.out
      rw [HH.out]
      unfold zTail at h1
      rw [HN.out] at h1
      exact h1

noncomputable def topB (r : RowsD) (top : Int) : Bool := (validR r && decide (r.vars ≤ 4)) && inB 1 5 top

set_option maxHeartbeats 2000000 in
theorem isTop_any (v : Value) (r : RowsD) (top : Int) (w : World) (h : RdR w v r) :
    Calls Try.prog 122 #[v, .int .i64 top] w fun e w' => e = .returned (.bool (topB r top)) ∧ Below w.heap.size w w' := by
  obtain ⟨a1, c1, a2, c2, a3, c3, rfl⟩ := h.shape
  have HP := Lib.hid h
  obtain ⟨n0, x1, x2, x3⟩ := r
  simp only at HP ⊢
  clear h
  go_enter Try.func122, Try.ntmps122
  go_wp2_with fail
  refine Calls.at fun W hW => ?_
  have hb := Lib.hid (show Below w.heap.size w W by subst hW; (repeat' first | exact Below.refl _ _ | assumption | refine Below.alloc ?_ ?_ _ | refine Below.setCell ?_ ?_ _ | refine Below.drew ?_ | (simp; done) | (simp; omega)))
  have hk := Lib.hid (show Blk W w.heap.size 67 #[.int .i64 n0, .slice a1 x1.length c1, .slice a2 x2.length c2, .slice a3 x3.length c3] by subst hW; exact Blk.new _ _ _)
  clear hW
  refine (ValidRows_any _ ⟨n0, x1, x2, x3⟩ W (HP.out.up hb.out (Nat.le_refl _))).mono ?_
  rintro e w1 ⟨rfl, hb1⟩
  have HB1 := Lib.hid (hb.out.trans (hb1.mono hb.out.size))
  have HK1 := Lib.hid (hk.out.below hb1 hk.out.lt)
  have d0 : w1.cell? ⟨w.heap.size, 0, none⟩ = some (.int .i64 n0) := HK1.out.cell 0 rfl
  clear hb1 hb hk
  obtain ⟨q, hq⟩ : ∃ q, q = validR ⟨n0, x1, x2, x3⟩ := ⟨_, rfl⟩
  rw [← hq]
  have HQ := Lib.hid hq
  clear hq
  cases q
  · have HN := Lib.hid (show topB ⟨n0, x1, x2, x3⟩ top = false by unfold topB; rw [← HQ.out]; rfl)
    go_wp2_with fail
    go_ret
    exact ⟨by rw [HN.out]; rfl, HB1.out⟩
  · by_cases h4 : n0 ≤ 4
    · have HN := Lib.hid (show topB ⟨n0, x1, x2, x3⟩ top = inB 1 5 top by unfold topB; rw [← HQ.out]; simp [h4])
      go_wp2_with (go_at_call 65; refine (within_any _ _ _ _).mono ?_; rintro e w' ⟨rfl, rfl⟩)
      go_ret
      exact ⟨by rw [HN.out]; rfl, HB1.out⟩
    · have HN := Lib.hid (show topB ⟨n0, x1, x2, x3⟩ top = false by unfold topB; simp [h4])
      go_wp2_with fail
      go_ret
      exact ⟨by rw [HN.out]; rfl, HB1.out⟩

set_option maxHeartbeats 2000000 in
theorem l07Rows_any (bb : Nat) (v0 v1 v2 v3 : Value) (r : RowsD) (top : Int) (w : World) (hk : Blk w bb 67 #[v0, v1, v2, v3]) (h : RdR w (.agg #[v0, v1, v2, v3]) r) :
    Calls Try.prog 84 #[.pointer (some ⟨bb, 0, none⟩), .int .i64 top] w fun e w' => e = .returned (.bool (topB r top)) ∧ ∃ m, w' = w.drewN m := by
  obtain ⟨a1, c1, a2, c2, a3, c3, e⟩ := h.shape
  simp only [Value.agg.injEq, Array.mk.injEq, List.cons.injEq, and_true] at e
  obtain ⟨rfl, rfl, rfl, rfl⟩ := e
  have HV := Lib.hid (l02Is_any bb _ _ _ _ r w hk h)
  have d0 : w.cell? ⟨bb, 0, none⟩ = some (.int .i64 r.vars) := hk.cell 0 rfl
  obtain ⟨n0, x1, x2, x3⟩ := r
  simp only at HV d0 ⊢
  clear h hk
  obtain ⟨q, hq⟩ : ∃ q, q = validR ⟨n0, x1, x2, x3⟩ := ⟨_, rfl⟩
  rw [← hq] at HV
  have HQ := Lib.hid hq
  clear hq
  cases q
  · have HN := Lib.hid (show topB ⟨n0, x1, x2, x3⟩ top = false by unfold topB; rw [← HQ.out]; rfl)
    go_enter Try.func84, Try.ntmps84
    go_wp2_with fail
    refine HV.out.mono ?_
    rintro e w1 ⟨rfl, m1, rfl⟩
    go_wp2_with fail
    go_ret
    exact ⟨by rw [HN.out]; rfl, _, rfl⟩
  · by_cases h4 : n0 ≤ 4
    · have HN := Lib.hid (show topB ⟨n0, x1, x2, x3⟩ top = inB 1 5 top by unfold topB; rw [← HQ.out]; simp [h4])
      go_enter Try.func84, Try.ntmps84
      go_wp2_with fail
      refine HV.out.mono ?_
      rintro e w1 ⟨rfl, m1, rfl⟩
      go_wp2_with (go_at_call 95; refine (in_any _ _ _ _).mono ?_; rintro e w' ⟨rfl, rfl⟩)
      go_ret
      exact ⟨by rw [HN.out]; rfl, _, rfl⟩
    · have HN := Lib.hid (show topB ⟨n0, x1, x2, x3⟩ top = false by unfold topB; simp [h4])
      go_enter Try.func84, Try.ntmps84
      go_wp2_with fail
      refine HV.out.mono ?_
      rintro e w1 ⟨rfl, m1, rfl⟩
      go_wp2_with fail
      go_ret
      exact ⟨by rw [HN.out]; rfl, _, rfl⟩

theorem topB_parts {r : RowsD} {top : Int} (h : topB r top = true) : ValR r ∧ r.vars ≤ 4 ∧ 1 ≤ top ∧ top ≤ 5 := by
  unfold topB at h
  simp only [Bool.and_eq_true, decide_eq_true_eq] at h
  exact ⟨validR_iff.1 h.1.1, h.1.2, (inB_iff.1 h.2).1, (inB_iff.1 h.2).2⟩

end Go.Proofs.Ytkfiepiipigcmaa

namespace Go.Proofs.Ytkfiepiipigcmaa
open Go.RowKit

theorem isWhole_b (q : Bool) (v : Value) (r : RowsD) (u : Value) (xs : List Int) (w : World) (h : RdR w v r) (hu : RdI w u xs) (hb : xs.length ≤ 1048576) (hq : wholeB r xs = q) :
    Calls Try.prog 154 #[v, u] w fun e w' => e = .returned (.bool q) ∧ Below w.heap.size w w' := by
  have := isWhole_any v r u xs w h hu hb
  rwa [hq] at this

set_option maxHeartbeats 1000000 in
set_option maxRecDepth 4000 in
theorem eachWhole_any (r : RowsD) (v : Value) (top V : Nat) (hV : r.vars = (V : Int)) (hV4 : V ≤ 4) (ht : top ≤ 5) (g : FuncId) (hent : ∀ (args : Array Value) (w : World), (callFunc g args).run Try.prog w = .ok (.enter g args) w) (caps : Array Value) (B0 : Nat) (S : Nat → Prop) (hS : ∀ b, S b → b < B0) (I : List (List Int) → World → Prop) (w0 : World)
    (hR : ∀ X, Kept S w0 X → RdR X v r)
    (hI : ∀ done w w', I done w → Below w.heap.size w w' → I done w')
    (hT : ∀ done (s : List Int) (a : Option Addr) (cap m : Nat) (w : World), s.length = m → m = V → w.ownsRow B0 2 1 (.slice a m cap) m (s.map I64) → done.length ≤ 16777216 → Kept S w0 w → I done w →
      Calls Try.prog g (#[.slice a m cap] ++ caps) w fun e w' => e = .returned (.tuple #[]) ∧ I (done ++ [s]) w' ∧ Kept S w w')
    (f : Nat) : ∀ (a : Option Addr) (cap : Nat) (now : List Int) (w : World) (done : List (List Int)) (m : Nat), now.length = m →
    now.length + f = V → B0 ≤ w.heap.size → w.ownsRow B0 2 1 (.slice a m cap) m (now.map I64) → Kept S w0 w → I done w → done.length + (wSols r top f now).length ≤ 16777216 →
    Calls Try.prog 123 #[v, .int .i64 top, .slice a m cap, .func (.func g) #[] caps] w fun e w' =>
      e = .returned (.tuple #[]) ∧ I (done ++ wSols r top f now) w' ∧ Kept S w w' := by
  induction f with
  | zero =>
    intro a cap now w done m hm hlen hB hs hk0 hi hcount
    subst hm
    obtain rfl : now.length = V := hlen
    obtain ⟨a1, c1, a2, c2, a3, c3, hvs⟩ := (hR w hk0).shape
    have HR := Lib.hid (hR w hk0)
    have HS := Lib.hid hs
    have HI := Lib.hid hI
    have HII := Lib.hid hi
    have HK0 := Lib.hid hk0
    have HT := Lib.hid hT
    have hqb : ((now.length : Int) == r.vars) = true := by rw [hV]; simp
    have hcnt : done.length ≤ 16777216 := by omega
    obtain ⟨q, hq⟩ : ∃ q, wholeB r now = q := ⟨_, rfl⟩
    have HQ := Lib.hid hq
    have HW := Lib.hid (show wSols r top 0 now = if q = true then [now] else [] by rw [← hq]; rfl)
    subst hvs
    clear hs hT hI hi hR hk0 hq hV
    go_enter Try.func123, Try.ntmps123
    go_wp2_with fail
    refine wp_at fun W hW => ?_
    have HB := Lib.hid (show Below w.heap.size w W by subst hW; (repeat' first | exact Below.refl _ _ | assumption | refine Below.alloc ?_ ?_ _ | refine Below.setCell ?_ ?_ _ | refine Below.drew ?_ | (simp; done) | (simp; omega)))
    have HK := Lib.hid (show Blk W w.heap.size 67 #[.int .i64 r.vars, .slice a1 r.nums.length c1, .slice a2 r.bnds.length c2, .slice a3 r.gains.length c3] by subst hW; exact Blk.new _ _ _)
    have d0 : W.cell? ⟨w.heap.size, 0, none⟩ = some (.int .i64 r.vars) := HK.out.cell 0 rfl
    clear hW
    go_quiet ((go_at_call 64; exact quiet_same (size_any _ _ (by unfold maxLen; omega))))
    have d0 : W.cell? ⟨w.heap.size, 0, none⟩ = some (.int .i64 r.vars) := HK.out.cell 0 rfl
    have d1 : W.cell? ⟨w.heap.size, 1, none⟩ = some (.slice a1 r.nums.length c1) := HK.out.cell 1 rfl
    have d2 : W.cell? ⟨w.heap.size, 2, none⟩ = some (.slice a2 r.bnds.length c2) := HK.out.cell 2 rfl
    have d3 : W.cell? ⟨w.heap.size, 3, none⟩ = some (.slice a3 r.gains.length c3) := HK.out.cell 3 rfl
    have HBn := Lib.hid (below_drewN HB.out nq)
    go_wp2_with fail
    have hR1 : RdI w (.slice a now.length cap) now := slc_of_owns HS.out
    refine (isWhole_b q _ r _ now _ (HR.out.up HBn.out (Nat.le_refl _)) (hR1.up HBn.out (Nat.le_refl _)) (by omega) HQ.out).mono ?_
    rintro e w1 ⟨rfl, hb1⟩
    have HB1 := Lib.hid (HBn.out.trans (hb1.mono HBn.out.size))
    clear hb1 hR1
    cases q
    · go_wp2_with fail
      refine bodyPost_ret (results_none rfl _ _ _) rfl ?_
      exact ⟨rfl, by rw [HW.out]; simpa using HI.out _ _ _ HII.out HB1.out, Kept.of_below HB1.out (Nat.le_refl _)⟩
    · have HTT := Lib.hid (HT.out done now a cap now.length w1 rfl rfl (owns_below HS.out HB1.out (Nat.le_refl _)) hcnt (HK0.out.below HB1.out HK0.out.size) (HI.out _ _ _ HII.out HB1.out))
      go_wp2_with fail
      refine HTT.out.mono ?_
      rintro e w2 ⟨rfl, hi1, hk1⟩
      have HI1 := Lib.hid hi1
      have HK1 := Lib.hid hk1
      clear hi1 hk1 HTT
      go_wp2_with fail
      refine bodyPost_ret (results_none rfl _ _ _) rfl ?_
      exact ⟨rfl, by rw [HW.out]; exact HI1.out, (Kept.of_below HB1.out (Nat.le_refl _)).trans HK1.out⟩
  | succ f ih =>
    intro a cap now w done m hm hlen hB hs hk0 hi hcount
    subst hm
    obtain ⟨a1, c1, a2, c2, a3, c3, hvs⟩ := (hR w hk0).shape
    have hnl : ((now.length : Int) == r.vars) = false := by rw [hV]; simp; omega
    have hnl4 : now.length ≤ 4 := by omega
    have HS := Lib.hid hs
    have HII := Lib.hid hi
    have HC := Lib.hid hcount
    have HK0 := Lib.hid hk0
    have HI := Lib.hid hI
    have HIH := Lib.hid ih
    have HL := Lib.hid hlen
    have HSS := Lib.hid hS
    subst hvs
    clear hs hT hI ih hlen hi hcount hS hR hk0 hV
    go_enter Try.func123, Try.ntmps123
    go_wp2_with fail
    refine wp_at fun W hW => ?_
    have HB := Lib.hid (show Below w.heap.size w W by subst hW; (repeat' first | exact Below.refl _ _ | assumption | refine Below.alloc ?_ ?_ _ | refine Below.setCell ?_ ?_ _ | refine Below.drew ?_ | (simp; done) | (simp; omega)))
    have HK := Lib.hid (show Blk W w.heap.size 67 #[.int .i64 r.vars, .slice a1 r.nums.length c1, .slice a2 r.bnds.length c2, .slice a3 r.gains.length c3] by subst hW; exact Blk.new _ _ _)
    have d0 : W.cell? ⟨w.heap.size, 0, none⟩ = some (.int .i64 r.vars) := HK.out.cell 0 rfl
    clear hW
    go_quiet ((go_at_call 64; exact quiet_same (size_any _ _ (by unfold maxLen; omega))))
    have HBn := Lib.hid (below_drewN HB.out nq)
    have HKn := Lib.hid (show Blk (W.drewN nq) w.heap.size 67 #[.int .i64 r.vars, .slice a1 r.nums.length c1, .slice a2 r.bnds.length c2, .slice a3 r.gains.length c3] from HK.out)
    go_wp2_with fail
    go_loopw [8] (fun c wr => ∃ k : Nat, c = .int .i64 k ∧ k ≤ top + 1 ∧ Hid (I (done ++ wPart r top f now k) wr) ∧ Hid (Kept S (W.drewN nq) wr)) (fun c _ => top + 1 - (intOf c).toNat)
    case atStart => exact ⟨0, rfl, Nat.zero_le _, Lib.hid (by simpa [wPart] using HI.out _ _ _ HII.out HBn.out), Kept.refl _ _⟩
    case round =>
      obtain ⟨k, rfl, hk, HI1, HK1⟩ := hrel
      have hWl := HKn.out.lt
      have HKw := Lib.hid ((Kept.of_below HBn.out (Nat.le_refl _) : Kept S w (W.drewN nq)).trans HK1.out)
      have HS1 := Lib.hid (owns_kept HS.out HKw.out (fun b hb => by have := (owns_lt HS.out hb).1; intro hs; have := HSS.out b hs; omega))
      have HKr := Lib.hid (HKn.out.kept HK1.out (by intro hs; have := HSS.out _ hs; omega))
      have hszw := HKw.out.size
      by_cases hlt : k ≤ top
      · have d0 : wr.cell? ⟨w.heap.size, 0, none⟩ = some (.int .i64 r.vars) := HKr.out.cell 0 rfl
        have d1 : wr.cell? ⟨w.heap.size, 1, none⟩ = some (.slice a1 r.nums.length c1) := HKr.out.cell 1 rfl
        have d2 : wr.cell? ⟨w.heap.size, 2, none⟩ = some (.slice a2 r.bnds.length c2) := HKr.out.cell 2 rfl
        have d3 : wr.cell? ⟨w.heap.size, 3, none⟩ = some (.slice a3 r.gains.length c3) := HKr.out.cell 3 rfl
        have hcnt : (done ++ wPart r top f now k).length + (wSols r top f (now ++ [(k : Int)])).length ≤ 16777216 := by
          have h1 := HC.out
          rw [wSols_succ] at h1
          have h2 : (wPart r top f now (k + 1)).length ≤ (wPart r top f now (top + 1)).length := by
            have : ∀ d, (wPart r top f now (k + 1)).length ≤ (wPart r top f now (k + 1 + d)).length := by
              intro d
              induction d with
              | zero => exact Nat.le_refl _
              | succ d ih =>
                have e := wPart_succ r top f now (k + 1 + d)
                show _ ≤ (wPart r top f now (k + 1 + d + 1)).length
                rw [e, List.length_append]; omega
            have := this (top - k)
            rwa [show k + 1 + (top - k) = top + 1 by omega] at this
          rw [wPart_succ, List.length_append] at h2
          rw [List.length_append]; omega
        have HCN := Lib.hid hcnt
        clear hcnt
        have HSLC := Lib.hid (slc_of_owns HS1.out)
        have HKEEP := Lib.hid (show ∀ X, Kept S wr X → X.cell? ⟨w.heap.size, 0, none⟩ = some (.int .i64 r.vars) ∧ X.cell? ⟨w.heap.size, 1, none⟩ = some (.slice a1 r.nums.length c1) ∧ X.cell? ⟨w.heap.size, 2, none⟩ = some (.slice a2 r.bnds.length c2) ∧ X.cell? ⟨w.heap.size, 3, none⟩ = some (.slice a3 r.gains.length c3) ∧ Kept S wr X from fun X hk =>
          have q := HKr.out.kept hk (by intro hs; have := HSS.out _ hs; omega)
          ⟨q.cell 0 rfl, q.cell 1 rfl, q.cell 2 rfl, q.cell 3 rfl, hk⟩)
        go_wp2_with fail
        go_region_held3 (fun X => X.cell? ⟨w.heap.size, 0, none⟩ = some (.int .i64 r.vars) ∧ X.cell? ⟨w.heap.size, 1, none⟩ = some (.slice a1 r.nums.length c1) ∧ X.cell? ⟨w.heap.size, 2, none⟩ = some (.slice a2 r.bnds.length c2) ∧ X.cell? ⟨w.heap.size, 3, none⟩ = some (.slice a3 r.gains.length c3) ∧ Kept S wr X)
          (first | (refine HKEEP.out _ ?_; repeat' first | assumption | exact Kept.refl _ _ | refine Kept.alloc ?_ _ | refine Kept.drew ?_))
          (first
            | (go_at_call 106; have hh := (‹_ ∧ _ ∧ _ ∧ _ ∧ Kept S wr _›).2.2.2.2; refine (copyInts_any a cap now _ (slc_of_owns (owns_kept HS1.out hh (fun b hb hs => by have := (owns_lt HS1.out hb).1; have := HSS.out b hs; omega))) (by omega)).mono ?_; rintro e w1 ⟨g1, cap1, rfl, hown, hbl⟩; have hkc := hh.below hbl hh.size; have hbc : Below wr.heap.size wr w1 := Below.trans (by repeat' first | assumption | exact Below.refl _ _ | refine Below.alloc ?_ (by simp) _ | refine Below.drew ?_) (hbl.mono (by simp)))
            | (refine step_app_own rfl (.tmp 29) (.tmp 31) (by rfl) wr.heap.size ⟨g1, 0, none⟩ now.length cap1 now (by rfl) (by first | exact owns_base hown (by simp) | exact owns_base hown (by have := hh.size; simp at this; omega) | exact owns_base (hown.alloc _) (by simp) | exact owns_base (hown.alloc _) (by have := hh.size; simp at this; omega)) _ [(k : Int)] (by rfl) (by first | exact slc_one _ _ | exact slc_oneB _ _ _ (by simp) | exact slc_drew (slc_oneB _ _ _ (by simp)) | exact (slc_oneB _ _ _ (by simp)).below hbl (Nat.le_refl _) | exact (slc_drew (slc_oneB _ _ _ (by simp))).below hbl (Nat.le_refl _)) (now.length + 1) (now ++ [(k : Int)]) (by simp) (by simp) (by omega) (by have := hkc.size; simp at this ⊢; omega) ?_; intro g2 cap2 w2 hown2 hbl2 hg2; have hba : Below wr.heap.size wr w2 := Below.trans (by first | assumption | exact hbc.alloc hbc.size _) hbl2; have hka : Kept S wr w2 := Kept.of_below hba (Nat.le_refl _))
            | (go_at_call 123; refine (HIH.out (some ⟨g2, 0, none⟩) cap2 (now ++ [(k : Int)]) w2 (done ++ wPart r top f now k) (now.length + 1) (by simp) (by have := HL.out; simp; omega) (by have := hka.size; omega) (owns_base hown2 (by omega)) ((HK0.out.trans HKw.out).trans hka) (HI.out _ _ _ HI1.out hba) HCN.out).mono ?_; rintro e w3 ⟨rfl, hi2, hkp2⟩; have hkz := hka.trans hkp2)
            | fail)
        all_goals
          have HI2 := Lib.hid hi2
          have HKZ := Lib.hid (HK1.out.trans hkz)
          clear hi2 hkz hkp2 hka hba hbc hkc hown2 hbl2 hg2 hown hbl hh
          go_wp2_with fail
          go_roundw
          case rel => exact ⟨k + 1, by go_num, by omega, by rw [wPart_succ, ← List.append_assoc]; exact HI2.out, HKZ.out⟩
          case measure => simp [intOf]; omega
      · obtain rfl : k = top + 1 := by omega
        go_wp2_with fail
        go_end0
        exact ⟨rfl, by rw [wSols_succ]; exact HI1.out, HKw.out⟩

end Go.Proofs.Ytkfiepiipigcmaa

namespace Go.Proofs.Ytkfiepiipigcmaa
open Go.RowKit

noncomputable def wSolsT (r : RowsD) (top : Int) : List (List Int) := wSols r top.toNat r.gains.length []
noncomputable def wcN (r : RowsD) (top : Int) : Int := if topB r top = true then ((wSolsT r top).length : Int) else 0
theorem wSolsT_len {r : RowsD} {top : Int} (h : topB r top = true) : (wSolsT r top).length ≤ 1296 := by
  obtain ⟨hv, h4, t1, t5⟩ := topB_parts h
  have hgl := hv.gl
  have h1 := wSols_len r top.toNat r.gains.length []
  have h2 : (top.toNat + 1) ^ r.gains.length ≤ 6 ^ 4 := Nat.le_trans (Nat.pow_le_pow_left (by omega) _) (Nat.pow_le_pow_right (by decide) (by omega))
  have : 6 ^ 4 = 1296 := by decide
  unfold wSolsT
  omega

/-- How many of the first are whole plans. -/
noncomputable def wcUp (r : RowsD) (B n N : Nat) : Nat := ((List.range N).filter fun m => wholeB r (digB B n m)).length
theorem wcUp_zero (r : RowsD) (B n : Nat) : wcUp r B n 0 = 0 := rfl
theorem wcUp_le (r : RowsD) (B n N : Nat) : wcUp r B n N ≤ N := by unfold wcUp; simpa using List.length_filter_le (fun m => wholeB r (digB B n m)) (List.range N)
theorem wcUp_succ (r : RowsD) (B n N : Nat) : wcUp r B n (N + 1) = wcUp r B n N + if wholeB r (digB B n N) = true then 1 else 0 := by
  unfold wcUp
  rw [List.range_succ, List.filter_append, List.length_append]
  by_cases h : wholeB r (digB B n N) = true <;> simp [h]
theorem wcUp_all (r : RowsD) (top n : Nat) : (wSols r top n []).length = wcUp r (top + 1) n ((top + 1) ^ n) := by
  rw [wSols_dig]
  unfold wcUp
  generalize (top + 1) ^ n = K
  induction K with
  | zero => rfl
  | succ K ih =>
    rw [List.range_succ, List.flatMap_append, List.filter_append, List.length_append, List.length_append, ih]
    congr 1
    by_cases h : wholeB r (digB (top + 1) n K) = true <;> simp [h]
theorem digB_at (B : Nat) (hB : 0 < B) : ∀ (n N i : Nat), N < B ^ n → i < n → 0 ≤ (digB B n N).getD i 0 ∧ (digB B n N).getD i 0 < (B : Int)
  | 0, N, i, _, h => by omega
  | n + 1, N, 0, hN, _ => by
    rw [Nat.pow_succ] at hN
    have : N / B ^ n < B := Nat.div_lt_of_lt_mul hN
    simp only [digB, List.getD_cons_zero]
    exact ⟨Int.natCast_nonneg _, by exact_mod_cast this⟩
  | n + 1, N, i + 1, hN, h => by
    simp only [digB, List.getD_cons_succ]
    exact digB_at B hB n _ i (Nat.mod_lt _ (Nat.pow_pos hB)) (by omega)

/-- What number the digits tell. -/
def digV (B : Nat) : List Int → Nat
  | [] => 0
  | d :: xs => d.toNat * B ^ xs.length + digV B xs
theorem digV_dig (B : Nat) : ∀ (n N : Nat), digV B (digB B n N) = if n = 0 then 0 else N
  | 0, N => rfl
  | n + 1, N => by
    simp only [digB, digV, digB_len, Int.toNat_natCast]
    rw [digV_dig B n]
    by_cases h : n = 0
    · subst h; simp
    · rw [if_neg h, if_neg (by omega), Nat.mul_comm]
      exact Nat.div_add_mod _ _
noncomputable def digAt (B g n : Nat) (w : World) : Nat := digV B ((List.range n).map fun i => intOf ((w.cell? ⟨g, i, none⟩).getD (.int .i64 0)))
theorem digAt_owns {base g n cap B N : Nat} {w : World} (h0 : n ≠ 0) (h : w.ownsRow base 2 1 (.slice (some ⟨g, 0, none⟩) n cap) n ((digB B n N).map I64)) : digAt B g n w = N := by
  unfold digAt
  rw [show ((List.range n).map fun i => intOf ((w.cell? ⟨g, i, none⟩).getD (.int .i64 0))) = digB B n N from ?_, digV_dig, if_neg h0]
  refine List.ext_getElem? fun i => ?_
  by_cases hi : i < n
  · have := h.cellAt i (by omega)
    rw [List.getElem?_map] at this
    obtain ⟨d, hd⟩ : ∃ d, (digB B n N)[i]? = some d := ⟨_, List.getElem?_eq_getElem (by rw [digB_len]; exact hi)⟩
    rw [hd] at this
    simp [hi, hd, this, I64, intOf]
  · rw [List.getElem?_eq_none (by simp; omega), List.getElem?_eq_none (by rw [digB_len]; omega)]

end Go.Proofs.Ytkfiepiipigcmaa

namespace Go.Proofs.Ytkfiepiipigcmaa
open Go.RowKit

def hasB (l : List Int) (x : Int) : Bool := l.contains x
theorem hasB_yes {l : List Int} {x : Int} {j : Nat} (hj : j < l.length) (h : l.getD j 0 = x) : hasB l x = true := by
  unfold hasB; rw [List.contains_iff_mem]
  have : l.getD j 0 = l[j] := by simp [hj]
  rw [this] at h; rw [← h]; exact List.getElem_mem hj
theorem hasB_no {l : List Int} {x : Int} (h : ∀ j, j < l.length → l.getD j 0 ≠ x) : hasB l x = false := by
  unfold hasB; rw [Bool.eq_false_iff]; intro hc
  rw [List.contains_iff_mem] at hc
  obtain ⟨j, hj, e⟩ := List.getElem_of_mem hc
  exact h j hj (by simp [hj, e])

set_option maxHeartbeats 400000 in
theorem has_any (v : Value) (l : List Int) (x : Int) (w : World) (h : RdI w v l) :
    Calls Try.prog 138 #[v, .int .i64 x] w fun e w' => e = .returned (.bool (hasB l x)) ∧ w = w' := by
  obtain ⟨a, c, rfl⟩ := h.shape
  have hl := h.len
  unfold maxLen at hl
  have HS := Lib.hid h
  clear h
  go_enter Try.func138, Try.ntmps138
  go_wp2_with fail
  go_loop [9] (fun i => ∃ k : Nat, i = .int .i64 k ∧ k ≤ l.length ∧ Hid (∀ j, j < k → l.getD j 0 ≠ x)) (fun i => l.length - (intOf i).toNat)
  case atStart => exact ⟨0, rfl, Nat.zero_le _, fun j hj => by omega⟩
  case round =>
    obtain ⟨k, rfl, hk, hno⟩ := hrel
    by_cases hlt : k < l.length
    · obtain ⟨b, off, rfl, _, hc⟩ := HS.out.at hlt
      obtain ⟨y, hy⟩ : ∃ y, y = l.getD k 0 := ⟨_, rfl⟩
      rw [← hy] at hc
      by_cases he : y = x
      · have he' : (y == x) = true := by simp [he]
        have HY := Lib.hid (show hasB l x = true from hasB_yes hlt (hy.symm.trans he))
        clear he hy
        go_wp2_with fail
        go_ret
        exact ⟨by rw [HY.out]; rfl, rfl⟩
      · have he' : (y == x) = false := by simp [he]
        have HE := Lib.hid (show l.getD k 0 ≠ x by rw [← hy]; exact he)
        clear he hy
        go_wp2_with fail
        go_round
        case rel => exact ⟨k + 1, by go_num, by omega, fun j hj => by
          rcases Nat.lt_succ_iff_lt_or_eq.1 hj with h | rfl
          · exact hno.out j h
          · exact HE.out⟩
        case measure => simp [intOf]; omega
    · obtain rfl : k = l.length := by omega
      go_wp2_with fail
      go_ret
      exact ⟨by rw [hasB_no hno.out]; rfl, rfl⟩

end Go.Proofs.Ytkfiepiipigcmaa

namespace Go.Proofs.Ytkfiepiipigcmaa

/-- All ways to go on from now by f numbers more. -/
def choi (D : List (List Int)) : Nat → List Int → List (List Int)
  | 0, now => [now]
  | f + 1, now => (D.getD now.length []).flatMap fun n => if now.contains n then [] else choi D f (now ++ [n])
/-- Those that go on with one of the first c numbers. -/
def cPart (D : List (List Int)) (f : Nat) (now : List Int) (c : Nat) : List (List Int) :=
  ((D.getD now.length []).take c).flatMap fun n => if now.contains n then [] else choi D f (now ++ [n])
theorem choi_succ (D : List (List Int)) (f : Nat) (now : List Int) : choi D (f + 1) now = cPart D f now (D.getD now.length []).length := by
  simp only [choi, cPart, List.take_length]
theorem cPart_zero (D : List (List Int)) (f : Nat) (now : List Int) : cPart D f now 0 = [] := by simp [cPart]
theorem cPart_succ (D : List (List Int)) (f : Nat) (now : List Int) (c : Nat) (h : c < (D.getD now.length []).length) :
    cPart D f now (c + 1) = cPart D f now c ++ if now.contains ((D.getD now.length []).getD c 0) then [] else choi D f (now ++ [(D.getD now.length []).getD c 0]) := by
  simp only [cPart]
  rw [List.take_add_one, List.flatMap_append]
  congr 1
  have e : (D.getD now.length [])[c]? = some ((D.getD now.length []).getD c 0) := by
    generalize D.getD now.length [] = d at h ⊢
    simp [h]
  rw [e]
  simp
theorem cPart_pre (D : List (List Int)) (f : Nat) (now : List Int) (c : Nat) : ∀ d, c + d ≤ (D.getD now.length []).length → ∃ m, cPart D f now (c + d) = cPart D f now c ++ m
  | 0, _ => ⟨[], by simp⟩
  | d + 1, h => by
    obtain ⟨m, hm⟩ := cPart_pre D f now c d (by omega)
    rw [← Nat.add_assoc, cPart_succ D f now (c + d) (by omega), hm, List.append_assoc]
    exact ⟨_, rfl⟩
theorem flatMap_le {α β : Type} (l : List α) (F : α → List β) (M : Nat) (h : ∀ a ∈ l, (F a).length ≤ M) : (l.flatMap F).length ≤ l.length * M := by
  induction l with
  | nil => simp
  | cons a l ih =>
    rw [List.flatMap_cons, List.length_append, List.length_cons, Nat.succ_mul]
    have h1 := h a (by simp)
    have h2 := ih fun b hb => h b (by simp [hb])
    omega
theorem choi_len (D : List (List Int)) (hD : ∀ d ∈ D, d.length ≤ 8) : ∀ (f : Nat) (now : List Int), (choi D f now).length ≤ 8 ^ f
  | 0, now => by simp [choi]
  | f + 1, now => by
    have hl : (D.getD now.length []).length ≤ 8 := by
      by_cases h : now.length < D.length
      · have : D.getD now.length [] = D[now.length] := by simp [h]
        rw [this]; exact hD _ (List.getElem_mem h)
      · simp [List.getElem?_eq_none (by omega : D.length ≤ now.length)]
    have := flatMap_le (D.getD now.length []) (fun n => if now.contains n then [] else choi D f (now ++ [n])) (8 ^ f) (fun n _ => by
      split
      · simp
      · exact choi_len D hD f _)
    simp only [choi]
    refine Nat.le_trans this ?_
    rw [Nat.pow_succ, Nat.mul_comm]
    exact Nat.mul_le_mul_left _ hl
theorem choi_mem (D : List (List Int)) : ∀ (f : Nat) (now s : List Int), s ∈ choi D f now → s.length = now.length + f
  | 0, now, s, h => by simp [choi] at h; subst h; rfl
  | f + 1, now, s, h => by
    simp only [choi, List.mem_flatMap] at h
    obtain ⟨n, _, h⟩ := h
    split at h
    · simp at h
    · have := choi_mem D f _ s h
      simp at this
      omega

end Go.Proofs.Ytkfiepiipigcmaa

namespace Go.Proofs.Ytkfiepiipigcmaa
open Go.RowKit

/-- The variable first: empty as long as nothing is found, then an own copy of what was found first. -/
def FirstInv (B0 : Nat) (w : World) (fv : Value) (acc : List (List Int)) : Prop :=
  (acc = [] ∧ ∃ a cap, fv = .slice a 0 cap) ∨
  ∃ s r g cap, acc = s :: r ∧ s ≠ [] ∧ fv = .slice (some ⟨g, 0, none⟩) s.length cap ∧ w.ownsRow B0 2 1 fv s.length (s.map I64)

theorem FirstInv.kept {B0 : Nat} {w w' : World} {fv : Value} {acc : List (List Int)} {b : Nat} (h : FirstInv B0 w fv acc) (hk : Kept (· = b) w w') (hb : Box w b 24 fv) : FirstInv B0 w' fv acc := by
  rcases h with h | ⟨s, r, g, cap, h1, h2, h3, h4⟩
  · exact .inl h
  · refine .inr ⟨s, r, g, cap, h1, h2, h3, owns_kept h4 hk ?_⟩
    intro k hk2 e
    subst e
    exact hb.not_owned h4 (by decide) hk2

theorem FirstInv.slice {B0 : Nat} {w : World} {fv : Value} {acc : List (List Int)} (h : FirstInv B0 w fv acc) : ∃ a n cap, fv = .slice a n cap := by
  rcases h with ⟨_, a, cap, h⟩ | ⟨s, r, g, cap, _, _, h, _⟩
  · exact ⟨_, _, _, h⟩
  · exact ⟨_, _, _, h⟩

/-- Integers that are read lie beside a variable that holds a slice. -/
theorem ints_beside {w w' : World} {a : Option Addr} {n cap : Nat} {xs : List Int} {b : Nat} {fv : Value} {t : TypeId} (h : Slc w (.slice a n cap) (xs.map I64)) (hb : Box w b t fv) (hf : ∃ a n cap, fv = .slice a n cap) (hk : Kept (· = b) w w') :
    Slc w' (.slice a n cap) (xs.map I64) := by
  refine h.kept hk fun ad u hu hc e => ?_
  have := hb.cell_eq e hc
  obtain ⟨a, n, cap, rfl⟩ := hf
  simp at hu
  obtain ⟨x, _, rfl⟩ := hu
  cases this

theorem FirstInv.keptS {B0 : Nat} {S : Nat → Prop} {w w' : World} {fv : Value} {acc : List (List Int)} {b : Nat} (h : FirstInv B0 w fv acc) (hk : Kept S w w') (hS : ∀ g, B0 ≤ g → S g → g = b) (hb : Box w b 24 fv) : FirstInv B0 w' fv acc := by
  rcases h with h | ⟨s, r, g, cap, h1, h2, h3, h4⟩
  · exact .inl h
  · refine .inr ⟨s, r, g, cap, h1, h2, h3, owns_kept h4 hk ?_⟩
    intro k hk2 e
    have hk3 := hS k (owns_lt h4 hk2).1 e
    subst hk3
    exact hb.not_owned h4 (by decide) hk2

/-- The variable of the closure. -/
def FQ (B0 fb : Nat) (done : List (List Int)) (w : World) : Prop :=
  (done = [] ∧ Box w fb 24 (.slice none 0 0)) ∨
  ∃ s r g cap, done = s :: r ∧ Box w fb 24 (.slice (some ⟨g, 0, none⟩) s.length cap) ∧ w.ownsRow B0 2 1 (.slice (some ⟨g, 0, none⟩) s.length cap) s.length (s.map I64)

theorem FQ.up {B0 fb : Nat} {done : List (List Int)} {w w' : World} (h : FQ B0 fb done w) (hb : Below w.heap.size w w') : FQ B0 fb done w' := by
  rcases h with ⟨h1, h2⟩ | ⟨s, r, g, cap, h1, h2, h3⟩
  · exact .inl ⟨h1, h2.below hb h2.lt⟩
  · exact .inr ⟨s, r, g, cap, h1, h2.below hb h2.lt, owns_below h3 hb (Nat.le_refl _)⟩


end Go.Proofs.Ytkfiepiipigcmaa

namespace Go.Proofs.Ytkfiepiipigcmaa
open Go.RowKit

/-- Each of the values reads as the list at its place. -/
def Each (w : World) (vs : List Value) (zss : List (List Int)) : Prop := vs.length = zss.length ∧ ∀ (i : Nat) u zs, vs[i]? = some u → zss[i]? = some zs → RdI w u zs
def RdL (w : World) (v : Value) (zss : List (List Int)) : Prop := ∃ vs, Slc w v vs ∧ Each w vs zss
/-- Owned: the outer row, and the inner ones, each in a block of its own. -/
def OwnEach (lo hi : Nat) (w : World) (vs : List Value) (zss : List (List Int)) : Prop :=
  vs.length = zss.length ∧ (∀ (i : Nat) u zs, vs[i]? = some u → zss[i]? = some zs → OwnI lo hi w u zs) ∧ ∀ (i j : Nat) u u' g, i ≠ j → vs[i]? = some u → vs[j]? = some u' → u.ownBlock = some g → u'.ownBlock ≠ some g
def OwnL (lo hi : Nat) (w : World) (v : Value) (zss : List (List Int)) : Prop :=
  ∃ vs, w.ownsRow lo 24 1 v zss.length vs ∧ (∀ g, v.ownBlock = some g → g < hi) ∧ OwnEach lo hi w vs zss
def lsum : List (List Int) → Nat
  | [] => 0
  | z :: r => z.length + lsum r
theorem lsum_append : ∀ (a b : List (List Int)), lsum (a ++ b) = lsum a + lsum b
  | [], b => by simp [lsum]
  | z :: r, b => by simp only [List.cons_append, lsum, lsum_append r b]; omega
def bulkL (zss : List (List Int)) : Nat := zss.length + lsum zss

theorem RdL.shape {w : World} {v : Value} {zss : List (List Int)} (h : RdL w v zss) : ∃ a c, v = .slice a zss.length c := by
  obtain ⟨vs, h1, h2⟩ := h
  obtain ⟨a, c, e⟩ := h1.shape
  exact ⟨a, c, by rw [e, h2.1]⟩
theorem RdL.len {w : World} {v : Value} {zss : List (List Int)} (h : RdL w v zss) : zss.length ≤ maxLen := by
  obtain ⟨vs, h1, h2⟩ := h
  rw [← h2.1]; exact h1.len
theorem Each.up {w w' : World} {vs : List Value} {zss : List (List Int)} {B : Nat} (h : Each w vs zss) (hb : Below B w w') (hB : w.heap.size ≤ B) : Each w' vs zss :=
  ⟨h.1, fun i u zs h1 h2 => (h.2 i u zs h1 h2).up hb hB⟩
theorem RdL.up {w w' : World} {v : Value} {zss : List (List Int)} {B : Nat} (h : RdL w v zss) (hb : Below B w w') (hB : w.heap.size ≤ B) : RdL w' v zss := by
  obtain ⟨vs, h1, h2⟩ := h
  exact ⟨vs, h1.below hb hB, h2.up hb hB⟩
/-- One of the lists. -/
theorem RdL.at {w : World} {a : Option Addr} {n c : Nat} {zss : List (List Int)} (h : RdL w (.slice a n c) zss) {i : Nat} (hi : i < zss.length) :
    ∃ b off u, a = some ⟨b, off, none⟩ ∧ b < w.heap.size ∧ w.cell? ⟨b, off + i, none⟩ = some u ∧ RdI w u (zss.getD i []) := by
  obtain ⟨vs, h1, h2⟩ := h
  have hv : i < vs.length := by rw [h2.1]; exact hi
  obtain ⟨b, off, ha, hb, hc⟩ := h1.at (List.getElem?_eq_getElem hv)
  exact ⟨b, off, vs[i], ha, hb, hc, h2.2 i _ _ (List.getElem?_eq_getElem hv) (by simp [hi])⟩

theorem OwnEach.each {lo hi : Nat} {w : World} {vs : List Value} {zss : List (List Int)} (h : OwnEach lo hi w vs zss) : Each w vs zss := ⟨h.1, fun i u zs h1 h2 => (h.2.1 i u zs h1 h2).rd⟩
theorem OwnL.rd {lo hi : Nat} {w : World} {v : Value} {zss : List (List Int)} (h : OwnL lo hi w v zss) : RdL w v zss := by
  obtain ⟨vs, h1, h2, h3⟩ := h
  exact ⟨vs, slc_of_owns h1, h3.each⟩
theorem OwnEach.up {lo hi : Nat} {w w' : World} {vs : List Value} {zss : List (List Int)} {B : Nat} (h : OwnEach lo hi w vs zss) (hb : Below B w w') (hB : w.heap.size ≤ B) : OwnEach lo hi w' vs zss :=
  ⟨h.1, fun i u zs h1 h2 => (h.2.1 i u zs h1 h2).up hb hB, h.2.2⟩
theorem OwnL.up {lo hi : Nat} {w w' : World} {v : Value} {zss : List (List Int)} {B : Nat} (h : OwnL lo hi w v zss) (hb : Below B w w') (hB : w.heap.size ≤ B) : OwnL lo hi w' v zss := by
  obtain ⟨vs, h1, h2, h3⟩ := h
  exact ⟨vs, owns_below h1 hb hB, h2, h3.up hb hB⟩
theorem OwnEach.wide {lo hi lo' hi' : Nat} {w : World} {vs : List Value} {zss : List (List Int)} (h : OwnEach lo hi w vs zss) (a : lo' ≤ lo) (b : hi ≤ hi') : OwnEach lo' hi' w vs zss :=
  ⟨h.1, fun i u zs h1 h2 => (h.2.1 i u zs h1 h2).wide a b, h.2.2⟩
theorem OwnL.wide {lo hi lo' hi' : Nat} {w : World} {v : Value} {zss : List (List Int)} (h : OwnL lo hi w v zss) (a : lo' ≤ lo) (b : hi ≤ hi') : OwnL lo' hi' w v zss := by
  obtain ⟨vs, h1, h2, h3⟩ := h
  exact ⟨vs, owns_base h1 a, fun g hg => Nat.lt_of_lt_of_le (h2 g hg) b, h3.wide a b⟩
theorem OwnL.kept {lo hi : Nat} {w w' : World} {v : Value} {zss : List (List Int)} {S : Nat → Prop} (h : OwnL lo hi w v zss) (hk : Kept S w w') (hs : ∀ b, lo ≤ b → b < hi → ¬ S b) : OwnL lo hi w' v zss := by
  obtain ⟨vs, h1, h2, h3⟩ := h
  exact ⟨vs, owns_kept h1 hk fun g hg => hs g (owns_lt h1 hg).1 (h2 g hg), h2, h3.1, fun i u zs a b => (h3.2.1 i u zs a b).kept hk hs, h3.2.2⟩

theorem sum_take_succ (zss : List (List Int)) (k : Nat) (hk : k < zss.length) : lsum (zss.take (k + 1)) = lsum (zss.take k) + (zss.getD k []).length := by
  rw [List.take_succ_eq_append_getElem hk, lsum_append]
  simp [hk, lsum]

theorem bulkL_le (zss : List (List Int)) (k : Nat) : lsum (zss.take k) + zss.length ≤ bulkL zss := by
  unfold bulkL
  have : lsum (zss.take k) + lsum (zss.drop k) = lsum zss := by rw [← lsum_append, List.take_append_drop]
  omega

theorem Try.infoInts : (Try.prog.info? 24).map (fun i => (i.zero, i.size, i.bytes)) = some (some (.slice none 0 0), 1, 24) := by kernel_rfl

end Go.Proofs.Ytkfiepiipigcmaa

namespace Go.Proofs.Ytkfiepiipigcmaa
open Go.RowKit

def ValDom (d : List Int) : Prop := 1 ≤ d.length ∧ d.length ≤ 8 ∧ ∀ k, k < d.length → inB 0 31 (d.getD k 0) = true ∧ (0 < k → d.getD (k - 1) 0 < d.getD k 0)
def ValD (zss : List (List Int)) : Prop := 1 ≤ zss.length ∧ zss.length ≤ 6 ∧ ∀ i, i < zss.length → ValDom (zss.getD i [])
open Classical in
noncomputable def validD (zss : List (List Int)) : Bool := decide (ValD zss)
theorem validD_true {zss : List (List Int)} (h : ValD zss) : validD zss = true := by simp [validD, h]
theorem validD_false {zss : List (List Int)} (h : ¬ ValD zss) : validD zss = false := by simp [validD, h]

end Go.Proofs.Ytkfiepiipigcmaa

namespace Go.Proofs.Ytkfiepiipigcmaa
open Go.RowKit

def allIn (lo hi : Int) (xs : List Int) : Bool := xs.all (inB lo hi)

theorem allIn_true {lo hi : Int} {xs : List Int} (h : ∀ i, i < xs.length → inB lo hi (xs.getD i 0) = true) : allIn lo hi xs = true := by
  unfold allIn
  rw [List.all_eq_true]
  intro x hx
  obtain ⟨i, hi, rfl⟩ := List.mem_iff_getElem.1 hx
  have := h i hi
  simpa [hi] using this
theorem allIn_false {lo hi : Int} {xs : List Int} {i : Nat} (hlt : i < xs.length) (h : inB lo hi (xs.getD i 0) = false) : allIn lo hi xs = false := by
  unfold allIn
  rw [List.all_eq_false]
  exact ⟨xs[i], List.getElem_mem hlt, by simpa [hlt] using h⟩

set_option maxHeartbeats 400000 in
theorem allWithin_any (v : Value) (xs : List Int) (lo hi : Int) (w : World) (h : RdI w v xs) :
    Calls Try.prog 81 #[v, .int .i64 lo, .int .i64 hi] w fun e w' => e = .returned (.bool (allIn lo hi xs)) ∧ w = w' := by
  obtain ⟨a, c, rfl⟩ := h.shape
  have hl := h.len
  unfold maxLen at hl
  have HS := Lib.hid h
  clear h
  go_enter Try.func81, Try.ntmps81
  go_wp2_with fail
  go_loop [11] (fun i => ∃ k : Nat, i = .int .i64 k ∧ k ≤ xs.length ∧ Hid (∀ i, i < k → inB lo hi (xs.getD i 0) = true)) (fun i => xs.length - (intOf i).toNat)
  case atStart => exact ⟨0, rfl, Nat.zero_le _, fun i hi => by omega⟩
  case round =>
    obtain ⟨k, rfl, hk, hall⟩ := hrel
    by_cases hlt : k < xs.length
    · obtain ⟨b, off, rfl, hb, hc⟩ := HS.out.at hlt
      obtain ⟨x, hx⟩ : ∃ x, x = xs.getD k 0 := ⟨_, rfl⟩
      rw [← hx] at hc
      have HX := Lib.hid hx
      clear hx
      by_cases hin : inB lo hi x = true
      · go_wp2_with (go_at_call 65; refine (within_any _ _ _ _).mono ?_; rintro e w' ⟨rfl, rfl⟩)
        go_round
        case rel => exact ⟨k + 1, by go_num, by omega, fun i hi => by
          rcases Nat.lt_succ_iff_lt_or_eq.1 hi with h | rfl
          · exact hall.out i h
          · rw [← HX.out]; exact hin⟩
        case measure => simp [intOf]; omega
      · have hin' : inB lo hi x = false := by simpa using hin
        go_wp2_with (go_at_call 65; refine (within_any _ _ _ _).mono ?_; rintro e w' ⟨rfl, rfl⟩)
        go_ret
        exact ⟨by rw [allIn_false hlt (by rw [← HX.out]; exact hin')]; rfl, rfl⟩
    · obtain rfl : k = xs.length := by omega
      go_wp2_with fail
      go_ret
      exact ⟨by rw [allIn_true hall.out]; rfl, rfl⟩

theorem allIn_iff (lo hi : Int) (xs : List Int) : allIn lo hi xs = true ↔ ∀ i, i < xs.length → inB lo hi (xs.getD i 0) = true := by
  constructor
  · intro h i hi
    unfold allIn at h
    rw [List.all_eq_true] at h
    have := h xs[i] (List.getElem_mem hi)
    simpa [hi] using this
  · exact allIn_true

def Rising (xs : List Int) : Prop := ∀ i, i < xs.length → 0 < i → xs.getD (i - 1) 0 < xs.getD i 0
instance (xs : List Int) : Decidable (Rising xs) := by unfold Rising; exact inferInstance
def risingB (xs : List Int) : Bool := decide (Rising xs)
theorem risingB_true {xs : List Int} (h : Rising xs) : risingB xs = true := by simp [risingB, h]
theorem risingB_false {xs : List Int} (h : ¬ Rising xs) : risingB xs = false := by simp [risingB, h]

end Go.Proofs.Ytkfiepiipigcmaa

namespace Go.Proofs.Ytkfiepiipigcmaa
open Go.RowKit

end Go.Proofs.Ytkfiepiipigcmaa

namespace Go.Proofs.Ytkfiepiipigcmaa
open Go.RowKit

theorem ValDom_iff (d : List Int) : ValDom d ↔ (1 ≤ d.length ∧ d.length ≤ 8) ∧ Rising d ∧ allIn 0 31 d = true := by
  rw [allIn_iff]
  constructor
  · rintro ⟨h1, h2, h3⟩
    exact ⟨⟨h1, h2⟩, fun i hi h0 => (h3 i hi).2 h0, fun i hi => (h3 i hi).1⟩
  · rintro ⟨⟨h1, h2⟩, h3, h4⟩
    exact ⟨h1, h2, fun i hi => ⟨h4 i hi, h3 i hi⟩⟩

end Go.Proofs.Ytkfiepiipigcmaa
