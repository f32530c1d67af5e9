/-
  FnExactWholeGap: texts joined: SolS, PlnS, PrcS, TofM, AppL.
-/
import Derived.Deep.RegionHeld3
import Derived.Maps.AppendAt
import Derived.Test.YtkfiepiipigcmaaMEWholeGapAA
import Derived.Test.YtkfiepiipigcmaaMEWholeGapAC
import Derived.Test.YtkfiepiipigcmaaMEWholeGapAJ
import Derived.Test.YtkfiepiipigcmaaMEWholeGapAL
import Derived.Test.YtkfiepiipigcmaaMEWholeGapAN
import Derived.Test.YtkfiepiipigcmaaMEWholeGapAO
import Derived.Test.YtkfiepiipigcmaaMEWholeGapAP
namespace Go.Proofs.Ytkfiepiipigcmaa
open Go.RowKit

theorem TpB.of {w : World} {q m l pc qc : Nat} {x : Int} {p b : Option Addr} {t : TabD} (hk : Blk w q 136 #[.int .i64 x, .slice p m pc, .slice b l qc]) (h : RdTb w (.agg #[.int .i64 x, .slice p m pc, .slice b l qc]) t) : TpB w q t := by
  obtain ⟨a', c', b', d', e⟩ := h.shape
  simp only [Value.agg.injEq, Array.mk.injEq, List.cons.injEq, Value.int.injEq, Value.slice.injEq, and_true, true_and] at e
  obtain ⟨rfl, ⟨rfl, rfl, rfl⟩, rfl, rfl, rfl⟩ := e
  exact ⟨_, _, _, _, hk, h⟩

/-- What 'l02Solved' tells. -/
def SlsPost (near most : Nat) (t : TabD) (B : Nat) (w : World) (e : Ending) (w' : World) : Prop :=
  ∃ (x : Int) (a : Option Addr) (n c : Nat) (b : Option Addr) (m d : Nat) (cnt col : Int), e = .returned (.tuple #[.agg #[.int .i64 x, .slice a n c, .slice b m d], .int .i64 cnt, .int .i64 col, .bool (solveO near most t).isSome]) ∧
    (∀ t', solveO near most t = some t' → ∀ Wg, Kept (· < B) w' Wg → RdTb Wg (.agg #[.int .i64 x, .slice a n c, .slice b m d]) t') ∧ Below B w w'

set_option maxHeartbeats 4000000 in
set_option maxRecDepth 8000 in
theorem l02Solved_any (bb : Nat) (t : TabD) (most near : Nat) (w : World) (h : TpB w bb t) (hg : GoodT t) (hnr : least near = true) (hmost : most ≤ 64) :
    Calls Try.prog 163 #[.pointer (some ⟨bb, 0, none⟩), .int .i64 most, .float .f32 near] w (SlsPost near most t w.heap.size w) := by
  have HOT := Lib.hid (fun X (hb : Below w.heap.size w X) => l02OwnTable_any bb t X (h.below hb (Nat.le_refl _)) hg.dim)
  have HG := Lib.hid hg
  clear h hg
  go_enter Try.func163, Try.ntmps163
  go_upto_region 1 with fail
  refine wp_at fun W0 hW0 => ?_
  have HB0 := Lib.hid (show Below w.heap.size w W0 by subst hW0; (repeat' first | exact Below.refl _ _ | assumption | refine Below.alloc ?_ ?_ _ | refine Below.setCell ?_ ?_ _ | refine Below.drew ?_ | (simp; done) | (simp; omega)))
  have HR0 := Lib.hid (show Blk W0 w.heap.size 136 #[.int .i64 0, .slice none 0 0, .slice none 0 0] by subst hW0; exact Blk.new _ _ _)
  have hz0 := HB0.out.size
  have hz01 := HR0.out.lt
  clear hW0
  go_upto_region 2 with (go_at_call 176; refine (HOT.out W0 HB0.out).mono ?_; rintro e w1 ⟨g, gc, h, hc, rfl, hog, hoh, hb1⟩; have HB1 := Lib.hid (HB0.out.trans (hb1.mono hz0)); have HR1 := Lib.hid (HR0.out.below hb1 hz01); have hz11 := hb1.size)
  refine wp_at fun W2 hW2 => ?_
  obtain ⟨q, hq⟩ : ∃ q, q = w1.heap.size := ⟨_, rfl⟩
  have HQ2 := Lib.hid (show Blk W2 q 136 #[.int .i64 t.vars, .slice (some ⟨g, 0, none⟩) t.nums.length gc, .slice (some ⟨h, 0, none⟩) t.basis.length hc] by subst hW2 hq; exact Blk.new _ _ _)
  have HR2 := Lib.hid (show Blk W2 w.heap.size 136 #[.int .i64 0, .slice none 0 0, .slice none 0 0] by subst hW2; exact HR1.out.alloc _)
  have HB2 := Lib.hid (show Below w.heap.size w W2 by subst hW2; exact HB1.out.alloc HB1.out.size _)
  have HG2 := Lib.hid (show W2.ownsRow W0.heap.size 63 1 (.slice (some ⟨g, 0, none⟩) t.nums.length gc) t.nums.length (t.nums.map F32) by subst hW2; exact hog.alloc _)
  have HH2 := Lib.hid (show W2.ownsRow W0.heap.size 2 1 (.slice (some ⟨h, 0, none⟩) t.basis.length hc) t.basis.length (t.basis.map I64) by subst hW2; exact hoh.alloc _)
  have hqz : w.heap.size < q := by omega
  rw [← hq]
  clear hW2 hq hog hoh hb1 hz11 HOT HB1 HR1
  have HT2 := Lib.hid (show ∀ Wf, Kept (fun b => b < w.heap.size ∨ b = w.heap.size ∨ b = q) W2 Wf → RdTb Wf (.agg #[.int .i64 t.vars, .slice (some ⟨g, 0, none⟩) t.nums.length gc, .slice (some ⟨h, 0, none⟩) t.basis.length hc]) t from fun Wf hk => by
    have n1 := HQ2.out.not_owned HG2.out (by decide)
    have n2 := HQ2.out.not_owned HH2.out (by decide)
    exact ⟨_, _, rfl, slc_of_owns (owns_kept HG2.out hk (fun b e s => by
      have := (owns_lt HG2.out e).1
      rcases s with s | s | s
      · omega
      · omega
      · exact n1 (by rw [← s]; exact e))), slc_of_owns (owns_kept HH2.out hk (fun b e s => by
      have := (owns_lt HH2.out e).1
      rcases s with s | s | s
      · omega
      · omega
      · exact n2 (by rw [← s]; exact e)))⟩)
  go_wp2_with fail
  go_loopw [11] (fun nv wr => ∃ (n F : Nat) (x : Int) (m l : Nat) (p b : Option Addr) (pc qc : Nat) (t' : TabD), nv = .int .i64 n ∧ Hid (n + F = most) ∧ Hid (Blk wr q 136 #[.int .i64 x, .slice p m pc, .slice b l qc]) ∧ Hid (∀ Wf, Kept (fun b => b < w.heap.size ∨ b = w.heap.size ∨ b = q) wr Wf → RdTb Wf (.agg #[.int .i64 x, .slice p m pc, .slice b l qc]) t') ∧ Hid (GoodT t') ∧ Hid (solveO near most t = solveO near F t') ∧ Hid (Blk wr w.heap.size 136 #[.int .i64 0, .slice none 0 0, .slice none 0 0]) ∧ Hid (Below w.heap.size w wr)) (fun nv _ => most + 1 - (intOf nv).toNat)
  case atStart => exact ⟨0, most, t.vars, _, _, _, _, _, _, t, rfl, Lib.hid (by omega), HQ2, HT2, HG, Lib.hid rfl, HR2, HB2⟩
  case round =>
    obtain ⟨n, F, x, m, l, p, b, pc, qc, t', rfl, HNF, HKB, HRD, HGT, HEQ, HRB, HB⟩ := hrel
    obtain ⟨wo, rfl⟩ : ∃ wo, wo = wr := ⟨wr, rfl⟩
    have HTP := Lib.hid (TpB.of HKB.out (HRD.out _ (Kept.refl _ _)))
    have HEN := Lib.hid (l02Enter_any q t' near wo HTP.out HGT.out)
    have hrg := enterT_rng t' near
    have HSE := Lib.hid (fun h => @solveO_end near F t' h)
    go_upto_region 5 with (go_at_call 177; refine HEN.out.mono ?_; rintro e w2 ⟨rfl, m2, rfl⟩)
    refine wp_at fun w3 hw3 => ?_
    have HK3 := Lib.hid (show Blk w3 q 136 #[.int .i64 x, .slice p m pc, .slice b l qc] by subst hw3; exact HKB.out)
    have HR3 := Lib.hid (show Blk w3 w.heap.size 136 #[.int .i64 0, .slice none 0 0, .slice none 0 0] by subst hw3; exact HRB.out)
    have HT3 := Lib.hid (show ∀ Wf, Kept (fun b => b < w.heap.size ∨ b = w.heap.size ∨ b = q) w3 Wf → RdTb Wf (.agg #[.int .i64 x, .slice p m pc, .slice b l qc]) t' from fun Wf hk => HRD.out Wf (by subst hw3; exact ((Kept.refl _ _).drewN _).trans hk))
    have HP3 := Lib.hid (show TpB w3 q t' by subst hw3; exact HTP.out.drewN _)
    have HB3 := Lib.hid (show Below w.heap.size w w3 by subst hw3; exact below_drewN HB.out _)
    clear hw3 HEN
    have d0 := HK3.out.cell 0 rfl
    have d1 := HK3.out.cell 1 rfl
    have d2 := HK3.out.cell 2 rfl
    have r0 := HR3.out.cell 0 rfl
    have r1 := HR3.out.cell 1 rfl
    have r2 := HR3.out.cell 2 rfl
    have s0 := HR3.out.free 0
    have s1 := HR3.out.free 1
    have s2 := HR3.out.free 2
    obtain ⟨en, hen⟩ : ∃ en, en = enterT t' near := ⟨_, rfl⟩
    rw [← hen] at hrg ⊢
    have HFN := Lib.hid (show solveO near most t = none → ∀ (x' : Int) (a' : Option Addr) (n' c' : Nat) (b' : Option Addr) (m' d' : Nat) (cnt col : Int) Wf, Kept (· = w.heap.size) w3 Wf → SlsPost near most t w.heap.size w (.returned (.tuple #[.agg #[.int .i64 x', .slice a' n' c', .slice b' m' d'], .int .i64 cnt, .int .i64 col, .bool false])) Wf from fun h x' a' n' c' b' m' d' cnt col Wf hk =>
      ⟨x', a', n', c', b', m', d', cnt, col, by rw [h]; rfl, fun t2 h2 => (by rw [h] at h2; cases h2), HB3.out.trans (hk.toBelow HB3.out.size (by intro k h1 h2; omega))⟩)
    rcases hrg with h1 | ⟨cl, hcl, h1⟩
    · have HS := Lib.hid (show solveO near most t = some t' by rw [HEQ.out]; exact HSE.out (by omega))
      subst h1
      clear hen
      have HFY := Lib.hid (show ∀ Wf, Kept (· = w.heap.size) w3 Wf → SlsPost near most t w.heap.size w (.returned (.tuple #[.agg #[.int .i64 x, .slice p m pc, .slice b l qc], .int .i64 n, .int .i64 (-1), .bool true])) Wf from fun Wf hk =>
        ⟨_, _, _, _, _, _, _, _, _, by rw [HS.out]; rfl, fun t2 h2 Wg hg => (by rw [HS.out] at h2; cases h2; exact HT3.out Wg ((hk.mono (fun _ _ e => .inr (.inl e))).trans (hg.mono (fun _ _ e => .inl e)))), HB3.out.trans (hk.toBelow HB3.out.size (by intro k h1 h2; omega))⟩)
      go_wp2_with fail
      refine bodyPost_ret (v := .tuple #[.agg #[.int .i64 x, .slice p m pc, .slice b l qc], .int .i64 n, .int .i64 (-1), .bool true]) (by simp [results, Try.results163, go_sem, *]) rfl (HFY.out _ ?_)
      repeat' first | exact Kept.refl _ _ | refine Kept.setCell ?_ (.inr (by simp)) _
    · have hNN := HNF.out
      by_cases hF : F = 0
      · subst hF
        have HS := Lib.hid (show solveO near most t = none by rw [HEQ.out]; exact solveO_stop (by rw [← hen]; omega))
        have hnm : ((n : Int) == (most : Int)) = true := by rw [beq_iff_eq]; omega
        have hcn : ¬ (cl : Int) < 0 := by omega
        subst h1
        clear hen hNN
        go_wp2_with fail
        refine bodyPost_ret (v := .tuple #[.agg #[.int .i64 0, .slice none 0 0, .slice none 0 0], .int .i64 0, .int .i64 (-1), .bool false]) (by simp [results, Try.results163, go_sem, *]) rfl (HFN.out HS.out _ _ _ _ _ _ _ _ _ _ ?_)
        repeat' first | exact Kept.refl _ _ | refine Kept.setCell ?_ (.inr (by simp)) _
      · obtain ⟨F', rfl⟩ : ∃ k, F = k + 1 := ⟨F - 1, by omega⟩
        have hnm : ((n : Int) == (most : Int)) = false := by rw [beq_eq_false_iff_ne]; omega
        have HLV := Lib.hid (l02Leave_any q t' cl near w3 HP3.out HGT.out hcl hnr)
        have hlr := leaveK_rng t' cl near t'.basis.length
        rw [show (leaveK t' cl near t'.basis.length).1 = leaveT t' cl near from rfl] at hlr
        have HEN2 := Lib.hid (show enterT t' near = (cl : Int) by rw [← hen]; exact h1)
        have hcn : ¬ (cl : Int) < 0 := by omega
        obtain ⟨lv, hlv⟩ : ∃ lv, lv = leaveT t' cl near := ⟨_, rfl⟩
        rw [← hlv] at hlr HLV
        subst h1
        clear hen
        rcases hlr with h2 | ⟨r, hr, h2, hgt⟩
        · have HS := Lib.hid (show solveO near most t = none by
            rw [HEQ.out]
            refine solveO_way (by rw [HEN2.out]; omega) ?_
            rw [HEN2.out, show ((cl : Int)).toNat = cl by omega, ← hlv]
            omega)
          subst h2
          clear hlv
          go_wp2_with (go_at_call 178; refine HLV.out.mono ?_; rintro e w4 ⟨rfl, m4, rfl⟩)
          refine bodyPost_ret (v := .tuple #[.agg #[.int .i64 x, .slice p m pc, .slice b l qc], .int .i64 n, .int .i64 cl, .bool false]) (by simp [results, Try.results163, go_sem, *]) rfl (HFN.out HS.out _ _ _ _ _ _ _ _ _ _ ?_)
          repeat' first | exact Kept.refl _ _ | refine Kept.setCell ?_ (.inr (by simp)) _ | refine Kept.drewN ?_ _
        · subst h2
          have HL2 := Lib.hid (show leaveT t' cl near = (r : Int) from hlv.symm)
          have hrn : ¬ (r : Int) < 0 := by omega
          have hg0 := gt_zero (HGT.out.at (i := r) (k := cl) (by omega) (by rw [wdT_cols]; omega)) hnr hgt
          clear hlv
          have HPV := Lib.hid (fun m => l02Pivot_any q t' r cl (w3.drewN m) (HP3.out.drewN m) HGT.out hr hcl hg0)
          obtain ⟨ok, hok⟩ : ∃ ok, ok = pivOk t' r cl := ⟨_, rfl⟩
          rw [← hok] at HPV
          have HOK := Lib.hid hok.symm
          have hw3z : w.heap.size < w3.heap.size := HR3.out.lt
          have hq3z : q < w3.heap.size := HK3.out.lt
          clear hok hg0 hgt hr
          cases ok
          · have HS := Lib.hid (show solveO near most t = none by rw [HEQ.out]; exact solveO_no HEN2.out HL2.out HOK.out)
            clear d0 d1 d2 r0 r1 r2 s0 s1 s2
            go_upto_region 13 with (first
              | (go_at_call 178; refine HLV.out.mono ?_; rintro e w4 ⟨rfl, m4, rfl⟩)
              | (go_at_call 179; refine (HPV.out m4).mono ?_; rintro e w5 ⟨x5, a5, n5, c5, b5, l5, d5, rfl, _, hb5⟩))
            refine wp_at fun w6 hw6 => ?_
            have HB6 := Lib.hid (show Below w3.heap.size w3 w6 by subst hw6; exact ((below_drewN (Below.refl _ _) m4).trans hb5).alloc (Nat.le_trans (by simp) hb5.size) _)
            have HR6 := Lib.hid (HR3.out.below HB6.out hw3z)
            clear hw6 hb5
            have r0 := HR6.out.cell 0 rfl
            have r1 := HR6.out.cell 1 rfl
            have r2 := HR6.out.cell 2 rfl
            have s0 := HR6.out.free 0
            have s1 := HR6.out.free 1
            have s2 := HR6.out.free 2
            go_wp2_with fail
            refine bodyPost_ret (v := .tuple #[.agg #[.int .i64 0, .slice none 0 0, .slice none 0 0], .int .i64 0, .int .i64 (-1), .bool false]) (by simp [results, Try.results163, go_sem, *]) rfl (HFN.out HS.out _ _ _ _ _ _ _ _ _ _ ((Kept.of_below HB6.out (Nat.le_refl _)).trans ?_))
            repeat' first | exact Kept.refl _ _ | refine Kept.setCell ?_ (.inr (by simp)) _
          · clear d0 d1 d2 r0 r1 r2 s0 s1 s2
            go_upto_region 15 with (first
              | (go_at_call 178; refine HLV.out.mono ?_; rintro e w4 ⟨rfl, m4, rfl⟩)
              | (go_at_call 179; refine (HPV.out m4).mono ?_; rintro e w5 ⟨x5, a5, n5, c5, b5, l5, d5, rfl, hy, hb5⟩))
            refine wp_at fun w6 hw6 => ?_
            have hz5 : w3.heap.size ≤ w5.heap.size := Nat.le_trans (by simp) hb5.size
            have HB6 := Lib.hid (show Below w3.heap.size w3 w6 by subst hw6; exact ((below_drewN (Below.refl _ _) m4).trans hb5).alloc hz5 _)
            have HR6 := Lib.hid (HR3.out.below HB6.out hw3z)
            have HK6 := Lib.hid (HK3.out.below HB6.out hq3z)
            have HN6 := Lib.hid (show Blk w6 w5.heap.size 136 #[.int .i64 x5, .slice a5 n5 c5, .slice b5 l5 d5] by subst hw6; exact Blk.new _ _ _)
            have HT6 := Lib.hid (show ∀ Wf, Kept (fun b => b < w.heap.size ∨ b = w.heap.size ∨ b = q) w6 Wf → RdTb Wf (.agg #[.int .i64 x5, .slice a5 n5 c5, .slice b5 l5 d5]) (pivT t' r cl) from fun Wf hk => by
              refine hy (by first | trivial | exact HOK.out) Wf ?_
              subst hw6
              exact ((Kept.refl _ w5).alloc _).trans (hk.mono (by rintro b e1 (e | e | e); (show b < w3.heap.size; omega); (show b < w3.heap.size; omega); (show b < w3.heap.size; omega))))
            have HGD := Lib.hid (pivT_good HGT.out HOK.out)
            have HEQ2 := Lib.hid (show solveO near most t = solveO near F' (pivT t' r cl) by rw [HEQ.out]; exact solveO_yes HEN2.out HL2.out HOK.out)
            clear hw6 hy hb5
            have d0 := HN6.out.cell 0 rfl
            have d1 := HN6.out.cell 1 rfl
            have d2 := HN6.out.cell 2 rfl
            have k0 := HK6.out.cell 0 rfl
            have k1 := HK6.out.cell 1 rfl
            have k2 := HK6.out.cell 2 rfl
            have s0 := HK6.out.free 0
            have s1 := HK6.out.free 1
            have s2 := HK6.out.free 2
            have hqw : w.heap.size ≤ q := by omega
            have HB6w := Lib.hid (HB3.out.trans (HB6.out.mono HB3.out.size))
            go_wp2_with fail
            go_roundw
            case rel => exact ⟨n + 1, F', x5, n5, l5, a5, b5, c5, d5, pivT t' r cl, by go_num, Lib.hid (by omega), Lib.hid (by simpa using ((HK6.out.set 0 (.int .i64 x5)).set 1 (.slice a5 n5 c5)).set 2 (.slice b5 l5 d5)), Lib.hid (fun Wf hk => HT6.out Wf (((kept_three _ _ _ _ _).mono (fun b _ e => .inr (.inr e))).trans hk)), HGD, HEQ2, Lib.hid (HR6.out.kept (kept_three _ _ _ _ _) (by omega)), Lib.hid (((HB6w.out.setCell hqw _).setCell hqw _).setCell hqw _)⟩
            case measure => simp [intOf]; omega

end Go.Proofs.Ytkfiepiipigcmaa

namespace Go.Proofs.Ytkfiepiipigcmaa
open Go.RowKit

set_option maxHeartbeats 2000000 in
set_option maxRecDepth 8000 in
theorem l02Plan_any (bb : Nat) (t : TabD) (w : World) (h : TpB w bb t) (hg : GoodT t) :
    Calls Try.prog 143 #[.pointer (some ⟨bb, 0, none⟩)] w fun e w' => ∃ u, e = .returned u ∧ OwnF w.heap.size w'.heap.size w' u (planT t) ∧ Below w.heap.size w w' := by
  have hd := hg.dim
  have h17 := hd.w17
  have HW := Lib.hid (fun X (hb : Below w.heap.size w X) => l02Wide_any bb t X (h.below hb (Nat.le_refl _)) hd)
  have HL := Lib.hid (show ∀ X, Below w.heap.size w X → ∀ i, i < t.basis.length → Calls Try.prog 164 #[.pointer (some ⟨bb, 0, none⟩), .int .i64 i, .int .i64 (colsT t : Nat)] X fun e w' => e = .returned (.float .f32 (lastT t i)) ∧ ∃ m, w' = X.drewN m from fun X hb i hi => l02At_any bb t i (colsT t) X (h.below hb (Nat.le_refl _)) hd (by omega) (by rw [wdT_cols]; omega))
  obtain ⟨a, c, b, d, hkb, hrt⟩ := h
  have HKB := Lib.hid hkb
  obtain ⟨C, hC⟩ : ∃ C, C = colsT t := ⟨_, rfl⟩
  have hWC : wdT t = C + 1 := by rw [hC]; rfl
  rw [hWC] at HW h17
  rw [← hC] at HL
  have hw1 : IntKind.i64.wrap (((C + 1 : Nat) : Int) - 1) = (C : Int) := by rw [IntWalk.i64_in _ (by omega)]; omega
  obtain ⟨W, hW⟩ : ∃ W : Int, W = ((C + 1 : Nat) : Int) := ⟨_, rfl⟩
  rw [← hW] at hw1 HW
  obtain ⟨i0, hi, hz0, hz1, hz2⟩ := info_parts Try.infoF32
  have HBS := Lib.hid hrt.parts.2
  have HBA := Lib.hid hg.bas
  have HST := Lib.hid (show ∀ i, planK t (i + 1) = if t.basis.getD i 0 < (t.vars : Int) then (planK t i).set (t.basis.getD i 0).toNat (lastT t i) else planK t i from fun i => rfl)
  have HPL := Lib.hid (planK_len t)
  obtain ⟨P, hP⟩ : ∃ P, P = planK t := ⟨_, rfl⟩
  have HEND := Lib.hid (show planT t = P t.basis.length by rw [hP]; rfl)
  have HP0 := Lib.hid (show P 0 = List.replicate t.vars 0 by rw [hP]; rfl)
  rw [← hP] at HST HPL
  obtain ⟨N, hN⟩ : ∃ N, N = t.basis.length := ⟨_, rfl⟩
  obtain ⟨V, hV⟩ : ∃ V, V = t.vars := ⟨_, rfl⟩
  have HN := Lib.hid hN.symm
  have hb8 : N ≤ 8 := by rw [hN]; exact hd.b8
  have hv8 : V ≤ 8 := by rw [hV]; exact hd.v8
  have hv1 : 1 ≤ V := by rw [hV]; exact hd.v1
  rw [← hN] at HBS HEND HBA
  rw [← hN] at HL
  rw [← hN, ← hV] at HKB
  rw [← hV] at HST HPL HP0
  clear hd hg hP hN hV hkb hrt hC hWC hW h17
  have d0 : w.cell? ⟨bb, 0, none⟩ = some (.int .i64 V) := HKB.out.cell 0 rfl
  have hbl : bb < w.heap.size := HKB.out.lt
  go_enter Try.func143, Try.ntmps143
  have hz0' : w.heap.size ≤ w.heap.size := Nat.le_refl _
  go_upto_region 2 with (at_make; refine wpList_make_full _ rfl _ _ 60 rfl w.heap.size 63 i0 (.float .f32 0) 1 Try.underlying60 hi hz0 hz1 .i64 .i64 V V V rfl rfl rfl rfl (by rw [hz2]; omega) (by simp [maxLen]; omega) (by simp) ?_; intro w2 hown hgrow)
  have hb2 : Below w.heap.size w w2 := (Below.refl _ _).grown hgrow (Nat.le_refl _) (by intro k hk; cases hk)
  have hz : (madeCells (Value.float .f32 0).cells (V * 1)).toList = (P 0).map F32 := by
    rw [HP0.out, List.map_replicate]
    show _ = List.replicate V (Value.float .f32 0)
    simpa [Value.cells] using toList_madeCells_one (Value.float .f32 0) V
  rw [hz] at hown
  obtain ⟨g, hg⟩ : ∃ g, g = w.heap.size := ⟨_, rfl⟩
  rw [← hg] at hown ⊢
  have hgl : g < w2.heap.size := (owns_lt hown (k := g) rfl).2
  have HO2 := Lib.hid hown
  have HB2 := Lib.hid hb2
  have HK2 := Lib.hid (HKB.out.below hb2 hbl)
  have hgw : w.heap.size ≤ g := by omega
  have HGE := Lib.hid hg
  clear hown hb2 hz hgrow hg d0
  have hz2' := HB2.out.size
  go_wp2_with fail
  go_loopw [4] (fun iv wr => ∃ i : Nat, iv = .int .i64 i ∧ i ≤ N ∧ Hid (wr.ownsRow g 63 1 (.slice (some ⟨g, 0, none⟩) V V) V ((P i).map F32)) ∧ Hid (Kept (· = g) w2 wr)) (fun iv _ => N + 1 - (intOf iv).toNat)
  case atStart => exact ⟨0, rfl, Nat.zero_le _, HO2, Lib.hid (Kept.refl _ _)⟩
  case round =>
    obtain ⟨i, rfl, hi, HO, HKP⟩ := hrel
    obtain ⟨wo, rfl⟩ : ∃ wo, wo = wr := ⟨wr, rfl⟩
    have HBo := Lib.hid (HB2.out.trans (HKP.out.toBelow hz2' (fun k h1 h2 => by omega)))
    have HKo := Lib.hid (HK2.out.kept HKP.out (by omega))
    by_cases hlt : i < N
    · have hltI : (i : Int) < (N : Int) := by omega
      obtain ⟨gb, go, rfl, hgb, h0⟩ := HBS.out.at (i := i) (by rw [HN.out]; exact hlt)
      have h1 := held_of HBo.out h0 (Nat.le_refl _)
      have hgg : gb ≠ g := by omega
      clear h0 hgb
      have hbr := HBA.out i hlt
      have hst := HST.out i
      have HLI := Lib.hid (fun n => HL.out (wo.drewN n) (below_drewN HBo.out n) i hlt)
      have HWI := Lib.hid (fun n => HW.out (wo.drewN n) (below_drewN HBo.out n))
      obtain ⟨x, hx⟩ : ∃ x, x = t.basis.getD i 0 := ⟨_, rfl⟩
      obtain ⟨l, hl⟩ : ∃ x, x = lastT t i := ⟨_, rfl⟩
      rw [← hx] at h1 hbr hst
      rw [← hl] at hst HLI
      have d0 : wo.cell? ⟨bb, 0, none⟩ = some (.int .i64 V) := HKo.out.cell 0 rfl
      have d1 : wo.cell? ⟨bb, 1, none⟩ = some (.slice a t.nums.length c) := HKo.out.cell 1 rfl
      have d2 : wo.cell? ⟨bb, 2, none⟩ = some (.slice (some ⟨gb, go, none⟩) N d) := HKo.out.cell 2 rfl
      clear hx hl
      by_cases hxv : x < (V : Int)
      · obtain ⟨y, rfl⟩ : ∃ y : Nat, x = (y : Int) := ⟨x.toNat, by omega⟩
        have hyV : y < V := by omega
        have HS2 := Lib.hid (show P (i + 1) = (P i).set y l by rw [hst, if_pos hxv, show ((y : Int)).toNat = y by omega])
        have hpl : y < (P i).length := by rw [HPL.out]; exact hyV
        clear hst
        have hyI : (y : Int) < (V : Int) := by omega
        have c1 : wo.cell? ⟨g, y, none⟩ = some (.float .f32 ((P i).getD y 0)) := by rw [HO.out.cellAt y (by omega), List.getElem?_map, List.getElem?_eq_getElem hpl, List.getD_eq_getElem?_getD, List.getElem?_eq_getElem hpl]; rfl
        have c2 := HO.out.frozenAt y
        have HS1 := Lib.hid (fun (X : World) (hX : ∃ n, X = wo.drewN n) => show (X.setCell ⟨g, y, none⟩ (.float .f32 l)).ownsRow g 63 1 (.slice (some ⟨g, 0, none⟩) V V) V ((P (i + 1)).map F32) by
          obtain ⟨n, rfl⟩ := hX
          rw [HS2.out, List.map_set]
          exact ((show (wo.drewN n).ownsRow g 63 1 (.slice (some ⟨g, 0, none⟩) V V) V ((P i).map F32) from HO.out).stored y (.float .f32 l)).1)
        have HS3 := Lib.hid (fun (X : World) (v : Value) (hX : ∃ n, X = wo.drewN n) => show Kept (· = g) w2 (X.setCell ⟨g, y, none⟩ v) by
          obtain ⟨n, rfl⟩ := hX
          exact (HKP.out.drewN n).setCell (.inr rfl) _)
        go_wp2_with fail
        go_quiet (fail)
        obtain ⟨wq, hwq⟩ : ∃ wq, wq = wo.drewN nq := ⟨_, rfl⟩
        rw [← hwq]
        have e2 : wq.cell? ⟨bb, 2, none⟩ = some (.slice (some ⟨gb, go, none⟩) N d) := by rw [hwq]; exact d2
        have e1 : wq.cell? ⟨gb, go + i, none⟩ = some (.int .i64 y) := by rw [hwq]; exact h1
        have e3 : wq.cell? ⟨g, y, none⟩ = some (.float .f32 ((P i).getD y 0)) := by rw [hwq]; exact c1
        have e4 : wq.frozen? ⟨g, y, none⟩ = false := by rw [hwq]; exact c2
        have HLQ := Lib.hid (fun n => show Calls Try.prog 164 #[.pointer (some ⟨bb, 0, none⟩), .int .i64 i, .int .i64 C] (wq.drewN n) fun e w' => e = .returned (.float .f32 l) ∧ ∃ m, w' = (wq.drewN n).drewN m by rw [hwq, World.drewN_drewN]; exact HLI.out _)
        have HWQ := Lib.hid (fun n => show Calls Try.prog 165 #[.pointer (some ⟨bb, 0, none⟩)] (wq.drewN n) fun e w' => e = .returned (.int .i64 W) ∧ ∃ m, w' = (wq.drewN n).drewN m by rw [hwq, World.drewN_drewN]; exact HWI.out _)
        have HWQE := Lib.hid (show ∀ n, ∃ k, wq.drewN n = wo.drewN k from fun n => ⟨_, by rw [hwq, World.drewN_drewN]⟩)
        clear hwq d0 d1 d2 h1 c1 c2
        have hbg : g ≠ bb := by omega
        go_wp2_with fail
        go_region_held3 (fun X => X.cell? ⟨bb, 2, none⟩ = some (.slice (some ⟨gb, go, none⟩) N d) ∧ X.cell? ⟨gb, go + i, none⟩ = some (.int .i64 y))
          (first | (simp [*]; done) | exact ⟨(by rw [World.cell?_setCell_far _ _ _ _ (by show g ≠ bb; exact hbg)]; simp [*]), (by rw [World.cell?_setCell_far _ _ _ _ (by show g ≠ gb; exact fun e => hgg e.symm)]; simp [*])⟩)
          (first
            | (go_at_call 165; refine (HWQ.out 1).mono ?_; rintro e w8 ⟨rfl, m8, rfl⟩)
            | (go_at_call 164; refine (HLQ.out _).mono ?_; rintro e w9 ⟨rfl, m9, rfl⟩)
            | fail)
        go_wp2_with fail
        go_roundw
        case rel => exact ⟨i + 1, by go_num, by omega, Lib.hid (HS1.out _ (HWQE.out _)), Lib.hid (HS3.out _ _ (HWQE.out _))⟩
        case measure => simp [intOf]; omega
      · have HS2 := Lib.hid (show P (i + 1) = P i by rw [hst, if_neg hxv])
        clear hst
        go_wp2_with fail
        go_quiet (fail)
        go_wp2_with fail
        go_roundw
        case rel => exact ⟨i + 1, by go_num, by omega, Lib.hid (by rw [HS2.out]; exact HO.out), Lib.hid (HKP.out.drewN _)⟩
        case measure => simp [intOf]; omega
    · obtain rfl : i = N := by omega
      have d2 : wo.cell? ⟨bb, 2, none⟩ = some (.slice b i d) := HKo.out.cell 2 rfl
      go_wp2_with fail
      go_ret
      refine ⟨_, rfl, ?_, HBo.out⟩
      rw [HEND.out]
      exact (OwnF.mk (n := V) HO.out).wide (by omega) (Nat.le_refl _)

end Go.Proofs.Ytkfiepiipigcmaa

namespace Go.Proofs.Ytkfiepiipigcmaa
open Go.RowKit

set_option maxHeartbeats 2000000 in
set_option maxRecDepth 8000 in
theorem l02Prices_any (bb : Nat) (t : TabD) (w : World) (h : TpB w bb t) (hg : GoodT t) :
    Calls Try.prog 144 #[.pointer (some ⟨bb, 0, none⟩)] w fun e w' => ∃ u, e = .returned u ∧ OwnF w.heap.size w'.heap.size w' u (priceT t) ∧ Below w.heap.size w w' := by
  have hd := hg.dim
  have h17 := hd.w17
  have hb8 := hd.b8
  have hv8 := hd.v8
  have hv1 := hd.v1
  have HW := Lib.hid (fun X (hb : Below w.heap.size w X) => l02Wide_any bb t X (h.below hb (Nat.le_refl _)) hd)
  have HA := Lib.hid (fun X (hb : Below w.heap.size w X) j (hj : j < wdT t) => l02At_any bb t t.basis.length j X (h.below hb (Nat.le_refl _)) hd (Nat.le_refl _) hj)
  obtain ⟨a, c, b, d, hkb, hrt⟩ := h
  have HKB := Lib.hid hkb
  have HNX := Lib.hid (priceK_next t)
  obtain ⟨P, hP⟩ : ∃ P, P = priceK t := ⟨_, rfl⟩
  have HEND := Lib.hid (show priceT t = P t.basis.length by rw [hP]; rfl)
  have HP0 := Lib.hid (show P 0 = [] by rw [hP]; rfl)
  rw [← hP] at HNX
  have hWC : wdT t = t.vars + t.basis.length + 1 := rfl
  obtain ⟨N, hN⟩ : ∃ N, N = t.basis.length := ⟨_, rfl⟩
  obtain ⟨V, hV⟩ : ∃ V, V = t.vars := ⟨_, rfl⟩
  rw [← hN] at HA HEND HNX hWC hb8 HKB
  rw [← hV] at HNX hWC hv8 hv1 HKB
  rw [hWC] at HW HA h17
  obtain ⟨C, hC⟩ : ∃ C, C = V + N := ⟨_, rfl⟩
  rw [← hC] at HW HA h17
  have hw1 : IntKind.i64.wrap (((C + 1 : Nat) : Int) - 1) = (C : Int) := by rw [IntWalk.i64_in _ (by omega)]; omega
  obtain ⟨W, hW⟩ : ∃ W : Int, W = ((C + 1 : Nat) : Int) := ⟨_, rfl⟩
  rw [← hW] at hw1 HW
  have d0 := HKB.out.cell 0 rfl
  have hbl := HKB.out.lt
  clear hd hg hP hN hV hWC hW h17 hkb hrt
  go_enter Try.func144, Try.ntmps144
  go_upto_region 2 with fail
  refine wp_at fun W0 hW0 => ?_
  have HO0 := Lib.hid (show W0.ownsRow w.heap.size 63 1 (.slice (some ⟨w.heap.size, 0, none⟩) 0 0) 0 ((P 0).map F32) by subst hW0; rw [HP0.out]; exact ownsF_empty w)
  have HB0 := Lib.hid (show Below w.heap.size w W0 by subst hW0; (repeat' first | exact Below.refl _ _ | assumption | refine Below.alloc ?_ ?_ _ | refine Below.setCell ?_ ?_ _ | refine Below.drew ?_ | (simp; done) | (simp; omega)))
  have HK0 := Lib.hid (HKB.out.below HB0.out hbl)
  clear hW0 d0
  have hz0 := HB0.out.size
  have d0 : W0.cell? ⟨bb, 0, none⟩ = some (.int .i64 V) := HK0.out.cell 0 rfl
  go_wp2_with fail
  go_loopw [3, 4] (fun ov sv wr => ∃ (k s : Nat) (g : Option Addr) (cc : Nat), ov = .slice g k cc ∧ sv = .int .i64 s ∧ Hid (s = V + k) ∧ k ≤ N ∧ Hid (wr.ownsRow w.heap.size 63 1 (.slice g k cc) k ((P k).map F32)) ∧ Hid (Below w.heap.size w wr)) (fun _ sv _ => C + 1 - (intOf sv).toNat)
  case atStart => exact ⟨0, V, _, 0, rfl, rfl, Lib.hid rfl, Nat.zero_le _, HO0, HB0⟩
  case round =>
    obtain ⟨k, s, g, cc, rfl, rfl, HS, hk, HO, HB⟩ := hrel
    obtain ⟨wo, rfl⟩ : ∃ wo, wo = wr := ⟨wr, rfl⟩
    have HKo := Lib.hid (HKB.out.below HB.out hbl)
    have d2 : wo.cell? ⟨bb, 2, none⟩ = some (.slice b N d) := HKo.out.cell 2 rfl
    have hszo := HB.out.size
    have HWW := Lib.hid (HW.out wo HB.out)
    by_cases hlt : k < N
    · have hsI : (s : Int) < (C : Int) := by have := HS.out; omega
      have hsC : s < C := by omega
      have HAJ := Lib.hid (fun n => HA.out (wo.drewN n) (below_drewN HB.out n) s (by omega))
      have HE := Lib.hid (show P (k + 1) = P k ++ [atT t N s] by rw [HNX.out, HS.out])
      obtain ⟨x, hx⟩ : ∃ x, x = atT t N s := ⟨_, rfl⟩
      rw [← hx] at HAJ HE
      have HOn := Lib.hid (show ∀ n, (wo.drewN n).ownsRow w.heap.size 63 1 (.slice g k cc) k ((P k).map F32) from fun n => HO.out)
      clear hx
      go_wp2_with (first
        | (go_at_call 165; refine HWW.out.mono ?_; rintro e w2 ⟨rfl, m2, rfl⟩)
        | (go_at_call 164; refine (HAJ.out _).mono ?_; rintro e w3 ⟨rfl, m3, rfl⟩)
        | (at_builtin; refine app_flts rfl _ _ rfl w.heap.size (.slice g k cc) k (P k) rfl ((HOn.out _).alloc _) _ [x] rfl (slcF_oneB _ x _ (by simp)) (k + 1) (P (k + 1)) (by simp) HE.out (by omega) (by simp; omega) ?_; intro g4 c4 w4 hown4 hbl4 _ _; have HB4 := Lib.hid ((below_drewN HB.out _).trans (((Below.refl _ _).alloc (by simp; omega) _).trans hbl4)); have HO4 := Lib.hid hown4; clear hown4 hbl4))
      go_roundw
      case rel => exact ⟨k + 1, s + 1, g4, c4, rfl, by go_num, Lib.hid (by have := HS.out; omega), by omega, HO4, HB4⟩
      case measure => simp [intOf]; omega
    · obtain rfl : k = N := by omega
      have hsI : ¬ (s : Int) < (C : Int) := by have := HS.out; omega
      go_wp2_with (go_at_call 165; refine HWW.out.mono ?_; rintro e w2 ⟨rfl, m2, rfl⟩)
      go_ret
      refine ⟨_, rfl, ?_, below_drewN HB.out _⟩
      rw [HEND.out]
      exact (OwnF.mk (n := k) HO.out)

end Go.Proofs.Ytkfiepiipigcmaa

namespace Go.Proofs.Ytkfiepiipigcmaa
open Go.RowKit

/-- A table under way: its block, its two rows, the place of what is returned. -/
structure Tof (w wr : World) (q V : Nat) (g : Option Addr) (z cg : Nat) (L : List Nat) (b : Option Addr) (i cb : Nat) (Bs : List Int) : Prop where
  blk : Blk wr q 136 #[.int .i64 V, .slice g z cg, .slice b i cb]
  on : wr.ownsRow w.heap.size 63 1 (.slice g z cg) z (L.map F32)
  ob : wr.ownsRow w.heap.size 2 1 (.slice b i cb) i (Bs.map I64)
  ret : Blk wr w.heap.size 136 #[.int .i64 0, .slice none 0 0, .slice none 0 0]
  bel : Below w.heap.size w wr
variable {w wr X w' : World} {q V z cg i cb z' cg' i' cb' : Nat} {g b g' b' : Option Addr} {L L' : List Nat} {Bs Bs' : List Int}
theorem Tof.midN (h : Tof w wr q V g z cg L b i cb Bs) (hX : Below wr.heap.size wr X) (hg : X.grownBy w' (Value.slice g z cg).ownBlock) : Blk w' q 136 #[.int .i64 V, .slice g z cg, .slice b i cb] := by
  have bX := h.blk.below hX h.blk.lt
  exact blk_grown bX hg (bX.not_owned (owns_below h.on hX (Nat.le_refl _)) (by decide))
theorem Tof.appN (h : Tof w wr q V g z cg L b i cb Bs) (hq : w.heap.size < q) (hX : Below wr.heap.size wr X) (hg : X.grownBy w' (Value.slice g z cg).ownBlock) (hb : Below w.heap.size X w')
    (ho : w'.ownsRow w.heap.size 63 1 (.slice g' z' cg') z' (L'.map F32)) : Tof w (w'.setCell ⟨q, 1, none⟩ (.slice g' z' cg')) q V g' z' cg' L' b i cb Bs := by
  have oX := owns_below h.on hX (Nat.le_refl _)
  have obX := owns_below h.ob hX (Nat.le_refl _)
  have bw := h.midN hX hg
  have rX := h.ret.below hX h.ret.lt
  have rw' := blk_grown rX hg (rX.not_owned oX (by decide))
  have obw := owns_grown2 obX hg (owns_types obX oX (by decide))
  refine ⟨by simpa using bw.set 1 (.slice g' z' cg'), ownsRow_setCell_other ho (bw.not_owned ho (by decide)) _, ownsRow_setCell_other obw (bw.not_owned obw (by decide)) _, rw'.other (by simp; omega) _, ((h.bel.trans (hX.mono h.bel.size)).trans hb).setCell (by show w.heap.size ≤ q; omega) _⟩
theorem Tof.midB (h : Tof w wr q V g z cg L b i cb Bs) (hX : Below wr.heap.size wr X) (hg : X.grownBy w' (Value.slice b i cb).ownBlock) : Blk w' q 136 #[.int .i64 V, .slice g z cg, .slice b i cb] := by
  have bX := h.blk.below hX h.blk.lt
  exact blk_grown bX hg (bX.not_owned (owns_below h.ob hX (Nat.le_refl _)) (by decide))
theorem Tof.appB (h : Tof w wr q V g z cg L b i cb Bs) (hq : w.heap.size < q) (hX : Below wr.heap.size wr X) (hg : X.grownBy w' (Value.slice b i cb).ownBlock) (hb : Below w.heap.size X w')
    (ho : w'.ownsRow w.heap.size 2 1 (.slice b' i' cb') i' (Bs'.map I64)) : Tof w (w'.setCell ⟨q, 2, none⟩ (.slice b' i' cb')) q V g z cg L b' i' cb' Bs' := by
  have oX := owns_below h.on hX (Nat.le_refl _)
  have obX := owns_below h.ob hX (Nat.le_refl _)
  have bw := h.midB hX hg
  have rX := h.ret.below hX h.ret.lt
  have rw' := blk_grown rX hg (rX.not_owned obX (by decide))
  have onw := owns_grown2 oX hg (owns_types oX obX (by decide))
  refine ⟨by simpa using bw.set 2 (.slice b' i' cb'), ownsRow_setCell_other onw (bw.not_owned onw (by decide)) _, ownsRow_setCell_other ho (bw.not_owned ho (by decide)) _, rw'.other (by simp; omega) _, ((h.bel.trans (hX.mono h.bel.size)).trans hb).setCell (by show w.heap.size ≤ q; omega) _⟩

/-! ### what it holds -/
def hdK (r : RowsD) (i k : Nat) : List Nat := if i < r.bnds.length then (rowO r i).take k else tabG r k
def rowK (r : RowsD) (i k : Nat) : List Nat := tabN r i ++ hdK r i k
def unK (r : RowsD) (i k : Nat) : List Nat := rowK r i r.gains.length ++ (unitsL r.bnds.length i).take k
theorem rowK_zero (r : RowsD) (i : Nat) : rowK r i 0 = tabN r i := by
  unfold rowK hdK
  split
  · simp
  · simp [tabG]
theorem rowK_next {r : RowsD} (hv : ValR r) {i k : Nat} (hi : i < r.bnds.length) (hk : k < r.gains.length) : rowK r i (k + 1) = rowK r i k ++ [r.nums.getD (i * r.gains.length + k) 0] := by
  have hl := rowO_len hv hi
  unfold rowK hdK
  rw [if_pos hi, if_pos hi, List.take_add_one, List.getElem?_eq_getElem (by rw [hl]; exact hk), Option.toList_some, List.append_assoc]
  congr 3
  have : (rowO r i)[k]? = r.nums[i * r.gains.length + k]? := by
    unfold rowO
    rw [List.getElem?_take_of_lt hk, List.getElem?_drop]
  rw [List.getElem?_eq_getElem (by rw [hl]; exact hk)] at this
  rw [List.getD_eq_getElem?_getD, ← this]
  rfl
theorem rowK_nextG {r : RowsD} {k : Nat} (hk : k < r.gains.length) : rowK r r.bnds.length (k + 1) = rowK r r.bnds.length k ++ [negF (r.gains.getD k 0)] := by
  unfold rowK hdK
  rw [if_neg (Nat.lt_irrefl _), if_neg (Nat.lt_irrefl _), tabG_next r k hk, List.append_assoc]
theorem unK_zero (r : RowsD) (i : Nat) : unK r i 0 = rowK r i r.gains.length := by unfold unK; simp
theorem unK_next (r : RowsD) (i : Nat) {k : Nat} (hk : k < r.bnds.length) : unK r i (k + 1) = unK r i k ++ [if k = i then oneF else 0] := by
  unfold unK
  rw [List.take_add_one, List.getElem?_eq_getElem (by rw [unitsL_len]; exact hk), Option.toList_some, List.append_assoc]
  congr 3
  simp [unitsL]
theorem unK_row {r : RowsD} (hv : ValR r) {i : Nat} (hi : i < r.bnds.length) : unK r i r.bnds.length ++ [r.bnds.getD i 0] = tabN r (i + 1) := by
  unfold unK rowK hdK
  rw [if_pos hi, List.take_of_length_le (by rw [rowO_len hv hi]; exact Nat.le_refl _), List.take_of_length_le (by rw [unitsL_len]; exact Nat.le_refl _)]
  show _ = tabN r i ++ (rowO r i ++ unitsL r.bnds.length i ++ [r.bnds.getD i 0])
  simp only [List.append_assoc]
theorem unK_last (r : RowsD) : unK r r.bnds.length r.bnds.length ++ [0] = (tableT r).nums := by
  unfold unK rowK hdK
  rw [if_neg (Nat.lt_irrefl _), List.take_of_length_le (by rw [unitsL_len]; exact Nat.le_refl _)]
  show _ = tabN r r.bnds.length ++ tabG r r.gains.length ++ List.replicate (r.bnds.length + 1) 0
  have e : unitsL r.bnds.length r.bnds.length = List.replicate r.bnds.length 0 := by
    unfold unitsL
    apply List.ext_getElem (by simp)
    intro k h1 h2
    simp at h1
    simp
    omega
  rw [e, List.replicate_succ', List.append_assoc]

end Go.Proofs.Ytkfiepiipigcmaa

namespace Go.Proofs.Ytkfiepiipigcmaa
open Go.RowKit

theorem wp_app_intsL {w : World} {o : Oper} {a : Act} {K : Act → World → Prop} {Q : Exit → Act → World → Prop} (s x : Operand)
    (ho : o.op = .call { callee := .builtin .append, args := #[s, x], argTypes := #[24, 24] })
    (base : Nat) (v : Value) (n : Nat) (xs : List Int) (hs : a.eval s = v) (hown : w.ownsRow base 2 1 v n (xs.map I64))
    (sv : Value) (news : List Int) (hx : a.eval x = sv) (hsv : Slc w sv (news.map I64)) (m : Nat) (ys : List Int) (hm : m = n + news.length) (hys : ys = xs ++ news) (hlen : m ≤ 17592186044416) (hbase : base ≤ w.heap.size)
    (h : ∀ a' cap' w', w'.ownsRow base 2 1 (.slice a' m cap') m (ys.map I64) → Below base w w' → w.grownBy w' v.ownBlock → ((Value.slice a' m cap').ownBlock = v.ownBlock ∨ (Value.slice a' m cap').ownBlock = some w.heap.size) → K (a.put o.dst (.slice a' m cap')) w') :
    o.wp Try.prog a w K Q := by
  obtain ⟨i0, hi, hz0, hz1, hz2⟩ := info_parts Try.infoI64
  subst hm hys
  have hk : ∀ v' w', w'.ownsRow base 2 1 v' (n + news.length) (xs.map I64 ++ news.map I64) → w.grownBy w' v.ownBlock → (v'.ownBlock = v.ownBlock ∨ v'.ownBlock = some w.heap.size) → K (a.put o.dst v') w' := by
    intro v' w' h1 h2 h3
    have h1' : w'.ownsRow base 2 1 v' (n + news.length) ((xs ++ news).map I64) := by simpa using h1
    obtain ⟨a', cap', rfl⟩ := owns_shape h1'
    exact h a' cap' w' h1' (below_grown hown hbase h2) h2 h3
  rcases hsv with ⟨rfl, hnil⟩ | ⟨ad, cap, rfl, hcl, hcm, hc⟩
  · have hn : news = [] := by simpa using hnil
    subst hn
    have hrun := run_append_owned_none (P := Try.prog) (w := w) base 24 o.type 2 i0 1 Try.underlying24 hi v n (xs.map I64) hown
    unfold Oper.wp
    simp [execOp, ho, resolve, invoke, builtin, hs, hx, hrun, Result.andThen]
    exact hk v w (by simpa using hown) (World.grownBy.refl _ _) (.inl rfl)
  · obtain ⟨v', w', hr, h2, h3, _, h5⟩ := run_append_own_at (P := Try.prog) w base 24 o.type 2 i0 (.int .i64 0) 1 8 Try.underlying24 hi hz0 hz1 hz2 rfl (by decide) v n (xs.map I64) hown ad (news.map I64).length cap (news.map I64) (by simp) hc (i64_one news) (by simp [maxLen]; omega) (by simp; omega) hbase
    unfold Oper.wp execOp
    simp only [ho, resolve, invoke, builtin, Sem.run_bind, Sem.run_pure, Result.andThen_ok, List.map_toArray, List.map_cons, List.map_nil, hs, hx, hr]
    exact hk _ _ (by simpa using h2) h3 h5

theorem app_intsL {w : World} {ops : Array Oper} {rest : List Oper} {o : Oper} {a : Act} {Q : Exit → Act → World → Prop} (hgd : o.guard = none) (s x : Operand)
    (ho : o.op = .call { callee := .builtin .append, args := #[s, x], argTypes := #[24, 24] })
    (base : Nat) (v : Value) (n : Nat) (xs : List Int) (hs : a.eval s = v) (hown : w.ownsRow base 2 1 v n (xs.map I64))
    (sv : Value) (news : List Int) (hx : a.eval x = sv) (hsv : Slc w sv (news.map I64)) (m : Nat) (ys : List Int) (hm : m = n + news.length) (hys : ys = xs ++ news) (hlen : m ≤ 17592186044416) (hbase : base ≤ w.heap.size)
    (h : ∀ a' cap' w', w'.ownsRow base 2 1 (.slice a' m cap') m (ys.map I64) → Below base w w' → w.grownBy w' v.ownBlock → ((Value.slice a' m cap').ownBlock = v.ownBlock ∨ (Value.slice a' m cap').ownBlock = some w.heap.size) → wpList Try.prog ops Q rest (a.put o.dst (.slice a' m cap')) w') :
    wpList Try.prog ops Q (o :: rest) a w := by
  obtain ⟨i0, hi, hz0, hz1, hz2⟩ := info_parts Try.infoI64
  subst hm hys
  have hk : ∀ v' w', w'.ownsRow base 2 1 v' (n + news.length) (xs.map I64 ++ news.map I64) → w.grownBy w' v.ownBlock → (v'.ownBlock = v.ownBlock ∨ v'.ownBlock = some w.heap.size) → wpList Try.prog ops Q rest (a.put o.dst v') w' := by
    intro v' w' h1 h2 h3
    have h1' : w'.ownsRow base 2 1 v' (n + news.length) ((xs ++ news).map I64) := by simpa using h1
    obtain ⟨a', cap', rfl⟩ := owns_shape h1'
    exact h a' cap' w' h1' (below_grown hown hbase h2) h2 h3
  rcases hsv with ⟨rfl, hnil⟩ | ⟨ad, cap, rfl, hcl, hcm, hc⟩
  · have hn : news = [] := by simpa using hnil
    subst hn
    refine wpList_append_own_none hgd s x 24 ho base 2 i0 1 Try.underlying24 hi v n (xs.map I64) hs hown hx ?_
    exact hk v w (by simpa using hown) (World.grownBy.refl _ _) (.inl rfl)
  · refine wpList_append_own_at w hgd s x 24 ho base 2 i0 (.int .i64 0) 1 8 Try.underlying24 hi hz0 hz1 hz2 rfl (by decide) v n (xs.map I64) hs hown ad (news.map I64).length cap (news.map I64) hx (by simp) hc (i64_one news) (by simp [maxLen]; omega) (by simp; omega) hbase ?_
    intro v' w' h2 h3 _ h5
    exact hk v' w' (by simpa using h2) h3 h5

theorem step_app_intsL {w : World} {ops : Array Oper} {o : Oper} {a : Act} {K : Act → World → Prop} {Q : Exit → Act → World → Prop} {E : Prop} (hgd : o.guard = none) (s x : Operand)
    (ho : o.op = .call { callee := .builtin .append, args := #[s, x], argTypes := #[24, 24] })
    (base : Nat) (v : Value) (n : Nat) (xs : List Int) (hs : a.eval s = v) (hown : w.ownsRow base 2 1 v n (xs.map I64))
    (sv : Value) (news : List Int) (hx : a.eval x = sv) (hsv : Slc w sv (news.map I64)) (m : Nat) (ys : List Int) (hm : m = n + news.length) (hys : ys = xs ++ news) (hlen : m ≤ 17592186044416) (hbase : base ≤ w.heap.size)
    (h : ∀ a' cap' w', w'.ownsRow base 2 1 (.slice a' m cap') m (ys.map I64) → Below base w w' → w.grownBy w' v.ownBlock → ((Value.slice a' m cap').ownBlock = v.ownBlock ∨ (Value.slice a' m cap').ownBlock = some w.heap.size) → K (a.put o.dst (.slice a' m cap')) w') :
    if Region.wanted o (yielded ops a.tmps) = true then Oper.wp Try.prog o a w K Q else E := by
  have hw : Region.wanted o (yielded ops a.tmps) = true := by simp [Region.wanted, hgd]
  rw [if_pos hw]
  exact wp_app_intsL s x ho base v n xs hs hown sv news hx hsv m ys hm hys hlen hbase h

theorem blkI_newB (w : World) (t : TypeId) (cs : Array Value) (b : Nat) (hb : b = w.heap.size) : Blk (w.alloc (.cells cs t)) b t cs := by subst hb; exact Blk.new w t cs
theorem blkI_grown {w w' : World} {b : Nat} {t : TypeId} {cs : Array Value} {row : Option Nat} (h : Blk w b t cs) (hg : w.grownBy w' row) (hne : row ≠ some b) : Blk w' b t cs :=
  (hg.block b h.lt (fun e => hne e.symm)).trans h
theorem OwnI.blk {lo hi : Nat} {w : World} {v : Value} {xs : List Int} (h : OwnI lo hi w v xs) {b : Nat} (hb : v.ownBlock = some b) : lo ≤ b ∧ b < hi := ⟨(owns_lt h.1 hb).1, h.2 b hb⟩

/-- Another list stays its own where one has grown. -/
theorem ownI_grown {lo hi : Nat} {w w' : World} {v u : Value} {xs : List Int} (h : OwnI lo hi w v xs) (hg : w.grownBy w' u.ownBlock) (hn : ∀ g, v.ownBlock = some g → u.ownBlock ≠ some g) : OwnI lo hi w' v xs := by
  refine ⟨owns_kept (S := fun k => u.ownBlock = some k) h.1 ⟨hg.os, hg.tape, hg.output, hg.size, fun k hk hs => hg.block k hk fun e => hs e.symm⟩ hn, h.2⟩
end Go.Proofs.Ytkfiepiipigcmaa
