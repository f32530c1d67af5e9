/-
  FnExactWholeGap: texts joined: OwnTS, TabW.
-/
import Derived.Deep.CutRange
import Derived.Deep.RegionHeld3
import Derived.Test.YtkfiepiipigcmaaMEWholeGapAD
import Derived.Test.YtkfiepiipigcmaaMEWholeGapAI
import Derived.Test.YtkfiepiipigcmaaMEWholeGapAN
namespace Go.Proofs.Ytkfiepiipigcmaa
open Go.RowKit

set_option maxHeartbeats 4000000 in
set_option maxRecDepth 4000 in
theorem l02OwnTable_any (bb : Nat) (t : TabD) (w : World) (h : TpB w bb t) (hd : DimT t) :
    Calls Try.prog 176 #[.pointer (some ⟨bb, 0, none⟩)] w fun e w' => ∃ g gc h hc, e = .returned (.agg #[.int .i64 t.vars, .slice (some ⟨g, 0, none⟩) t.nums.length gc, .slice (some ⟨h, 0, none⟩) t.basis.length hc]) ∧
      w'.ownsRow w.heap.size 63 1 (.slice (some ⟨g, 0, none⟩) t.nums.length gc) t.nums.length (t.nums.map F32) ∧ w'.ownsRow w.heap.size 2 1 (.slice (some ⟨h, 0, none⟩) t.basis.length hc) t.basis.length (t.basis.map I64) ∧ Below w.heap.size w w' := by
  have hm := hd.n153
  have hb8 := hd.b8
  have hb1 := hd.b1
  have h17 := hd.w17
  have hnl := hd.nl
  have hm1 : 1 ≤ t.nums.length := by rw [hnl]; exact Nat.mul_pos (by omega) (by omega)
  obtain ⟨a1, c1, a2, c2, hk, hrt⟩ := h
  obtain ⟨n0, x1, x2⟩ := t
  have P1 := Lib.hid hrt.parts.1
  have P2 := Lib.hid hrt.parts.2
  simp only at P1 P2 hk hm hm1 hb8 hb1 ⊢
  have L1 : x1.length ≤ 17592186044416 := by omega
  have L2 : x2.length ≤ 17592186044416 := by omega
  have hbl := hk.lt
  have HK0 := Lib.hid hk
  have HFIN := Lib.hid (show ∀ W3 g3 (y1 : Option Addr) e1 (y2 : Option Addr) e2, W3.ownsRow w.heap.size 63 1 (.slice y1 x1.length e1) x1.length (x1.map F32) → W3.ownsRow w.heap.size 2 1 (.slice y2 x2.length e2) x2.length (x2.map I64) → Below w.heap.size w W3 → w.heap.size < g3 → ∀ Wf, Kept (· = w.heap.size) W3 Wf → (∀ b, y1.map Addr.block = some b → b ≠ w.heap.size) → (∀ b, y2.map Addr.block = some b → b ≠ w.heap.size) →
      ∃ g gc h hc, (Ending.returned (.agg #[.int .i64 n0, .slice y1 x1.length e1, .slice y2 x2.length e2]) : Ending) = .returned (.agg #[.int .i64 n0, .slice (some ⟨g, 0, none⟩) x1.length gc, .slice (some ⟨h, 0, none⟩) x2.length hc]) ∧ Wf.ownsRow w.heap.size 63 1 (.slice (some ⟨g, 0, none⟩) x1.length gc) x1.length (x1.map F32) ∧ Wf.ownsRow w.heap.size 2 1 (.slice (some ⟨h, 0, none⟩) x2.length hc) x2.length (x2.map I64) ∧ Below w.heap.size w Wf from by
    intro W3 g3 y1 e1 y2 e2 o1 o2 hb hg Wf hkf n1 n2
    obtain ⟨g, gc, r1, _, _⟩ := owns_some o1 (by intro e; injection e with _ e _; omega)
    obtain ⟨h, hc, r2, _, _⟩ := owns_some o2 (by intro e; injection e with _ e _; omega)
    simp only [Value.slice.injEq, true_and] at r1 r2
    obtain ⟨rfl, rfl⟩ := r1
    obtain ⟨rfl, rfl⟩ := r2
    exact ⟨g, e1, h, e2, rfl, owns_kept o1 hkf (fun b hb => n1 b (by simpa [Value.ownBlock] using hb)), owns_kept o2 hkf (fun b hb => n2 b (by simpa [Value.ownBlock] using hb)), hb.trans (hkf.toBelow hb.size (by intro k h1 h2; omega))⟩)
  clear hk hrt hd h17 hnl
  go_enter Try.func176, Try.ntmps176
  go_upto_region 1 with fail
  refine wp_at fun W hW => ?_
  have HB := Lib.hid (show Below w.heap.size w W by subst hW; (repeat' first | exact Below.refl _ _ | assumption | refine Below.alloc ?_ ?_ _ | refine Below.setCell ?_ ?_ _ | refine Below.drew ?_ | (simp; done) | (simp; omega)))
  have HK := Lib.hid (show Blk W bb 136 #[.int .i64 n0, .slice a1 x1.length c1, .slice a2 x2.length c2] by subst hW; exact HK0.out.alloc _)
  have HL := Lib.hid (show Blk W w.heap.size 136 #[.int .i64 0, .slice none 0 0, .slice none 0 0] by subst hW; exact Blk.new _ _ _)
  clear hW
  have hl1 := HL.out.lt
  go_cut [3] from 4 to 15 (fun t3 wx => ∃ (g3 : Nat) (y1 : Option Addr) (e1 : Nat), t3 = .pointer (some ⟨g3, 0, none⟩) ∧ Blk wx g3 136 #[.int .i64 n0, .slice y1 x1.length e1, .slice none 0 0] ∧ OwnF W.heap.size wx.heap.size wx (.slice y1 x1.length e1) x1 ∧ W.heap.size ≤ g3 ∧ Below W.heap.size W wx)
  case first =>
    have HS1 := Lib.hid (show Slc W (.slice a1 x1.length c1) (x1.map F32) from (P1.out.up HB.out (Nat.le_refl _)))
    have HKEEP := Lib.hid (show ∀ X, Below W.heap.size W X → X.cell? ⟨bb, 0, none⟩ = some (.int .i64 n0) ∧ X.cell? ⟨bb, 1, none⟩ = some (.slice a1 x1.length c1) from fun X hb => by
      have k := HK.out.below hb HK.out.lt
      exact ⟨k.cell 0 rfl, k.cell 1 rfl⟩)
    go_region_held3 (fun X => X.cell? ⟨bb, 0, none⟩ = some (.int .i64 n0) ∧ X.cell? ⟨bb, 1, none⟩ = some (.slice a1 x1.length c1))
      (first | (refine HKEEP.out _ ?_; (repeat' first | exact Below.refl _ _ | assumption | refine Below.alloc ?_ ?_ _ | refine Below.setCell ?_ ?_ _ | refine Below.drew ?_ | (simp; done) | (simp; omega)); done) | go_keep)
      (first
        | (refine step_app_flts rfl (.tmp 8) (.tmp 12) (by rfl) W.heap.size (.slice (some ⟨_, 0, none⟩) 0 0) 0 [] (by rfl) (by first | exact owns_base (ownsF_emptyB _ _ (by simp)) (by simp) | exact owns_base ((ownsF_emptyB _ _ (by simp)).alloc _) (by simp) | exact owns_drew (owns_base (ownsF_emptyB _ _ (by simp)) (by simp)) | exact owns_drew (owns_base ((ownsF_emptyB _ _ (by simp)).alloc _) (by simp))) _ x1 (by rfl) (HS1.out.below (B := W.heap.size) (by (repeat' first | exact Below.refl _ _ | assumption | refine Below.alloc ?_ ?_ _ | refine Below.setCell ?_ ?_ _ | refine Below.drew ?_ | (simp; done) | (simp; omega))) (Nat.le_refl _)) x1.length x1 (by simp) (by simp) L1 (by first | (simp; done) | (simp; omega)) ?_; intro a' cap' w1 hown hbl0 hg; have hbl1 : Below W.heap.size W w1 := Below.trans (by (repeat' first | exact Below.refl _ _ | assumption | refine Below.alloc ?_ ?_ _ | refine Below.setCell ?_ ?_ _ | refine Below.drew ?_ | (simp; done) | (simp; omega))) hbl0; clear hbl0; have hbs := hbl1.size
           (first
             | (have k := blk_grown (b := W.heap.size) (t := 136) (cs := #[.int .i64 0, .slice none 0 0, .slice none 0 0]) (by exact (Blk.new _ _ _).alloc _) hg (by simp [Value.ownBlock]); have t0 := k.cell 0 rfl; have t1 := k.cell 1 rfl; have t2 := k.cell 2 rfl; have u0 := k.free 0; have u1 := k.free 1; have u2 := k.free 2; have HBk := Lib.hid k; clear k)
             | (have k := blk_grown (b := W.heap.size + 1) (t := 136) (cs := #[.int .i64 0, .slice none 0 0, .slice none 0 0]) (by exact Blk.newB _ _ _ _ (by simp)) hg (by simp [Value.ownBlock]); have t0 := k.cell 0 rfl; have t1 := k.cell 1 rfl; have t2 := k.cell 2 rfl; have u0 := k.free 0; have u1 := k.free 1; have u2 := k.free 2; have HBk := Lib.hid k; clear k)
             | skip)))
    all_goals
      go_wp2_with fail
      first
        | (have hne := HBk.out.not_owned hown (by decide); clear t0 t1 t2 u0 u1 u2)
        | skip
      go_meet
    case rel =>
      refine ⟨_, _, _, rfl, Blk.newB _ _ _ _ (by simp), ((OwnF.mk hown).up ((Below.refl _ _).alloc (Nat.le_refl _) _) (Nat.le_refl _)).wide (Nat.le_refl _) (by simp), by simpa using hbs, hbl1.alloc hbs _⟩
    case rel =>
      exact ⟨_, _, _, rfl, by simpa using (((HBk.out.set 0 (.int .i64 n0)).set 1 (.slice a' x1.length cap')).set 2 (.slice none 0 0)), OwnF.mk (ownsRow_setCell_other (ownsRow_setCell_other (ownsRow_setCell_other hown hne _) hne _) hne _), Nat.le_succ _, ((hbl1.setCell (Nat.le_succ _) _).setCell (Nat.le_succ _) _).setCell (Nat.le_succ _) _⟩
    case rel =>
      exact ⟨_, _, _, rfl, by simpa using (((HBk.out.set 0 (.int .i64 n0)).set 1 (.slice a' x1.length cap')).set 2 (.slice none 0 0)), OwnF.mk (ownsRow_setCell_other (ownsRow_setCell_other (ownsRow_setCell_other hown hne _) hne _) hne _), Nat.le_refl _, ((hbl1.setCell (Nat.le_refl _) _).setCell (Nat.le_refl _) _).setCell (Nat.le_refl _) _⟩
  case rest =>
    obtain ⟨g3, y1, e1, rfl, hb3, ho1, hg3, hbw⟩ := hcut
    have hB3 := Lib.hid hb3
    have hO1 := Lib.hid ho1
    have hBW := Lib.hid hbw
    have k3 := hB3.out.lt
    have hsl2 := (P2.out.up HB.out (Nat.le_refl _)).up (hbw.alloc hbw.size (.cells #[] 2)) (Nat.le_refl _)
    have hbb2 : wc.cell? ⟨bb, 2, none⟩ = some (.slice a2 x2.length c2) := (HK.out.below hbw HK.out.lt).cell 2 rfl
    have hbc : bb < wc.heap.size := Nat.lt_of_lt_of_le HK.out.lt hbw.size
    clear hb3 ho1 hbw
    go_upto_region 3 with (at_builtin; refine app_ints rfl _ _ rfl wc.heap.size (.slice (some ⟨wc.heap.size, 0, none⟩) 0 0) 0 [] rfl (owns_empty wc) _ x2 rfl hsl2 x2.length x2 (by simp) (by simp) L2 (by simp) ?_; intro y2 e2 w2 hown2 hbl2 _ _; have hB4 := Lib.hid (hB3.out.below (((Below.refl _ _).alloc (Nat.le_refl _) _).trans hbl2) k3); have t2 := hB4.out.cell 2 rfl; have u2 := hB4.out.free 2)
    have hbw2 : Below wc.heap.size wc w2 := ((Below.refl _ _).alloc (Nat.le_refl _) _).trans hbl2
    refine wp_at fun W3 hW3 => ?_
    have hB5 := Lib.hid (show Blk W3 g3 136 #[.int .i64 n0, .slice y1 x1.length e1, .slice y2 x2.length e2] by subst hW3; simpa using hB4.out.set 2 (.slice y2 x2.length e2))
    have hO2 := Lib.hid (show W3.ownsRow wc.heap.size 2 1 (.slice y2 x2.length e2) x2.length (x2.map I64) by
      subst hW3
      exact ownsRow_setCell_other hown2 (hB4.out.not_owned hown2 (by decide)) _)
    have hO1' := Lib.hid (show W3.ownsRow W.heap.size 63 1 (.slice y1 x1.length e1) x1.length (x1.map F32) by
      subst hW3
      have o := hO1.out.up hbw2 (Nat.le_refl _)
      exact ownsRow_setCell_other o.1 (hB4.out.not_owned o.1 (by decide)) _)
    have hBW3 := Lib.hid (show Below W.heap.size W W3 by
      subst hW3
      exact (hBW.out.trans (hbw2.mono hBW.out.size)).setCell hg3 _)
    have hsw := hBW.out.size
    clear hW3 hown2 hbl2 hbw2 t2 u2 hB4 hsl2 hbb2
    have HL3 := Lib.hid (HL.out.below hBW3.out HL.out.lt)
    have r0 := hB5.out.cell 0 rfl
    have r1 := hB5.out.cell 1 rfl
    have r2 := hB5.out.cell 2 rfl
    have t0 := HL3.out.cell 0 rfl
    have t1 := HL3.out.cell 1 rfl
    have t2 := HL3.out.cell 2 rfl
    have s0 := HL3.out.free 0
    have s1 := HL3.out.free 1
    have s2 := HL3.out.free 2
    have hzB := HB.out.size
    have FIN := HFIN.out W3 g3 y1 e1 y2 e2 (owns_base hO1'.out hzB) (owns_base hO2.out (by omega)) (HB.out.trans (hBW3.out.mono hzB)) (by omega)
    have n1 : ∀ b, y1.map Addr.block = some b → b ≠ w.heap.size := fun b hb => by have := (owns_lt hO1'.out (k := b) (by rcases y1 with _ | a; (simp at hb); (simpa [Value.ownBlock] using hb))).1; omega
    have n2 : ∀ b, y2.map Addr.block = some b → b ≠ w.heap.size := fun b hb => by have := (owns_lt hO2.out (k := b) (by rcases y2 with _ | a; (simp at hb); (simpa [Value.ownBlock] using hb))).1; omega
    have FIN := Lib.hid FIN
    have N1 := Lib.hid n1
    have N2 := Lib.hid n2
    clear n1 n2
    go_wp2_with fail
    refine bodyPost_ret (v := .agg #[.int .i64 n0, .slice y1 x1.length e1, .slice y2 x2.length e2]) (by simp [results, Try.results176, go_sem, *]) rfl ?_
    refine FIN.out _ ?_ N1.out N2.out
    repeat' first | exact Kept.refl _ _ | refine Kept.setCell ?_ (.inr (by simp)) _

end Go.Proofs.Ytkfiepiipigcmaa

namespace Go.Proofs.Ytkfiepiipigcmaa
open Go.RowKit

set_option maxHeartbeats 4000000 in
set_option maxRecDepth 8000 in
theorem l02Table_any (bb : Nat) (t : TabD) (w : World) (h : TpB w bb t) (hd : DimT t) :
    Calls Try.prog 183 #[.pointer (some ⟨bb, 0, none⟩)] w fun e w' => e = .returned (.bool (allFin t.nums && basOk (colsT t) t.basis)) ∧ ∃ m, w' = w.drewN m := by
  have h17 := hd.w17
  have hb8 := hd.b8
  have hb1 := hd.b1
  have HW := Lib.hid (fun n => qs_of (l02Wide_any bb t (w.drewN n) (h.drewN n) hd))
  have HW2 := Lib.hid (fun X (hX : ∃ m, X = w.drewN m) n => qs_of (w := X) (l02Wide_any bb t (X.drewN n) (by obtain ⟨m, rfl⟩ := hX; exact h) hd))
  obtain ⟨a, c, b, d, hkb, hrt⟩ := h
  have HBS := Lib.hid hrt.parts.2
  have HF := Lib.hid (fun n => l02Finite_qs _ t.nums w n hrt.parts.1)
  have HI1 := Lib.hid (show inB 1 8 (t.vars : Int) = true by rw [inB_iff]; have := hd.v1; have := hd.v8; omega)
  have HI2 := Lib.hid (show inB 1 8 (t.basis.length : Int) = true by rw [inB_iff]; omega)
  have hm := hd.n153
  have hnl := hd.nl
  have HBN := Lib.hid (fun i hi h => @basOk_no (colsT t) t.basis i hi h)
  have HBY := Lib.hid (show (∀ i, i < t.basis.length → (inB 0 ((colsT t : Int) - 1) (t.basis.getD i 0) && !hasB (t.basis.take i) (t.basis.getD i 0)) = true) → basOk (colsT t) t.basis = true from fun h => allB_true h)
  obtain ⟨N, hN⟩ : ∃ N, N = t.basis.length := ⟨_, rfl⟩
  obtain ⟨M, hM⟩ : ∃ M, M = t.nums.length := ⟨_, rfl⟩
  obtain ⟨C, hC⟩ : ∃ C, C = colsT t := ⟨_, rfl⟩
  obtain ⟨f, hf⟩ : ∃ f, f = allFin t.nums := ⟨_, rfl⟩
  obtain ⟨V, hV⟩ : ∃ V, V = t.vars := ⟨_, rfl⟩
  have HN := Lib.hid hN.symm
  have hWC : wdT t = C + 1 := by rw [hC]; rfl
  rw [← hN] at HI2 hb8 hb1 HBS HBY HBN hnl hkb
  rw [hWC] at HW HW2 h17 hnl
  rw [← hM] at hnl hm HF hkb
  rw [← hC] at HBY HBN
  rw [← hf] at HF
  rw [← hV] at HI1 hkb
  rw [← hf, ← hC]
  obtain ⟨N1, hN1⟩ : ∃ N1 : Int, N1 = (N : Int) + 1 := ⟨_, rfl⟩
  obtain ⟨W, hW⟩ : ∃ W : Int, W = ((C + 1 : Nat) : Int) := ⟨_, rfl⟩
  have e1 : IntKind.i64.wrap ((N : Int) + 1) = N1 := by rw [hN1]; exact IntWalk.i64_in _ (by omega)
  have e2 : IntKind.i64.wrap (N1 * W) = (M : Int) := by
    have : N1 * W = (M : Int) := by rw [hN1, hW, hnl, Int.mul_comm]; push_cast; rfl
    rw [this]
    exact IntWalk.i64_in _ (by omega)
  have e4 : IntKind.i64.wrap (W - 2) = (C : Int) - 1 := by rw [hW, IntWalk.i64_in _ (by omega)]; omega
  have e3 : ((M : Int) != (M : Int)) = false := by simp
  rw [← hW] at HW HW2
  have hi1 := HI1.out
  have hi2 := HI2.out
  have d0 := hkb.cell 0 rfl
  have d1 := hkb.cell 1 rfl
  have d2 := hkb.cell 2 rfl
  clear hd hN hM hW hC hf hnl hN1 hrt hkb hV HI1 HI2 hWC
  go_enter Try.func183, Try.ntmps183
  cases f
  · go_wp2_with fail
    go_quiet (first
      | (go_at_call 95; exact quiet_same (in_any _ _ _ _))
      | (go_at_call 165; exact HW.out _)
      | (go_at_call 139; exact HF.out _))
    go_wp2_with fail
    go_ret
    exact ⟨rfl, _, rfl⟩
  · go_wp2_with fail
    go_quiet (first
      | (go_at_call 95; exact quiet_same (in_any _ _ _ _))
      | (go_at_call 165; exact HW.out _)
      | (go_at_call 139; exact HF.out _))
    clear e1 e2 e3 hi1 hi2
    go_wp2_with fail
    go_loopw [4] (fun iv wr => ∃ i : Nat, iv = .int .i64 i ∧ i ≤ N ∧ Hid (∀ j, j < i → (inB 0 ((C : Int) - 1) (t.basis.getD j 0) && !hasB (t.basis.take j) (t.basis.getD j 0)) = true) ∧ Hid (∃ m, wr = w.drewN m)) (fun iv _ => N + 1 - (intOf iv).toNat)
    case atStart => exact ⟨0, rfl, Nat.zero_le _, Lib.hid (by intro j hj; omega), Lib.hid ⟨_, rfl⟩⟩
    case round =>
      obtain ⟨i, rfl, hi, HJ, HD⟩ := hrel
      obtain ⟨wo, rfl⟩ : ∃ wo, wo = wr := ⟨wr, rfl⟩
      have d0 : wo.cell? ⟨bb, 0, none⟩ = some (.int .i64 V) := by obtain ⟨m, e⟩ := HD.out; rw [e]; exact d0
      have d1 : wo.cell? ⟨bb, 1, none⟩ = some (.slice a M c) := by obtain ⟨m, e⟩ := HD.out; rw [e]; exact d1
      have d2 : wo.cell? ⟨bb, 2, none⟩ = some (.slice b N d) := by obtain ⟨m, e⟩ := HD.out; rw [e]; exact d2
      have HBO := Lib.hid (show RdI wo (.slice b N d) t.basis by obtain ⟨m, e⟩ := HD.out; rw [e]; exact HBS.out.drewN m)
      have HWO := Lib.hid (HW2.out wo HD.out)
      by_cases hlt : i < N
      · have hltI : (i : Int) < (N : Int) := by omega
        obtain ⟨gb, go, rfl, _, h1⟩ := HBO.out.at (i := i) (by rw [HN.out]; exact hlt)
        have HJ2 := Lib.hid (fun (h : (inB 0 ((C : Int) - 1) (t.basis.getD i 0) && !hasB (t.basis.take i) (t.basis.getD i 0)) = true) => (show ∀ j, j < i + 1 → (inB 0 ((C : Int) - 1) (t.basis.getD j 0) && !hasB (t.basis.take j) (t.basis.getD j 0)) = true from fun j hj => by
          by_cases e : j = i
          · rw [e]; exact h
          · exact HJ.out j (by omega)))
        have HNO := Lib.hid (HBN.out i hlt)
        have HYS := Lib.hid (fun (k : Nat) (hk : k < i) (h : t.basis.getD k 0 = t.basis.getD i 0) => show hasB (t.basis.take i) (t.basis.getD i 0) = true from hasB_yes (j := k) (by rw [List.length_take, HN.out]; omega) (by rw [List.getD_eq_getElem?_getD, List.getElem?_take_of_lt hk, ← List.getD_eq_getElem?_getD]; exact h))
        have HNS := Lib.hid (fun (h : ∀ k, k < i → t.basis.getD k 0 ≠ t.basis.getD i 0) => show hasB (t.basis.take i) (t.basis.getD i 0) = false from hasB_no (fun k hk => by rw [List.length_take, HN.out] at hk; rw [List.getD_eq_getElem?_getD, List.getElem?_take_of_lt (by omega), ← List.getD_eq_getElem?_getD]; exact h k (by omega)))
        obtain ⟨x, hx⟩ : ∃ x, x = t.basis.getD i 0 := ⟨_, rfl⟩
        rw [← hx] at h1 HJ2 HNO HYS HNS
        obtain ⟨p1, hp1⟩ : ∃ p, inB 0 ((C : Int) - 1) x = p := ⟨_, rfl⟩
        rw [hp1] at HJ2 HNO
        clear hx
        cases p1
        · have HN2 := Lib.hid (HNO.out rfl)
          go_wp2_with fail
          go_quiet (first
            | (go_at_call 95; exact quiet_same (in_any _ _ _ _))
            | (go_at_call 165; exact HWO.out _))
          go_wp2_with fail
          go_ret
          exact ⟨by rw [HN2.out]; rfl, drewN_ex HD.out _⟩
        · go_wp2_with fail
          go_quiet (first
            | (go_at_call 95; exact quiet_same (in_any _ _ _ _))
            | (go_at_call 165; exact HWO.out _))
          go_wp2_with fail
          clear hp1
          have hd2 : w.cell? ⟨bb, 2, none⟩ = some (.slice (some ⟨gb, go, none⟩) N d) := by obtain ⟨m, e⟩ := HD.out; rw [e] at d2; exact d2
          have hx1 : w.cell? ⟨gb, go + i, none⟩ = some (.int .i64 x) := by obtain ⟨m, e⟩ := HD.out; rw [e] at h1; exact h1
          go_loopw [5] (fun kv wr => ∃ k : Nat, kv = .int .i64 k ∧ k ≤ i ∧ Hid (∀ j, j < k → t.basis.getD j 0 ≠ x) ∧ Hid (∃ m, wr = w.drewN m)) (fun kv _ => i + 1 - (intOf kv).toNat)
          case atStart => exact ⟨0, rfl, Nat.zero_le _, Lib.hid (by intro j hj; omega), Lib.hid (drewN_ex HD.out _)⟩
          case round =>
            obtain ⟨k, rfl, hk, HQ, HD⟩ := hrel
            obtain ⟨wp, rfl⟩ : ∃ wp, wp = wr := ⟨wr, rfl⟩
            have d2 : wp.cell? ⟨bb, 2, none⟩ = some (.slice (some ⟨gb, go, none⟩) N d) := by obtain ⟨m, e⟩ := HD.out; rw [e]; exact hd2
            have h1 : wp.cell? ⟨gb, go + i, none⟩ = some (.int .i64 x) := by obtain ⟨m, e⟩ := HD.out; rw [e]; exact hx1
            have HBO2 := Lib.hid (show RdI wp (.slice (some ⟨gb, go, none⟩) N d) t.basis by obtain ⟨m, e⟩ := HD.out; rw [e]; exact HBS.out.drewN m)
            by_cases hki : k < i
            · have hkiI : (k : Int) < (i : Int) := by omega
              have hkN : (k : Int) < (N : Int) := by omega
              obtain ⟨gb2, go2, ee, _, h2⟩ := HBO2.out.at (i := k) (by rw [HN.out]; omega)
              simp only [Option.some.injEq, Addr.mk.injEq, and_true] at ee
              obtain ⟨rfl, rfl⟩ := ee
              have HY2 := Lib.hid (HYS.out k hki)
              have HQ2 := Lib.hid (fun (h : t.basis.getD k 0 ≠ x) => show ∀ j, j < k + 1 → t.basis.getD j 0 ≠ x from fun j hj => by
                by_cases e : j = k
                · rw [e]; exact h
                · exact HQ.out j (by omega))
              obtain ⟨y, hy⟩ : ∃ y, y = t.basis.getD k 0 := ⟨_, rfl⟩
              rw [← hy] at h2 HY2 HQ2
              clear hy
              by_cases he : y = x
              · have he' : (y == x) = true := by simp [he]
                have HN2 := Lib.hid (HNO.out (by rw [HY2.out he]; rfl))
                clear he
                go_wp2_with fail
                go_quiet (fail)
                go_wp2_with fail
                go_ret
                exact ⟨by rw [HN2.out]; rfl, drewN_ex HD.out _⟩
              · have he' : (y == x) = false := by simp [he]
                have HQ3 := Lib.hid (HQ2.out he)
                clear he
                go_wp2_with fail
                go_quiet (fail)
                go_wp2_with fail
                go_roundw
                case rel => exact ⟨k + 1, by go_num, by omega, HQ3, Lib.hid (drewN_ex HD.out _)⟩
                case measure => simp [intOf]; omega
            · obtain rfl : k = i := by omega
              have HJ3 := Lib.hid (HJ2.out (by rw [HNS.out HQ.out]; rfl))
              go_wp2_with fail
              go_roundw
              case rel => exact ⟨k + 1, by go_num, by omega, HJ3, HD⟩
              case measure => simp [intOf]; omega
      · obtain rfl : i = N := by omega
        have HY := Lib.hid (HBY.out HJ.out)
        go_wp2_with fail
        go_ret
        exact ⟨by rw [HY.out]; rfl, HD.out⟩

end Go.Proofs.Ytkfiepiipigcmaa
