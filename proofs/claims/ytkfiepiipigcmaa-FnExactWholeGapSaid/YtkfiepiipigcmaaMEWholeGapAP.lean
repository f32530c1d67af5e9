/-
  FnExactWholeGap: texts joined: PivS, LevS.
-/
import Derived.Test.YtkfiepiipigcmaaMEWholeGapAM
import Derived.Test.YtkfiepiipigcmaaMEWholeGapAO
namespace Go.Proofs.Ytkfiepiipigcmaa
open Go.RowKit

set_option maxHeartbeats 8000000 in
set_option maxRecDepth 8000 in
theorem l02Pivot_any (bb : Nat) (t : TabD) (row col : Nat) (w : World) (h : TpB w bb t) (hg : GoodT t) (hr : row < t.basis.length) (hc : col < colsT t) (hp : gtF (atT t row col) 0 = true) :
    Calls Try.prog 179 #[.pointer (some ⟨bb, 0, none⟩), .int .i64 row, .int .i64 col] w fun e w' => ∃ x a n c b m d, e = .returned (.tuple #[.agg #[.int .i64 x, .slice a n c, .slice b m d], .bool (pivOk t row col)]) ∧ (pivOk t row col = true → ∀ Wg, Kept (· < w.heap.size) w' Wg → RdTb Wg (.agg #[.int .i64 x, .slice a n c, .slice b m d]) (pivT t row col)) ∧ Below w.heap.size w w' := by
  have hd := hg.dim
  have h17 := hd.w17
  have hb8 := hd.b8
  have hv1 := hd.v1
  have hv8 := hd.v8
  have hm := hd.n153
  have hcw : col < wdT t := by rw [wdT_cols]; omega
  have HWD := Lib.hid (fun X (hb : Below w.heap.size w X) => l02Wide_any bb t X (h.below hb (Nat.le_refl _)) hd)
  have HAT := Lib.hid (fun X (hb : Below w.heap.size w X) i k (hi : i ≤ t.basis.length) (hk : k < wdT t) => l02At_any bb t i k X (h.below hb (Nat.le_refl _)) hd hi hk)
  have HOT := Lib.hid (fun X (hb : Below w.heap.size w X) => l02OwnTable_any bb t X (h.below hb (Nat.le_refl _)) hd)
  obtain ⟨a, c, b, d, hkb, hrt⟩ := h
  have HKB := Lib.hid hkb
  have hpe := gt_ne hp
  have HDV := Lib.hid (show ∀ k, k < wdT t → Ieee.single.div (atT t row k) (atT t row col) = some (divV (atT t row k) (atT t row col)) from fun k hk => div_some (hg.at (by omega) hk) (hg.at (by omega) hcw) hp)
  have HAP := Lib.hid (fun X hb => HAT.out X hb row col (by omega) hcw)
  obtain ⟨p, hpp⟩ : ∃ p, p = atT t row col := ⟨_, rfl⟩
  rw [← hpp] at HAP HDV hpe
  obtain ⟨N, hN⟩ : ∃ N, N = t.basis.length := ⟨_, rfl⟩
  obtain ⟨M, hM⟩ : ∃ M, M = t.nums.length := ⟨_, rfl⟩
  obtain ⟨W, hW⟩ : ∃ W, W = wdT t := ⟨_, rfl⟩
  obtain ⟨V, hV⟩ : ∃ V, V = t.vars := ⟨_, rfl⟩
  have HN := Lib.hid hN.symm
  have HM := Lib.hid hM.symm
  have HW := Lib.hid hW.symm
  have HV := Lib.hid hV.symm
  have HP := Lib.hid hpp.symm
  have HD := Lib.hid hd
  have HMW := Lib.hid (show M = W * (N + 1) by rw [hM, hW, hN]; exact hd.nl)
  have HIX := Lib.hid (show ∀ i k, i ≤ N → k < W → i * W + k < M from fun i k hi hk => by rw [hM, hW]; exact hd.ix (by omega) (by omega))
  rw [← hN] at hr hb8
  rw [← hM] at hm
  rw [← hW] at h17 hcw
  rw [← hV] at hv1 hv8
  rw [← hW] at HDV HWD HAT
  rw [← hN] at HAT
  rw [← hN, ← hM, ← hV] at HOT HKB
  clear hg hp hpp hN hM hW hV hd hrt hkb hc
  go_enter Try.func179, Try.ntmps179
  go_upto_region 1 with fail
  refine wp_at fun W0 hW0 => ?_
  have HB0 := Lib.hid (show Below w.heap.size w W0 by subst hW0; (repeat' first | exact Below.refl _ _ | assumption | refine Below.alloc ?_ ?_ _ | refine Below.setCell ?_ ?_ _ | refine Below.drew ?_ | (simp; done) | (simp; omega)))
  have HR0 := Lib.hid (show Blk W0 w.heap.size 136 #[.int .i64 0, .slice none 0 0, .slice none 0 0] by subst hW0; exact Blk.new _ _ _)
  have hz0 := HB0.out.size
  have hz01 := HR0.out.lt
  clear hW0
  go_upto_region 2 with (go_at_call 176; refine (HOT.out W0 HB0.out).mono ?_; rintro e w1 ⟨g, gc, h, hc, rfl, hog, hoh, hb1⟩; have HB1 := Lib.hid (HB0.out.trans (hb1.mono hz0)); have HR1 := Lib.hid (HR0.out.below hb1 hz01); have hz11 := hb1.size)
  refine wp_at fun W2 hW2 => ?_
  obtain ⟨q, hq⟩ : ∃ q, q = w1.heap.size := ⟨_, rfl⟩
  have HQ2 := Lib.hid (show Blk W2 q 136 #[.int .i64 V, .slice (some ⟨g, 0, none⟩) M gc, .slice (some ⟨h, 0, none⟩) N hc] by subst hW2 hq; exact Blk.new _ _ _)
  have HR2 := Lib.hid (show Blk W2 w.heap.size 136 #[.int .i64 0, .slice none 0 0, .slice none 0 0] by subst hW2; exact HR1.out.alloc _)
  have HB2 := Lib.hid (show Below w.heap.size w W2 by subst hW2; exact HB1.out.alloc HB1.out.size _)
  have HG2 := Lib.hid (show W2.ownsRow W0.heap.size 63 1 (.slice (some ⟨g, 0, none⟩) M gc) M (t.nums.map F32) by subst hW2; exact hog.alloc _)
  have HH2 := Lib.hid (show W2.ownsRow W0.heap.size 2 1 (.slice (some ⟨h, 0, none⟩) N hc) N (t.basis.map I64) by subst hW2; exact hoh.alloc _)
  have hqz : W0.heap.size ≤ q := by omega
  rw [← hq]
  clear hW2 hq hog hoh hb1 hz11 HOT
  go_upto_region 6 with (first
    | (go_at_call 165; refine (HWD.out _ HB2.out).mono ?_; rintro e w3 ⟨rfl, m3, rfl⟩)
    | (go_at_call 164; refine (HAP.out _ (below_drewN HB2.out m3)).mono ?_; rintro e w4 ⟨rfl, m4, rfl⟩))
  refine wp_at fun w6 hw6 => ?_
  have HB6 := Lib.hid (show Below w.heap.size w w6 by subst hw6; exact below_drewN HB2.out _)
  have HR6 := Lib.hid (show Blk w6 w.heap.size 136 #[.int .i64 0, .slice none 0 0, .slice none 0 0] by subst hw6; exact HR2.out)
  have HQ6 := Lib.hid (show Blk w6 q 136 #[.int .i64 V, .slice (some ⟨g, 0, none⟩) M gc, .slice (some ⟨h, 0, none⟩) N hc] by subst hw6; exact HQ2.out)
  have HG6 := Lib.hid (show w6.ownsRow W0.heap.size 63 1 (.slice (some ⟨g, 0, none⟩) M gc) M (t.nums.map F32) by subst hw6; exact HG2.out)
  have HH6 := Lib.hid (show w6.ownsRow W0.heap.size 2 1 (.slice (some ⟨h, 0, none⟩) N hc) N (t.basis.map I64) by subst hw6; exact HH2.out)
  clear hw6 HB2 HR2 HQ2 HG2 HH2 HB1 HR1
  have hgq : g ≠ q := fun e => HQ6.out.not_owned HG6.out (by decide) (by rw [← e]; rfl)
  have hhq : h ≠ q := fun e => HQ6.out.not_owned HH6.out (by decide) (by rw [← e]; rfl)
  have hgh : g ≠ h := fun e => owns_types HG6.out HH6.out (by decide) g rfl (by rw [e]; rfl)
  have hg1 : W0.heap.size ≤ g := (HG6.out.lt g rfl).1
  have hh1 : W0.heap.size ≤ h := (HH6.out.lt h rfl).1
  obtain ⟨R, hR⟩ : ∃ R, R = row * W := ⟨_, rfl⟩
  have hRW : R + W ≤ M := by have := HIX.out row (W - 1) (by omega) (by omega); rw [← hR] at this; omega
  have e1 : (row : Int) * (W : Int) = (R : Int) := by rw [hR]; push_cast; rfl
  have w1 : IntKind.i64.wrap (R : Int) = (R : Int) := IntWalk.i64_in _ (by omega)
  have HRE := Lib.hid hR
  clear hR
  have HIE := Lib.hid (show ∀ k, R + k = row * wdT t + k from fun k => by rw [HRE.out, HW.out])
  have hbg : bb ≠ g := by have := HKB.out.lt; omega
  have HBE := Lib.hid (show ∀ X, Kept (· = g) w6 X → Below w.heap.size w X from fun X hk => HB6.out.trans (hk.toBelow HB6.out.size (by intro k h1 h2; omega)))
  go_wp2_with fail
  go_loopw [11] (fun kv wr => ∃ (k : Nat) (cs : List Nat), kv = .int .i64 k ∧ k ≤ W ∧ Hid (wr.ownsRow W0.heap.size 63 1 (.slice (some ⟨g, 0, none⟩) M gc) M (cs.map F32)) ∧ Hid (Cnt (FA t row col k) M cs) ∧ Hid (Kept (· = g) w6 wr)) (fun kv _ => W + 1 - (intOf kv).toNat)
  case atStart => exact ⟨0, t.nums, rfl, Nat.zero_le _, HG6, Lib.hid (FA_zero ⟨HM.out, fun x _ => Mt.some' _⟩), Lib.hid (Kept.refl _ _)⟩
  case round =>
    obtain ⟨k, cs, rfl, hk, HO, HCN, HKP⟩ := hrel
    obtain ⟨wo, rfl⟩ : ∃ wo, wo = wr := ⟨wr, rfl⟩
    have HQo := Lib.hid (HQ6.out.kept HKP.out (fun e => hgq e.symm))
    have q1 : wo.cell? ⟨q, 1, none⟩ = some (.slice (some ⟨g, 0, none⟩) M gc) := HQo.out.cell 1 rfl
    by_cases hlt : k < W
    · have hltI : (k : Int) < (W : Int) := by omega
      have hkw : k < wdT t := by rw [HW.out]; exact hlt
      obtain ⟨mk, hmk⟩ : ∃ mk, mk = R + k := ⟨_, rfl⟩
      have hx : mk < M := by omega
      have hxI : (mk : Int) < (M : Int) := by omega
      have e3 : IntKind.i64.wrap ((R : Int) + (k : Int)) = (mk : Int) := by rw [IntWalk.i64_in _ (by omega), hmk]; push_cast; rfl
      have HMK := Lib.hid (show mk = row * wdT t + k by rw [hmk, HIE.out])
      obtain ⟨x, hxe⟩ : ∃ x, x = atT t row k := ⟨_, rfl⟩
      have hdv := HDV.out k hlt
      have HAK := Lib.hid (HAT.out (wo.drewN 1) (below_drewN (HBE.out wo HKP.out) 1) row k (by omega) hlt)
      rw [← hxe] at hdv HAK
      have c1 : wo.cell? ⟨g, mk, none⟩ = some (.float .f32 (cs.getD mk 0)) := by
        have hl : mk < cs.length := by rw [HCN.out.len]; exact hx
        rw [HO.out.cellAt mk (by omega), List.getElem?_map, List.getElem?_eq_getElem hl, List.getD_eq_getElem?_getD, List.getElem?_eq_getElem hl]
        rfl
      have c2 := HO.out.frozenAt mk
      have hdiv := fun (X : World) => run_div_some (P := Try.prog) 63 hdv X
      obtain ⟨y, hy⟩ : ∃ y, y = divV x p := ⟨_, rfl⟩
      rw [← hy] at hdiv
      have HS1 := Lib.hid (fun (X : World) (v : Nat) (hX : ∃ n, X = wo.drewN n) => show (X.setCell ⟨g, mk, none⟩ (.float .f32 v)).ownsRow W0.heap.size 63 1 (.slice (some ⟨g, 0, none⟩) M gc) M ((cs.set mk v).map F32) by
        obtain ⟨n, rfl⟩ := hX
        rw [List.map_set]
        exact ((show (wo.drewN n).ownsRow W0.heap.size 63 1 (.slice (some ⟨g, 0, none⟩) M gc) M (cs.map F32) from HO.out).stored mk (.float .f32 v)).1)
      have HS3 := Lib.hid (fun (X : World) (v : Value) (hX : ∃ n, X = wo.drewN n) => show Kept (· = g) w6 (X.setCell ⟨g, mk, none⟩ v) by
        obtain ⟨n, rfl⟩ := hX
        exact (HKP.out.drewN n).setCell (.inr rfl) _)
      have HCS := Lib.hid (show Cnt (FA t row col (k + 1)) M (cs.set mk y) by
        rw [HMK.out, hy, hxe, ← HP.out]
        exact FA_step HCN.out hkw (by rw [← HMK.out]; exact hx))
      clear hxe hdv hy hmk
      go_wp2_with fail
      go_region_held3 (fun X => X.cell? ⟨q, 1, none⟩ = some (.slice (some ⟨g, 0, none⟩) M gc))
        (first | (simp [*]; done) | (rw [World.cell?_setCell_far _ _ _ _ (by show g ≠ q; exact hgq)]; simp [*]; done))
        (first
          | (go_at_call 164; refine HAK.out.mono ?_; rintro e w8 ⟨rfl, m8, rfl⟩)
          | fail)
      go_wp2_with fail
      go_roundw
      case rel => exact ⟨k + 1, cs.set mk y, by go_num, by omega, Lib.hid (HS1.out _ _ ⟨_, rfl⟩), HCS, Lib.hid (HS3.out _ _ ⟨_, rfl⟩)⟩
      case measure => simp [intOf]; omega
    · obtain rfl : k = W := by omega
      have hcw2 : col < wdT t := by rw [HW.out]; exact hcw
      obtain ⟨mc, hmc⟩ : ∃ mc, mc = R + col := ⟨_, rfl⟩
      have hx : mc < M := by omega
      have hxI : (mc : Int) < (M : Int) := by omega
      have e3 : IntKind.i64.wrap ((R : Int) + (col : Int)) = (mc : Int) := by rw [IntWalk.i64_in _ (by omega), hmc]; push_cast; rfl
      have HMC := Lib.hid (show mc = row * wdT t + col by rw [hmc, HIE.out])
      have c1 : wo.cell? ⟨g, mc, none⟩ = some (.float .f32 (cs.getD mc 0)) := by
        have hl : mc < cs.length := by rw [HCN.out.len]; exact hx
        rw [HO.out.cellAt mc (by omega), List.getElem?_map, List.getElem?_eq_getElem hl, List.getD_eq_getElem?_getD, List.getElem?_eq_getElem hl]
        rfl
      have c2 := HO.out.frozenAt mc
      clear hmc
      go_upto_region 11 with fail
      refine wp_at fun w7 hw7 => ?_
      have HO7 := Lib.hid (show w7.ownsRow W0.heap.size 63 1 (.slice (some ⟨g, 0, none⟩) M gc) M ((cs.set mc oneF).map F32) by
        subst hw7
        rw [List.map_set]
        exact (HO.out.stored mc (.float .f32 oneF)).1)
      have HC7 := Lib.hid (show Cnt (FB t row col 0) M (cs.set mc oneF) by
        rw [HMC.out]
        refine FB_zero (by have := HW.out; omega) ?_ hcw2 (by rw [← HMC.out]; exact hx)
        rw [HW.out]
        exact HCN.out)
      have HK7 := Lib.hid (show Kept (· = g) w6 w7 by subst hw7; exact HKP.out.setCell (.inr rfl) _)
      obtain ⟨cs7, hcs7⟩ : ∃ l, l = cs.set mc oneF := ⟨_, rfl⟩
      rw [← hcs7] at HO7 HC7
      clear hw7 c1 c2 hcs7 HO HCN HKP hx hxI e3 q1
      go_wp2_with fail
      go_loopw [12] (fun iv wr => ∃ (i : Nat) (cs : List Nat), iv = .int .i64 i ∧ i ≤ N + 1 ∧ Hid (wr.ownsRow W0.heap.size 63 1 (.slice (some ⟨g, 0, none⟩) M gc) M (cs.map F32)) ∧ Hid (Cnt (FB t row col i) M cs) ∧ Hid (Kept (· = g) w6 wr)) (fun iv _ => N + 2 - (intOf iv).toNat)
      case atStart => exact ⟨0, cs7, rfl, Nat.zero_le _, HO7, HC7, HK7⟩
      case round =>
        obtain ⟨i, cs, rfl, hi, HO, HCN, HKP⟩ := hrel
        obtain ⟨wi, rfl⟩ : ∃ wi, wi = wr := ⟨wr, rfl⟩
        have HBi := Lib.hid (HBE.out wi HKP.out)
        have d2 : wi.cell? ⟨bb, 2, none⟩ = some (.slice b N d) := (HKB.out.below HBi.out HKB.out.lt).cell 2 rfl
        by_cases hin : i ≤ N
        · have hinI : (i : Int) ≤ (N : Int) := by omega
          by_cases hir : i = row
          · subst hir
            have hee : ((i : Int) == (i : Int)) = true := by simp
            go_wp2_with fail
            go_roundw
            case rel => exact ⟨i + 1, cs, by go_num, by omega, HO, Lib.hid (FB_skip HCN.out), HKP⟩
            case measure => simp [intOf]; omega
          · have hee : ((i : Int) == (row : Int)) = false := by rw [beq_eq_false_iff_ne]; omega
            obtain ⟨I0, hI⟩ : ∃ R, R = i * k := ⟨_, rfl⟩
            have hIW : I0 + k ≤ M := by have := HIX.out i (k - 1) (by omega) (by omega); rw [← hI] at this; omega
            have e2 : (i : Int) * (k : Int) = (I0 : Int) := by rw [hI]; push_cast; rfl
            have w2 : IntKind.i64.wrap (I0 : Int) = (I0 : Int) := IntWalk.i64_in _ (by omega)
            have HIE2 := Lib.hid (show ∀ j, I0 + j = i * wdT t + j from fun j => by rw [hI, HW.out])
            have HAF := Lib.hid (HAT.out wi HBi.out i col hin hcw)
            obtain ⟨f, hf⟩ : ∃ f, f = atT t i col := ⟨_, rfl⟩
            rw [← hf] at HAF
            have HF := Lib.hid hf
            have HNE := Lib.hid (show ∀ j j', j < k → j' < k → I0 + j ≠ R + j' from fun j j' h1 h2 e => by
              rw [HIE2.out, HIE.out] at e
              have hw := HW.out
              have q1 := dm_div (W := wdT t) (i := i) (c := j) (by omega)
              have q2 := dm_div (W := wdT t) (i := row) (c := j') (by omega)
              rw [e, q2] at q1
              exact hir q1.symm)
            clear hI hf
            go_wp2_with (go_at_call 164; refine HAF.out.mono ?_; rintro e w9 ⟨rfl, m9, rfl⟩)
            go_loopw [14] (fun jv wr => ∃ (j : Nat) (cs : List Nat), jv = .int .i64 j ∧ j ≤ k ∧ Hid (wr.ownsRow W0.heap.size 63 1 (.slice (some ⟨g, 0, none⟩) M gc) M (cs.map F32)) ∧ Hid (Cnt (FC t row col i j) M cs) ∧ Hid (Kept (· = g) w6 wr)) (fun jv _ => k + 1 - (intOf jv).toNat)
            case atStart => exact ⟨0, cs, rfl, Nat.zero_le _, Lib.hid (show (wi.drewN m9).ownsRow W0.heap.size 63 1 (.slice (some ⟨g, 0, none⟩) M gc) M (cs.map F32) from HO.out), Lib.hid (FC_zero HCN.out), Lib.hid (HKP.out.drewN m9)⟩
            case round =>
              obtain ⟨j, cj, rfl, hj, HOj, HCj, HKj⟩ := hrel
              obtain ⟨wj, rfl⟩ : ∃ wj, wj = wr := ⟨wr, rfl⟩
              have q1 : wj.cell? ⟨q, 1, none⟩ = some (.slice (some ⟨g, 0, none⟩) M gc) := (HQ6.out.kept HKj.out (fun e => hgq e.symm)).cell 1 rfl
              by_cases hjk : j < k
              · have hjI : (j : Int) < (k : Int) := by omega
                have hjw : j < wdT t := by rw [HW.out]; exact hjk
                obtain ⟨mi, hmi⟩ : ∃ m, m = I0 + j := ⟨_, rfl⟩
                obtain ⟨mr, hmr⟩ : ∃ m, m = R + j := ⟨_, rfl⟩
                have hx1 : mi < M := by omega
                have hx2 : mr < M := by omega
                have hx1I : (mi : Int) < (M : Int) := by omega
                have hx2I : (mr : Int) < (M : Int) := by omega
                have e3 : IntKind.i64.wrap ((I0 : Int) + (j : Int)) = (mi : Int) := by rw [IntWalk.i64_in _ (by omega), hmi]; push_cast; rfl
                have e4 : IntKind.i64.wrap ((R : Int) + (j : Int)) = (mr : Int) := by rw [IntWalk.i64_in _ (by omega), hmr]; push_cast; rfl
                have HMI := Lib.hid (show mi = i * wdT t + j by rw [hmi, HIE2.out])
                have HMR := Lib.hid (show mr = row * wdT t + j by rw [hmr, HIE.out])
                have HNA := Lib.hid (show (⟨g, mi, none⟩ : Addr) ≠ ⟨g, mr, none⟩ from fun e => by
                  simp only [Addr.mk.injEq, true_and, and_true] at e
                  exact HNE.out j j hjk hjk (by rw [← hmi, ← hmr]; exact e))
                have v2 := HCj.out.eq (x := mr) hx2 (by rw [HMR.out]; exact FC_own hjw hir)
                have HAJ := Lib.hid (fun n => HAT.out (wj.drewN n) (below_drewN (HBE.out wj HKj.out) n) i j hin hjk)
                obtain ⟨x, hx⟩ : ∃ x, x = atT t i j := ⟨_, rfl⟩
                obtain ⟨o, ho⟩ : ∃ x, x = ownV t row col j := ⟨_, rfl⟩
                rw [← hx] at HAJ
                rw [← ho] at v2
                have g1 : wj.cell? ⟨g, mi, none⟩ = some (.float .f32 (cj.getD mi 0)) := by
                  have hl : mi < cj.length := by rw [HCj.out.len]; exact hx1
                  rw [HOj.out.cellAt mi (by omega), List.getElem?_map, List.getElem?_eq_getElem hl, List.getD_eq_getElem?_getD, List.getElem?_eq_getElem hl]
                  rfl
                have g2 : wj.cell? ⟨g, mr, none⟩ = some (.float .f32 o) := by
                  have hl : mr < cj.length := by rw [HCj.out.len]; exact hx2
                  rw [HOj.out.cellAt mr (by omega), List.getElem?_map, List.getElem?_eq_getElem hl]
                  rw [List.getD_eq_getElem?_getD, List.getElem?_eq_getElem hl] at v2
                  simp only [Option.getD_some] at v2
                  rw [v2]
                  rfl
                have g3 := HOj.out.frozenAt mi
                have hmul := fun (X : World) => run_mul_all (P := Try.prog) 63 f o X
                have hsub := fun (m : Nat) (X : World) => run_sub_all (P := Try.prog) 63 x m X
                have HRAW := Lib.hid (show ∀ X Y, Mt (rawO t row col i j) (subV x (mulV f o X) Y) from fun X Y => by
                  unfold rawO
                  rw [← HF.out, ← ho, ← hx]
                  exact mt_rest x f o X Y)
                have HS1 := Lib.hid (fun (X : World) (v : Nat) (hX : ∃ n, X = wj.drewN n) => show (X.setCell ⟨g, mi, none⟩ (.float .f32 v)).ownsRow W0.heap.size 63 1 (.slice (some ⟨g, 0, none⟩) M gc) M ((cj.set mi v).map F32) by
                  obtain ⟨n, rfl⟩ := hX
                  rw [List.map_set]
                  exact ((show (wj.drewN n).ownsRow W0.heap.size 63 1 (.slice (some ⟨g, 0, none⟩) M gc) M (cj.map F32) from HOj.out).stored mi (.float .f32 v)).1)
                have HS2 := Lib.hid (fun (v : Nat) (hv : Mt (rawO t row col i j) v) => show Cnt (FC t row col i (j + 1)) M (cj.set mi v) by
                  rw [HMI.out]
                  exact FC_step HCj.out hjw (by rw [← HMI.out]; exact hx1) hv)
                have HS3 := Lib.hid (fun (X : World) (v : Value) (hX : ∃ n, X = wj.drewN n) => show Kept (· = g) w6 (X.setCell ⟨g, mi, none⟩ v) by
                  obtain ⟨n, rfl⟩ := hX
                  exact (HKj.out.drewN n).setCell (.inr rfl) _)
                clear hx ho v2 hmi hmr
                go_wp2_with fail
                go_region_law (first
                  | (go_simp; go_at_call 164; refine (HAJ.out _).mono ?_; rintro e w8 ⟨rfl, m8, rfl⟩)
                  | fail)
                all_goals
                  go_wp2_with fail
                  go_roundw
                  case rel => exact ⟨j + 1, cj.set mi _, by go_num, by omega, Lib.hid (HS1.out _ _ ⟨_, rfl⟩), Lib.hid (HS2.out _ (HRAW.out _ _)), Lib.hid (HS3.out _ _ ⟨_, rfl⟩)⟩
                  case measure => simp [intOf]; omega
              · obtain rfl : j = k := by omega
                obtain ⟨mi, hmi⟩ : ∃ m, m = I0 + col := ⟨_, rfl⟩
                have hx1 : mi < M := by omega
                have hx1I : (mi : Int) < (M : Int) := by omega
                have e3 : IntKind.i64.wrap ((I0 : Int) + (col : Int)) = (mi : Int) := by rw [IntWalk.i64_in _ (by omega), hmi]; push_cast; rfl
                have HMI := Lib.hid (show mi = i * wdT t + col by rw [hmi, HIE2.out])
                have g1 : wj.cell? ⟨g, mi, none⟩ = some (.float .f32 (cj.getD mi 0)) := by
                  have hl : mi < cj.length := by rw [HCj.out.len]; exact hx1
                  rw [HOj.out.cellAt mi (by omega), List.getElem?_map, List.getElem?_eq_getElem hl, List.getD_eq_getElem?_getD, List.getElem?_eq_getElem hl]
                  rfl
                have g3 := HOj.out.frozenAt mi
                clear hmi
                go_wp2_with fail
                go_roundw
                case rel => exact ⟨i + 1, cj.set mi 0, by go_num, by omega, Lib.hid (by rw [List.map_set]; exact (HOj.out.stored mi (.float .f32 0)).1), Lib.hid (by rw [HMI.out]; exact FB_next (by have := HW.out; omega) (by rw [HW.out]; exact HCj.out) (by rw [HW.out]; exact hcw) (by rw [← HMI.out]; exact hx1) hir), Lib.hid (HKj.out.setCell (.inr rfl) _)⟩
                case measure => simp [intOf]; omega
        · obtain rfl : i = N + 1 := by omega
          have HQi := Lib.hid (HQ6.out.kept HKP.out (fun e => hgq e.symm))
          have q2 : wi.cell? ⟨q, 2, none⟩ = some (.slice (some ⟨h, 0, none⟩) N hc) := HQi.out.cell 2 rfl
          have HHi := Lib.hid (owns_kept HH6.out HKP.out (fun b e1 e2 => hgh (by have : h = b := Option.some.inj e1; omega)))
          have hrN : (row : Int) < (N : Int) := by omega
          have hrl : row < t.basis.length := by rw [HN.out]; exact hr
          have g1 : wi.cell? ⟨h, row, none⟩ = some (.int .i64 (t.basis.getD row 0)) := by
            rw [HHi.out.cellAt row (by omega), List.getElem?_map, List.getElem?_eq_getElem hrl, List.getD_eq_getElem?_getD, List.getElem?_eq_getElem hrl]
            rfl
          have g3 := HHi.out.frozenAt row
          go_upto_region 22 with fail
          refine wp_at fun w8 hw8 => ?_
          have HQ8 := Lib.hid (show Blk w8 q 136 #[.int .i64 V, .slice (some ⟨g, 0, none⟩) M gc, .slice (some ⟨h, 0, none⟩) N hc] by subst hw8; exact HQi.out.other (fun e => hhq e.symm) _)
          have HO8 := Lib.hid (show w8.ownsRow W0.heap.size 63 1 (.slice (some ⟨g, 0, none⟩) M gc) M (cs.map F32) by
            subst hw8
            exact owns_kept HO.out (Kept.setCell (S := fun b => b = h) (Kept.refl _ wi) (p := ⟨h, row, none⟩) (.inr rfl) _) (fun b e1 e2 => hgh (by have : g = b := Option.some.inj e1; omega)))
          have HH8 := Lib.hid (show w8.ownsRow W0.heap.size 2 1 (.slice (some ⟨h, 0, none⟩) N hc) N ((pivB t row col).map I64) by
            subst hw8
            unfold pivB
            rw [List.map_set]
            exact (HHi.out.stored row (.int .i64 col)).1)
          have HK8 := Lib.hid (show Kept (fun b => b = g ∨ b = h) w6 w8 by subst hw8; exact (HKP.out.mono (fun _ _ e => .inl e)).setCell (.inr (.inr rfl)) _)
          clear hw8 q2 g1 g3 d2 HHi HQi
          have HC8 := Lib.hid (show Cnt (FE t row col) t.nums.length cs by
            refine FE_end HD.out ?_
            rw [HN.out, HM.out]
            exact HCN.out)
          obtain ⟨ok, hok⟩ : ∃ ok, ok = pivOk t row col := ⟨_, rfl⟩
          have hlB : (pivB t row col).length = N := by rw [pivB_len]; exact HN.out
          have hlC : cs.length = M := by have := HC8.out.len; rw [HM.out] at this; exact this
          have HR8 := Lib.hid (HR6.out.kept HK8.out (by rintro (e | e) <;> omega))
          have HB8 := Lib.hid (HB6.out.trans (HK8.out.toBelow HB6.out.size (by rintro b e1 (e | e) <;> omega)))
          have HVT := Lib.hid (show ∀ X, Kept (· = w.heap.size) w8 X → Calls Try.prog 183 #[.pointer (some ⟨q, 0, none⟩)] X fun e w' => e = .returned (.bool ok) ∧ ∃ m, w' = X.drewN m from fun X hk => by
            have hO := owns_kept HO8.out hk (fun b e => by have := (owns_lt HO8.out e).1; omega)
            have hH := owns_kept HH8.out hk (fun b e => by have := (owns_lt HH8.out e).1; omega)
            have hQ := HQ8.out.kept hk (by omega)
            have hrd : TpB X q ⟨V, cs, pivB t row col⟩ := ⟨some ⟨g, 0, none⟩, gc, some ⟨h, 0, none⟩, hc, (by show Blk X q _ #[.int .i64 V, .slice _ cs.length _, .slice _ (pivB t row col).length _]; rw [hlC, hlB]; exact hQ), (by show RdTb X (.agg #[.int .i64 V, .slice _ cs.length _, .slice _ (pivB t row col).length _]) _; rw [hlC, hlB]; exact ⟨_, _, rfl, slc_of_owns hO, slc_of_owns hH⟩)⟩
            have hdm : DimT ⟨V, cs, pivB t row col⟩ := by
              have hd := HD.out
              refine ⟨hv1, hv8, ?_, ?_, ?_⟩
              · show 1 ≤ (pivB t row col).length; rw [hlB]; omega
              · show (pivB t row col).length ≤ 8; rw [hlB]; exact hb8
              · show cs.length = (V + (pivB t row col).length + 1) * ((pivB t row col).length + 1)
                rw [hlC, hlB, HMW.out, ← HW.out]
                unfold wdT
                rw [HV.out, HN.out]
            have := l02Table_any q ⟨V, cs, pivB t row col⟩ X hrd hdm
            rw [show (allFin (TabD.mk V cs (pivB t row col)).nums && basOk (colsT ⟨V, cs, pivB t row col⟩) (TabD.mk V cs (pivB t row col)).basis) = ok from by
              rw [hok]
              show (allFin cs && basOk (V + (pivB t row col).length) (pivB t row col)) = _
              unfold pivOk
              rw [FE_fin HC8.out, hlB]
              unfold colsT
              rw [HV.out, HN.out]] at this
            exact this)
          have HRD := Lib.hid (show ok = true → cs = (pivT t row col).nums from fun h => FE_is HC8.out (by
            rw [hok] at h
            unfold pivOk at h
            rw [Bool.and_eq_true] at h
            exact h.1))
          have HFIN := Lib.hid (show ∀ Wf, Kept (· = w.heap.size) w8 Wf → ∃ x a n c b m d, (Ending.returned (.tuple #[.agg #[.int .i64 V, .slice (some ⟨g, 0, none⟩) M gc, .slice (some ⟨h, 0, none⟩) N hc], .bool ok]) : Ending) = .returned (.tuple #[.agg #[.int .i64 x, .slice a n c, .slice b m d], .bool (pivOk t row col)]) ∧ (pivOk t row col = true → ∀ Wg, Kept (· < w.heap.size) Wf Wg → RdTb Wg (.agg #[.int .i64 x, .slice a n c, .slice b m d]) (pivT t row col)) ∧ Below w.heap.size w Wf from fun Wf hk => by
            refine ⟨_, _, _, _, _, _, _, by rw [hok], fun h1 Wg hg => ?_, HB8.out.trans (hk.toBelow HB8.out.size (by intro k h1 h2; omega))⟩
            have e1 := HRD.out (by rw [hok]; exact h1)
            have hO := owns_kept (owns_kept HO8.out hk (fun b e => by have := (owns_lt HO8.out e).1; omega)) hg (fun b e => by have := (owns_lt HO8.out e).1; omega)
            have hH := owns_kept (owns_kept HH8.out hk (fun b e => by have := (owns_lt HH8.out e).1; omega)) hg (fun b e => by have := (owns_lt HH8.out e).1; omega)
            have hn : RdF Wg (.slice (some ⟨g, 0, none⟩) M gc) (pivT t row col).nums := by rw [← e1]; exact slc_of_owns hO
            have hs : RdI Wg (.slice (some ⟨h, 0, none⟩) N hc) (pivT t row col).basis := slc_of_owns hH
            exact ⟨_, _, by rw [← HV.out]; rfl, hn, hs⟩)
          have q0 := HQ8.out.cell 0 rfl
          have q1 := HQ8.out.cell 1 rfl
          have q2 := HQ8.out.cell 2 rfl
          have r0 := HR8.out.cell 0 rfl
          have r1 := HR8.out.cell 1 rfl
          have r2 := HR8.out.cell 2 rfl
          have s0 := HR8.out.free 0
          have s1 := HR8.out.free 1
          have s2 := HR8.out.free 2
          have hwq : w.heap.size ≠ q := by omega
          clear hok hlB hlC HRD HC8
          go_region_law (first
            | (go_simp; go_at_call 183; refine (HVT.out _ (by repeat' first | exact Kept.refl _ _ | refine Kept.setCell ?_ (.inr (by simp)) _ | refine Kept.drew ?_ | refine Kept.drewN ?_ _)).mono ?_; rintro e w9 ⟨rfl, m9, rfl⟩)
            | fail)
          all_goals
            go_wp2_with fail
            refine bodyPost_ret (v := .tuple #[.agg #[.int .i64 V, .slice (some ⟨g, 0, none⟩) M gc, .slice (some ⟨h, 0, none⟩) N hc], .bool ok]) (by simp [results, Try.results179, go_sem, *]) rfl (HFIN.out _ ?_)
            repeat' first | exact Kept.refl _ _ | refine Kept.setCell ?_ (.inr (by simp)) _ | refine Kept.drew ?_ | refine Kept.drewN ?_ _

end Go.Proofs.Ytkfiepiipigcmaa

namespace Go.Proofs.Ytkfiepiipigcmaa
open Go.RowKit

set_option maxHeartbeats 4000000 in
set_option maxRecDepth 8000 in
theorem l02Leave_any (bb : Nat) (t : TabD) (col near : Nat) (w : World) (h : TpB w bb t) (hg : GoodT t) (hc : col < colsT t) (hnr : least near = true) :
    Calls Try.prog 178 #[.pointer (some ⟨bb, 0, none⟩), .int .i64 col, .float .f32 near] w fun e w' => e = .returned (.int .i64 (leaveT t col near)) ∧ ∃ m, w' = w.drewN m := by
  have hd := hg.dim
  have h17 := hd.w17
  have hb8 := hd.b8
  have HW := Lib.hid (fun n => qs_of (l02Wide_any bb t (w.drewN n) (h.drewN n) hd))
  have HA := Lib.hid (fun n i (hi : i < t.basis.length) => qs_of (l02At_any bb t i col (w.drewN n) (h.drewN n) hd (by omega) (by rw [wdT_cols]; omega)))
  have HL := Lib.hid (show ∀ n i, i < t.basis.length → Calls Try.prog 164 #[.pointer (some ⟨bb, 0, none⟩), .int .i64 i, .int .i64 (colsT t : Nat)] (w.drewN n) fun e w'' => e = .returned (.float .f32 (lastT t i)) ∧ ∃ m, w'' = w.drewN m from fun n i hi => qs_of (l02At_any bb t i (colsT t) (w.drewN n) (h.drewN n) hd (by omega) (by rw [wdT_cols]; omega)))
  obtain ⟨a, c, b, d, hkb, hrt⟩ := h
  have HBS := Lib.hid hrt.parts.2
  have HDV := Lib.hid (show ∀ i, i < t.basis.length → gtF (atT t i col) near = true → Ieee.single.div (lastT t i) (atT t i col) = some (divV (lastT t i) (atT t i col)) from fun i hi hq => by
    have f1 := hg.at (i := i) (k := col) (by omega) (by rw [wdT_cols]; omega)
    have f2 := hg.at (i := i) (k := colsT t) (by omega) (by rw [wdT_cols]; omega)
    exact div_some f2 f1 (gt_zero f1 hnr hq))
  have HRG := Lib.hid (leaveK_rng t col near)
  have HST := Lib.hid (show ∀ i, leaveK t col near (i + 1) = if gtF (atT t i col) near = true then
      (if ((decide ((leaveK t col near i).1 < 0) || ltF (divV (lastT t i) (atT t i col)) (leaveK t col near i).2) || (eqF (divV (lastT t i) (atT t i col)) (leaveK t col near i).2 && decide (t.basis.getD i 0 < t.basis.getD (leaveK t col near i).1.toNat 0))) = true then ((i : Int), divV (lastT t i) (atT t i col)) else leaveK t col near i)
    else leaveK t col near i from fun i => rfl)
  obtain ⟨K, hK⟩ : ∃ K, K = leaveK t col near := ⟨_, rfl⟩
  have HEND := Lib.hid (show leaveT t col near = (K t.basis.length).1 by rw [hK]; rfl)
  have HK0 := Lib.hid (show K 0 = (-1, 0) by rw [hK]; rfl)
  rw [← hK] at HRG HST
  obtain ⟨C, hC⟩ : ∃ C, C = colsT t := ⟨_, rfl⟩
  have hWC : wdT t = C + 1 := by rw [hC]; rfl
  rw [hWC] at HW h17
  rw [← hC] at HL
  have hw1 : IntKind.i64.wrap (((C + 1 : Nat) : Int) - 1) = (C : Int) := by rw [IntWalk.i64_in _ (by omega)]; omega
  obtain ⟨W, hW⟩ : ∃ W : Int, W = ((C + 1 : Nat) : Int) := ⟨_, rfl⟩
  rw [← hW] at hw1 HW
  obtain ⟨N, hN⟩ : ∃ N, N = t.basis.length := ⟨_, rfl⟩
  have HN := Lib.hid hN.symm
  rw [← hN] at HA HL HDV HEND HBS hb8 hkb
  have d2 := hkb.cell 2 rfl
  clear hd hg hK hc hN hkb hrt hC hWC hW
  go_enter Try.func178, Try.ntmps178
  go_wp2_with fail
  go_loopw [7, 8, 9] (fun bv lv iv wr => ∃ i m : Nat, iv = .int .i64 i ∧ i ≤ N ∧ bv = .int .i64 (K i).1 ∧ lv = .float .f32 (K i).2 ∧ wr = w.drewN m) (fun _ _ iv _ => N + 1 - (intOf iv).toNat)
  case atStart => exact ⟨0, 0, rfl, Nat.zero_le _, by rw [HK0.out], by rw [HK0.out], rfl⟩
  case round =>
    obtain ⟨i, m, rfl, hi, rfl, rfl, rfl⟩ := hrel
    by_cases hlt : i < N
    · have hltI : (i : Int) < (N : Int) := by omega
      have HAI := Lib.hid (fun n => HA.out n i hlt)
      have HLI := Lib.hid (fun n => HL.out n i hlt)
      have hst := HST.out i
      have hdv := HDV.out i hlt
      have hrg := HRG.out i
      obtain ⟨n, hn⟩ : ∃ n, n = atT t i col := ⟨_, rfl⟩
      obtain ⟨l, hl⟩ : ∃ l, l = lastT t i := ⟨_, rfl⟩
      rw [← hn] at HAI hst hdv
      rw [← hl] at HLI hst hdv
      obtain ⟨q, hq⟩ : ∃ q, q = divV l n := ⟨_, rfl⟩
      rw [← hq] at hst
      obtain ⟨p, hp⟩ : ∃ p, p = gtF n near := ⟨_, rfl⟩
      rw [← hp] at hst hdv
      have hcmp : (FloatKind.f32.format.order n near == some .gt) = p := hp.symm
      have HQ := Lib.hid hq.symm
      clear hn hl hp hq
      cases p
      · have HS2 := Lib.hid (show K (i + 1) = K i from hst)
        clear hst hdv hrg
        go_wp2_with (go_at_call 164; refine (HAI.out _).mono ?_; rintro e w2 ⟨rfl, m2, rfl⟩)
        go_roundw
        case rel => exact ⟨i + 1, _, by go_num, by omega, by rw [HS2.out], by rw [HS2.out], rfl⟩
        case measure => simp [intOf]; omega
      · have hdiv := fun (W : World) => run_div_some (P := Try.prog) 63 (hdv rfl) W
        have hquo : divV l n = q := HQ.out
        obtain ⟨⟨B, L⟩, hS⟩ : ∃ s, s = K i := ⟨_, rfl⟩
        rw [← hS] at hst hrg ⊢
        simp only [if_true] at hst hrg ⊢
        clear hS
        go_upto_region 8 with (go_at_call 164; refine (HAI.out _).mono ?_; rintro e w2 ⟨rfl, m2, rfl⟩)
        clear HAI
        go_upto_region 9 with (first
          | (go_at_call 165; refine (HW.out _).mono ?_; rintro e w3 ⟨rfl, m3, rfl⟩)
          | (go_at_call 164; refine (HLI.out _).mono ?_; rintro e w4 ⟨rfl, m4, rfl⟩))
        obtain ⟨gb, go, rfl, _, h1⟩ := HBS.out.at (i := i) (by rw [HN.out]; exact hlt)
        obtain ⟨bi, hbi⟩ : ∃ x, x = t.basis.getD i 0 := ⟨_, rfl⟩
        rw [← hbi] at h1 hst
        clear hbi
        rcases hrg with hB | ⟨r, hri, hB, _⟩
        · subst hB
          have HS2 := Lib.hid (show K (i + 1) = ((i : Int), q) by rw [hst]; simp)
          clear hst
          go_quiet (fail)
          go_wp2_with fail
          go_roundw
          case rel => exact ⟨i + 1, _, by go_num, by omega, by rw [HS2.out], by rw [HS2.out], by first | rfl | rw [World.drewN_drewN]⟩
          case measure => simp [intOf]; omega
        · subst hB
          obtain ⟨gb2, go2, ee, _, h2⟩ := HBS.out.at (i := r) (by rw [HN.out]; omega)
          simp only [Option.some.injEq, Addr.mk.injEq, and_true] at ee
          obtain ⟨rfl, rfl⟩ := ee
          rw [show ((r : Int)).toNat = r by omega] at hst
          obtain ⟨br, hbr⟩ : ∃ x, x = t.basis.getD r 0 := ⟨_, rfl⟩
          rw [← hbr] at h2 hst
          have hrN : (r : Int) < (N : Int) := by omega
          have q0 : decide ((r : Int) < 0) = false := decide_eq_false (by omega)
          rw [q0] at hst
          clear hbr
          obtain ⟨c2, hc2⟩ : ∃ p, p = ltF q L := ⟨_, rfl⟩
          rw [← hc2] at hst
          have q2 : (FloatKind.f32.format.order q L == some .lt) = c2 := hc2.symm
          clear hc2
          cases c2
          · obtain ⟨c3, hc3⟩ : ∃ p, p = eqF q L := ⟨_, rfl⟩
            rw [← hc3] at hst
            have q3 : (FloatKind.f32.format.order q L == some .eq) = c3 := hc3.symm
            clear hc3
            cases c3
            · have HS2 := Lib.hid (show K (i + 1) = ((r : Int), L) by rw [hst]; simp)
              clear hst
              go_quiet (fail)
              go_wp2_with fail
              go_roundw
              case rel => exact ⟨i + 1, _, by go_num, by omega, by rw [HS2.out], by rw [HS2.out], by first | rfl | rw [World.drewN_drewN]⟩
              case measure => simp [intOf]; omega
            · by_cases c4 : bi < br
              · have q4 : decide (bi < br) = true := decide_eq_true c4
                have HS2 := Lib.hid (show K (i + 1) = ((i : Int), q) by rw [hst, q4]; simp)
                clear hst c4
                go_quiet (fail)
                go_wp2_with fail
                go_roundw
                case rel => exact ⟨i + 1, _, by go_num, by omega, by rw [HS2.out], by rw [HS2.out], by first | rfl | rw [World.drewN_drewN]⟩
                case measure => simp [intOf]; omega
              · have q4 : decide (bi < br) = false := decide_eq_false c4
                have HS2 := Lib.hid (show K (i + 1) = ((r : Int), L) by rw [hst, q4]; simp)
                clear hst c4
                go_quiet (fail)
                go_wp2_with fail
                go_roundw
                case rel => exact ⟨i + 1, _, by go_num, by omega, by rw [HS2.out], by rw [HS2.out], by first | rfl | rw [World.drewN_drewN]⟩
                case measure => simp [intOf]; omega
          · have HS2 := Lib.hid (show K (i + 1) = ((i : Int), q) by rw [hst]; simp)
            clear hst
            go_quiet (fail)
            go_wp2_with fail
            go_roundw
            case rel => exact ⟨i + 1, _, by go_num, by omega, by rw [HS2.out], by rw [HS2.out], by first | rfl | rw [World.drewN_drewN]⟩
            case measure => simp [intOf]; omega
    · obtain rfl : i = N := by omega
      go_wp2_with fail
      go_ret
      exact ⟨by rw [HEND.out]; rfl, _, rfl⟩

end Go.Proofs.Ytkfiepiipigcmaa
