/-
  A row is put behind all others: the program's walk.
-/
import Derived.Test.YtkcpncaedocdnaaAddRow
import Derived.Deep.CutRange
namespace Go.Proofs.Ytkcpncaedocdnaa
open Go.RowKit

set_option maxHeartbeats 4000000 in
set_option maxRecDepth 4000 in
theorem addRowI_any (v : Value) (r : RowsD) (fv : Value) (x : List Nat) (bd : Nat) (w : World) (h : RdR w v r) (hx : RdF w fv x) :
    Calls Try.prog 43 #[v, fv, .float .f32 bd] w fun e w' => ∃ v', e = .returned (.tuple #[v', .bool (addOk r x bd)]) ∧ OwnR w.heap.size w'.heap.size w' v' (addV r x bd) ∧ Below w.heap.size w w' := by
  obtain ⟨a1, c1, a2, c2, a3, c3, rfl⟩ := h.shape
  obtain ⟨fa, fc, rfl⟩ := hx.shape
  have lx := hx.len
  obtain ⟨n0, x1, x2, x3⟩ := r
  simp only at h ⊢
  obtain ⟨OK, hOK⟩ : ∃ OK : Bool, OK = addOk ⟨n0, x1, x2, x3⟩ x bd := ⟨_, rfl⟩
  obtain ⟨AV, hAV⟩ : ∃ AV : RowsD, AV = addV ⟨n0, x1, x2, x3⟩ x bd := ⟨_, rfl⟩
  rw [← hOK, ← hAV]
  have HP := Lib.hid h
  have HX := Lib.hid hx
  have LX := Lib.hid lx
  have HOK := Lib.hid hOK
  have HAV := Lib.hid hAV
  clear h hx lx hOK hAV
  obtain ⟨T, hT⟩ : ∃ T : Bool, T = (!(validR ⟨n0, x1, x2, x3⟩) || ((x.length : Int) != n0)) := ⟨_, rfl⟩
  have HT := Lib.hid hT
  clear hT
  go_enter Try.func43, Try.ntmps43
  go_upto_region 1 with fail
  refine wp_at fun W hW => ?_
  have HB := Lib.hid (show Below w.heap.size w W by subst hW; (repeat' first | exact Below.refl _ _ | assumption | refine Below.alloc ?_ ?_ _ | refine Below.setCell ?_ ?_ _ | refine Below.drew ?_ | (simp; done) | (simp; omega)))
  have HK := Lib.hid (show Blk W w.heap.size 49 #[.int .i64 n0, .slice a1 x1.length c1, .slice a2 x2.length c2, .slice a3 x3.length c3] by subst hW; exact (Blk.new _ _ _).alloc _)
  have HL := Lib.hid (show Blk W (w.heap.size + 1) 49 #[.int .i64 0, .slice none 0 0, .slice none 0 0, .slice none 0 0] by subst hW; exact Blk.newB _ _ _ _ (by simp))
  clear hW
  have hl1 := HL.out.lt
  go_cut [19] from 9 (fun t19 wx => t19 = .bool T ∧ Below W.heap.size W wx)
  case first =>
    have HKEEP := Lib.hid (show ∀ X, Below W.heap.size W X → X.cell? ⟨w.heap.size, 0, none⟩ = some (.int .i64 n0) ∧ X.cell? ⟨w.heap.size, 1, none⟩ = some (.slice a1 x1.length c1) ∧ X.cell? ⟨w.heap.size, 2, none⟩ = some (.slice a2 x2.length c2) ∧ X.cell? ⟨w.heap.size, 3, none⟩ = some (.slice a3 x3.length c3) from fun X hb => by
      have k := HK.out.below hb HK.out.lt
      exact ⟨k.cell 0 rfl, k.cell 1 rfl, k.cell 2 rfl, k.cell 3 rfl⟩)
    by_cases hv : validR ⟨n0, x1, x2, x3⟩ = true
    · have HV := Lib.hid hv
      clear hv
      go_region_held3 (fun X => X.cell? ⟨w.heap.size, 0, none⟩ = some (.int .i64 n0) ∧ X.cell? ⟨w.heap.size, 1, none⟩ = some (.slice a1 x1.length c1) ∧ X.cell? ⟨w.heap.size, 2, none⟩ = some (.slice a2 x2.length c2) ∧ X.cell? ⟨w.heap.size, 3, none⟩ = some (.slice a3 x3.length c3))
        (first | exact HKEEP.out _ hbn | (refine HKEEP.out _ ?_; (repeat' first | exact Below.refl _ _ | assumption | refine Below.alloc ?_ ?_ _ | refine Below.setCell ?_ ?_ _ | refine Below.drew ?_ | (simp; done) | (simp; omega)); done) | go_keep)
        (first
          | (go_at_call 87; refine (ValidRows_any _ ⟨n0, x1, x2, x3⟩ _ (HP.out.up (HB.out.trans (show Below w.heap.size W _ from Below.mono (B := W.heap.size) (by (repeat' first | exact Below.refl _ _ | assumption | refine Below.alloc ?_ ?_ _ | refine Below.setCell ?_ ?_ _ | refine Below.drew ?_ | (simp; done) | (simp; omega))) HB.out.size)) (Nat.le_refl _))).mono ?_; rintro e w1 ⟨rfl, hb1⟩; rw [HV.out]; have hbn : Below W.heap.size W w1 := Below.trans (by (repeat' first | exact Below.refl _ _ | assumption | refine Below.alloc ?_ ?_ _ | refine Below.setCell ?_ ?_ _ | refine Below.drew ?_ | (simp; done) | (simp; omega))) (hb1.mono (by simp)))
          | (go_at_call 95; refine (size_any _ _ LX.out).mono ?_; rintro e w' ⟨rfl, rfl⟩))
      go_wp2_with fail
      go_meet
      case rel => exact ⟨by rw [HT.out, HV.out]; simp, hbn⟩
    · rw [Bool.not_eq_true] at hv
      have HV := Lib.hid hv
      clear hv
      have dd := HKEEP.out W (Below.refl _ _)
      obtain ⟨d0, d1, d2, d3⟩ := dd
      first | (go_region_with (go_at_call 87; refine (ValidRows_any _ ⟨n0, x1, x2, x3⟩ _ (HP.out.up (HB.out.trans (show Below w.heap.size W _ from Below.mono (B := W.heap.size) (by (repeat' first | exact Below.refl _ _ | assumption | refine Below.alloc ?_ ?_ _ | refine Below.setCell ?_ ?_ _ | refine Below.drew ?_ | (simp; done) | (simp; omega))) HB.out.size)) (Nat.le_refl _))).mono ?_; rintro e w1 ⟨rfl, hb1⟩; rw [HV.out]; have hbn : Below W.heap.size W w1 := Below.trans (by (repeat' first | exact Below.refl _ _ | assumption | refine Below.alloc ?_ ?_ _ | refine Below.setCell ?_ ?_ _ | refine Below.drew ?_ | (simp; done) | (simp; omega))) (hb1.mono (by simp)); clear d0 d1 d2 d3)) | fail
      all_goals
        go_wp2_with fail
        go_meet
      all_goals exact ⟨by rw [HT.out, HV.out]; rfl, hbn⟩
  case rest =>
    obtain ⟨rfl, hbw⟩ := hcut
    have hsz := hbw.size
    have hlc := HL.out.below hbw HL.out.lt
    have HLc := Lib.hid hlc
    have HBw := Lib.hid hbw
    clear hlc hbw
    cases hT : T
    case true =>
      have HT1 := Lib.hid (HT.out.symm.trans hT)
      clear hT
      have e0 := HLc.out.cell 0 rfl
      have e1 := HLc.out.cell 1 rfl
      have e2 := HLc.out.cell 2 rfl
      have e3 := HLc.out.cell 3 rfl
      have f0 := HLc.out.free 0
      have f1 := HLc.out.free 1
      have f2 := HLc.out.free 2
      have f3 := HLc.out.free 3
      go_wp2_with fail
      refine bodyPost_ret (v := .tuple #[.agg #[.int .i64 0, .slice none 0 0, .slice none 0 0, .slice none 0 0], .bool false]) (by simp [results, Try.results43, go_sem, *]) rfl ?_
      have hok : addOk ⟨n0, x1, x2, x3⟩ x bd = false := addOk_T HT1.out
      refine ⟨_, by rw [HOK.out, hok], ?_, ?_⟩
      · rw [HAV.out, addV, hok]; exact ownR_zero _ _ _
      · refine (HB.out.trans (HBw.out.mono HB.out.size)).trans (Kept.toBelow (S := (· = w.heap.size + 1)) ?_ (by omega) (by intro k h1 h2; omega))
        repeat' first | exact Kept.refl _ _ | refine Kept.setCell ?_ (.inr (by simp)) _
    case false =>
      have HT0 := Lib.hid (HT.out.symm.trans hT)
      clear hT
      have hkc := HK.out.below HBw.out HK.out.lt
      have d0 := hkc.cell 0 rfl
      have d1 := hkc.cell 1 rfl
      have d2 := hkc.cell 2 rfl
      have d3 := hkc.cell 3 rfl
      clear hkc
      have HF := Lib.hid (addOk_F (r := ⟨n0, x1, x2, x3⟩) (x := x) (b := bd) HT0.out)
      have HPc := Lib.hid (HP.out.up (HB.out.trans (HBw.out.mono HB.out.size)) (Nat.le_refl _))
      have hbo := boundR HP.out HF.out.1
      simp only at hbo
      have HBO := Lib.hid hbo
      clear hbo
      go_upto_region 4 with (go_at_call 96; refine (ownRows_any _ ⟨n0, x1, x2, x3⟩ _ HPc.out (by have := HBO.out; simp only [bulkR]; omega)).mono ?_; rintro e w1 ⟨v', rfl, ho, hb1⟩; obtain ⟨b1, k1, b2, k2, b3, k3, rfl⟩ := ho.rd.shape; have HO := Lib.hid ho; have HB1 := Lib.hid hb1; have hs1 := hb1.size; clear ho hb1)
      refine wp_at fun W4 hW4 => ?_
      have HG := Lib.hid (show Blk W4 w1.heap.size 49 #[.int .i64 n0, .slice b1 x1.length k1, .slice b2 x2.length k2, .slice b3 x3.length k3] by subst hW4; exact Blk.newB _ _ _ _ (by simp))
      have HO4 := Lib.hid (show OwnR wc.heap.size w1.heap.size W4 (.agg #[.int .i64 n0, .slice b1 x1.length k1, .slice b2 x2.length k2, .slice b3 x3.length k3]) ⟨n0, x1, x2, x3⟩ by
        subst hW4; exact HO.out.up ((Below.refl _ _).alloc (Nat.le_refl _) _) (Nat.le_refl _))
      have HB4 := Lib.hid (show Below wc.heap.size wc W4 by subst hW4; exact HB1.out.alloc HB1.out.size _)
      have hs4 : w1.heap.size < W4.heap.size := HG.out.lt
      clear hW4
      have g0 := HG.out.cell 0 rfl
      have g1 := HG.out.cell 1 rfl
      have g2 := HG.out.cell 2 rfl
      have g3 := HG.out.cell 3 rfl
      have HXc := Lib.hid (HX.out.up (HB.out.trans ((HBw.out.trans (HB4.out.mono hsz)).mono HB.out.size)) (Nat.le_refl _))
      have hlen1 : x1.length + x.length ≤ 17592186044416 := by
        have h1 := HBO.out
        have h2 := HF.out.2.1
        have h3 := HF.out.1.v8
        simp only at h2 h3
        omega
      go_upto_region 5 with (at_builtin; refine app_fltsL rfl _ _ rfl wc.heap.size (.slice b1 x1.length k1) x1.length x1 rfl HO4.out.parts.1.1 _ x rfl HXc.out (x1.length + x.length) (x1 ++ x) rfl rfl hlen1 HB4.out.size ?_; intro y1 e1 w5 hown5 hbl5 hg5 hl5; have HG5 := Lib.hid (blk_grown HG.out hg5 (HG.out.not_owned HO4.out.parts.1.1 (by decide))); have q1 := HG5.out.cell 1 rfl; have q2 := HG5.out.free 1)
      refine wp_at fun W6 hW6 => ?_
      have HO6' := ownR_set (ownR_app1 HO4.out (by omega) hg5 hown5 hl5) HG5.out 1 (.slice y1 (x1.length + x.length) e1)
      have HO6 := Lib.hid (show OwnR wc.heap.size W6.heap.size W6 (.agg #[.int .i64 n0, .slice y1 (x1.length + x.length) e1, .slice b2 x2.length k2, .slice b3 x3.length k3]) ⟨n0, x1 ++ x, x2, x3⟩ by subst hW6; simpa using HO6')
      have HG6 := Lib.hid (show Blk W6 w1.heap.size 49 #[.int .i64 n0, .slice y1 (x1.length + x.length) e1, .slice b2 x2.length k2, .slice b3 x3.length k3] by subst hW6; simpa using HG5.out.set 1 (.slice y1 (x1.length + x.length) e1))
      have HB6 := Lib.hid (show Below wc.heap.size wc W6 by subst hW6; exact (HB4.out.trans hbl5).setCell hs1 _)
      clear hW6 HO6' hown5 hbl5 hg5 hl5 q1 q2 HG5 g0 g1 g2 g3 HG
      have g0 := HG6.out.cell 0 rfl
      have g1 := HG6.out.cell 1 rfl
      have g2 := HG6.out.cell 2 rfl
      have g3 := HG6.out.cell 3 rfl
      have hgl := HG6.out.lt
      have hlen2 : x2.length + 1 ≤ 17592186044416 := by have h1 := HBO.out; omega
      go_upto_region 6 with (at_builtin; refine app_fltsL rfl _ _ rfl wc.heap.size (.slice b2 x2.length k2) x2.length x2 rfl (HO6.out.up ((Below.refl W6.heap.size W6).alloc (Nat.le_refl _) _) (Nat.le_refl _)).parts.2.1.1 _ [bd] rfl (slcF_one W6 bd) (x2.length + 1) (x2 ++ [bd]) rfl rfl hlen2 (by have := HB6.out.size; simp; omega) ?_; intro y2 e2 w7 hown7 hbl7 hg7 hl7; have HG7 := Lib.hid (blk_grown (HG6.out.alloc (.cells #[.float .f32 bd] 59)) hg7 ((HG6.out.alloc (.cells #[.float .f32 bd] 59)).not_owned (HO6.out.up ((Below.refl W6.heap.size W6).alloc (Nat.le_refl _) _) (Nat.le_refl _)).parts.2.1.1 (by decide))); have q1 := HG7.out.cell 2 rfl; have q2 := HG7.out.free 2)
      refine wp_at fun W8 hW8 => ?_
      have HO8' := ownR_set (ownR_app2 (HO6.out.up ((Below.refl W6.heap.size W6).alloc (Nat.le_refl _) (.cells #[.float .f32 bd] 59)) (Nat.le_refl _)) (by simp) hg7 hown7 hl7) HG7.out 2 (.slice y2 (x2.length + 1) e2)
      have HO8 := Lib.hid (show OwnR wc.heap.size W8.heap.size W8 (.agg #[.int .i64 n0, .slice y1 (x1.length + x.length) e1, .slice y2 (x2.length + 1) e2, .slice b3 x3.length k3]) (addRw ⟨n0, x1, x2, x3⟩ x bd) by subst hW8; simpa [addRw] using HO8')
      have HG8 := Lib.hid (show Blk W8 w1.heap.size 49 #[.int .i64 n0, .slice y1 (x1.length + x.length) e1, .slice y2 (x2.length + 1) e2, .slice b3 x3.length k3] by subst hW8; simpa using HG7.out.set 2 (.slice y2 (x2.length + 1) e2))
      have HB8 := Lib.hid (show Below wc.heap.size wc W8 by subst hW8; exact ((HB6.out.alloc HB6.out.size _).trans hbl7).setCell hs1 _)
      clear hW8 HO8' hown7 hbl7 hg7 hl7 q1 q2 HG7 g0 g1 g2 g3 HG6
      have g0 := HG8.out.cell 0 rfl
      have g1 := HG8.out.cell 1 rfl
      have g2 := HG8.out.cell 2 rfl
      have g3 := HG8.out.cell 3 rfl
      go_wp2_with fail
      refine (checked_any _ (addRw ⟨n0, x1, x2, x3⟩ x bd) W8 HO8.out.rd).mono ?_
      rintro e w9 ⟨rfl, hb9⟩
      have HB9 := Lib.hid (HB8.out.trans (hb9.mono HB8.out.size))
      have HO9 := Lib.hid (HO8.out.up hb9 (Nat.le_refl _))
      have hs9 := hb9.size
      have hs98 := HB9.out.size
      clear hb9 g0 g1 g2 g3
      have hlc := HLc.out.below HB9.out HLc.out.lt
      have e0 := hlc.cell 0 rfl
      have e1' := hlc.cell 1 rfl
      have e2' := hlc.cell 2 rfl
      have e3 := hlc.cell 3 rfl
      have f0 := hlc.free 0
      have f1 := hlc.free 1
      have f2 := hlc.free 2
      have f3 := hlc.free 3
      clear hlc
      have FIN := Lib.hid (show ∀ Wf, Kept (· = w.heap.size + 1) w9 Wf → Below w.heap.size w Wf from fun Wf hk => (HB.out.trans ((HBw.out.trans (HB9.out.mono hsz)).mono HB.out.size)).trans (hk.toBelow (by have := HB.out.size; omega) (by intro k h1 h2; omega)))
      by_cases hv : validR (addRw ⟨n0, x1, x2, x3⟩ x bd) = true
      · have HV := Lib.hid hv
        rw [hv]
        clear hv
        go_wp2_with fail
        refine bodyPost_ret (v := .tuple #[.agg #[.int .i64 n0, .slice y1 (x1.length + x.length) e1, .slice y2 (x2.length + 1) e2, .slice b3 x3.length k3], .bool true]) (by simp [results, Try.results43, go_sem, *]) rfl ?_
        have hok : addOk ⟨n0, x1, x2, x3⟩ x bd = true := HF.out.2.2.trans HV.out
        suffices hF : ∀ Wf, Kept (· = w.heap.size + 1) w9 Wf → ∃ v', Ending.returned (.tuple #[.agg #[.int .i64 n0, .slice y1 (x1.length + x.length) e1, .slice y2 (x2.length + 1) e2, .slice b3 x3.length k3], .bool true]) = .returned (.tuple #[v', .bool OK]) ∧ OwnR w.heap.size Wf.heap.size Wf v' AV ∧ Below w.heap.size w Wf by
          refine hF _ ?_
          repeat' first | exact Kept.refl _ _ | refine Kept.setCell ?_ (.inr (by simp)) _
        intro Wf hK
        refine ⟨_, by rw [HOK.out, hok], ?_, FIN.out _ hK⟩
        rw [HAV.out, addV, if_pos hok]
        have hz := hK.size
        have hbz := HB.out.size
        exact (HO9.out.kept hK (by intro b h1 h2 h3; omega)).wide (by omega) (by omega)
      · rw [Bool.not_eq_true] at hv
        have HV := Lib.hid hv
        rw [hv]
        clear hv
        go_wp2_with fail
        refine bodyPost_ret (v := .tuple #[.agg #[.int .i64 0, .slice none 0 0, .slice none 0 0, .slice none 0 0], .bool false]) (by simp [results, Try.results43, go_sem, *]) rfl ?_
        have hok : addOk ⟨n0, x1, x2, x3⟩ x bd = false := HF.out.2.2.trans HV.out
        refine ⟨_, by rw [HOK.out, hok], by rw [HAV.out, addV, hok]; exact ownR_zero _ _ _, FIN.out _ ?_⟩
        repeat' first | exact Kept.refl _ _ | refine Kept.setCell ?_ (.inr (by simp)) _

end Go.Proofs.Ytkcpncaedocdnaa
